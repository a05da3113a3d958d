/- Contracts and lemmas that the claim uses. -/
import Derived.Test.YtejabnoidhlfaaaV08
set_option maxRecDepth 100000
set_option maxHeartbeats 16000000
namespace Go.Proofs.Ytejabnoidhlfaaa
open Go.RowKit Go.Maps
theorem insOf_len (g : Int → Option ByteArray) (want : Int) (k : Nat) : (insOf g want k).length ≤ k := by
 induction k with
 | zero => simp [insOf]
 | succ k ih =>
  rw [insOf_succ, List.length_append]; have : (inOf g want k).length ≤ 1 := by unfold inOf; split <;> simp
  omega
def ImAt (w : World) (D : Option Addr) (l : List Im) : Prop := l ≠ [] → ∃ b off cur, D = some ⟨b, off, none⟩ ∧ Blk w b (.cells cur 73)
theorem im_of_own {w : World} {B c : Nat} {A : Option Addr} {l : List Im} (h : w.ownsRow B 73 2 (.slice A l.length c) l.length (ims l)) : ImAt w A l := fun hn => by
 rcases h.2 with ⟨_, h0⟩ | ⟨g, cap, cur, hv, hb, hh, _⟩
 ·exact absurd (List.eq_nil_of_length_eq_zero h0) hn
 ·injection hv with h1; exact ⟨g, 0, cur, h1, hh⟩
theorem ImAt.frame {S : Nat → Prop} {w w' : World} {D : Option Addr} {l : List Im} (h : ImAt w D l) (hF : Frame S w w') (hn : ∀ b cur, Blk w b (.cells cur 73) → ¬ S b) : ImAt w' D l := fun h0 => by
 obtain ⟨b, off, cur, h1, h2⟩ := h h0; exact ⟨b, off, cur, h1, h2.frame hF (hn b cur h2)⟩
theorem shut_full (bx bm : Nat) (e : En) (A : Option Addr) (c : Nat) (vi : Value) (B : Nat) (w : World) (h : Xs w bx bm e A c vi) (hg : GoodP e) (hB : B ≤ bx) (hBw : B ≤ w.heap.size) (hne : ous e.out ≠ [] → ∀ a, A = some a → a.block ≠ bx) :
  Calls Try.prog 42 #[.pointer (some ⟨bx, 0, none⟩)] w fun r w' => ∃ D d, r = .returned (enV e A c D d) ∧ EnAt w' e A D ∧ Below B w w' ∧ Frame (fun b => b = bx) w w' ∧ (∀ a, D = some a → w.heap.size ≤ a.block) ∧ ImAt w' D e.inn ∧ Blk w' bx (.cells #[.int .i64 e.life, .int .i64 e.peer, .int .i64 e.phase, .int .i64 e.base, .slice A e.out.length c, .int .i64 e.want, .slice D e.inn.length d, .map (some bm)] 84) := by
 have hw := hg.want; unfold most at hw; have HI : Hid (insOf (getN e.inn) e.want 3 = e.inn) := insOf_get hg.ins.1 (fun x hx => (hg.ins.2 x hx).1); have HX := Lib.hid h; have HNE := Lib.hid hne; have hmb := h.map.not_blk h.box; have hbl := h.box.lt; have hml := h.map.lt; have c6 := h.box.cell 6 (v := vi) rfl; have y6 := h.box.free 6; clear h hne; go_enter Try.func42, Try.ntmps42
 go_wp2_with fail
 clear c6 y6; obtain ⟨W, hW⟩ : ∃ W, (w.setCell ⟨bx, 6, none⟩ (.slice none 0 0)).alloc (.cells #[.int .i64 0, .int .i64 0, .int .i64 0, .int .i64 0, .slice none 0 0, .int .i64 0, .slice none 0 0] 26) = W := ⟨_, rfl⟩; rw [hW]; have hF0 : Frame (fun b => b = bx) w W := by rw [← hW]; exact ((Frame.refl (fun b => b = bx) w).setCell (p := ⟨bx, 6, none⟩) (.inl rfl) _).alloc _
 have hsW : W.heap.size = w.heap.size + 1 := by rw [← hW]; simp [World.setCell]
 have HBX0 : Hid (Blk W bx (.cells #[.int .i64 e.life, .int .i64 e.peer, .int .i64 e.phase, .int .i64 e.base, .slice A e.out.length c, .int .i64 e.want, .slice none 0 0, .map (some bm)] 84)) := by rw [← hW]; exact (HX.out.box.set 6 _).alloc _
 have HBN : Hid (Blk W w.heap.size (.cells (enB noEn none 0 none 0) 26)) := by
  rw [← hW]; have e1 := Blk.new (w.setCell ⟨bx, 6, none⟩ (.slice none 0 0)) (.cells #[.int .i64 0, .int .i64 0, .int .i64 0, .int .i64 0, .slice none 0 0, .int .i64 0, .slice none 0 0] 26); have e2 : (w.setCell ⟨bx, 6, none⟩ (.slice none 0 0)).heap.size = w.heap.size := by simp [World.setCell]
  rw [e2] at e1; exact e1
 have HF0 := Lib.hid hF0; clear hW hF0; go_loopw [10] (fun i wr => ∃ (k : Nat) (Ai : Option Addr) (ci : Nat), k ≤ 3 ∧ i = .int .i64 k ∧ Blk wr bx (.cells #[.int .i64 e.life, .int .i64 e.peer, .int .i64 e.phase, .int .i64 e.base, .slice A e.out.length c, .int .i64 e.want, .slice Ai (insOf (getN e.inn) e.want k).length ci, .map (some bm)] 84) ∧
   wr.ownsRow W.heap.size 73 2 (.slice Ai (insOf (getN e.inn) e.want k).length ci) (insOf (getN e.inn) e.want k).length (ims (insOf (getN e.inn) e.want k)) ∧ Frame (fun b => b = bx) W wr) (fun i _ => 3 - (intOf i).toNat)
 case atStart => exact ⟨0, none, 0, by omega, rfl, HBX0.out, World.ownsRow_nil _ _ _ _, Frame.refl _ _⟩
 case round =>
  obtain ⟨k, Ai, ci, hk, hik, hbx, hown, hF⟩ := hrel; have HBX := Lib.hid hbx; have HON := Lib.hid hown; have HF := Lib.hid hF; have hsr := hF.size; have hbxl := hbx.lt; have hql := insOf_len (getN e.inn) e.want k; clear hbx hown hF; by_cases hlt : k < 3
  ·obtain ⟨jj, hjj⟩ : ∃ jj : Int, (k : Int) = jj := ⟨_, rfl⟩; obtain ⟨G, HG⟩ : ∃ x, Hid (getN e.inn (e.want + 1 + jj) = x) := ⟨_, rfl⟩; have hmr : Early wr.drew bm (getN e.inn) := ((HX.out.map.frame HF0.out hmb).frame HF.out hmb).frame (S := fun _ => False) (Frame.refl _ _).drew (fun h => h); have hlook := hmr.look (k := e.want + 1 + jj) ⟨by omega, by omega⟩; rw [HG.out] at hlook; have c5 := HBX.out.cell 5 (v := .int .i64 e.want) rfl; have c7 := HBX.out.cell 7 (v := .map (some bm)) rfl; have hw1 : IntKind.i64.wrap (e.want + 1) = e.want + 1 := wrap_ok ⟨by omega, by omega⟩; have hw2 : IntKind.i64.wrap (e.want + 1 + jj) = e.want + 1 + jj := wrap_ok ⟨by omega, by omega⟩; rw [hjj] at hik; subst hik; have hj3 : jj < 3 := by omega
   have hj0 : 0 ≤ jj := by omega
   have HJ := Lib.hid hjj; have HST := Lib.hid (insOf_succ (getN e.inn) e.want k); clear hmr hjj; cases G with
   | none =>
    have HST' : Hid (insOf (getN e.inn) e.want (k + 1) = insOf (getN e.inn) e.want k) := by
     show _ = _; rw [HST.out]; unfold inOf; rw [HJ.out, HG.out, List.append_nil]
    simp only [Option.getD, Option.isSome] at hlook; go_wp2; refine sall (by kernel_rfl) (by kernel_rfl) (fun Kq hKq => ?_); repeat still_step
    refine wpStill_nil (hKq _ ?_); clear hKq Kq; go_wp2; go_roundw
    case rel => exact ⟨k + 1, Ai, ci, by omega, by (rw [← HJ.out]; go_num), by rw [HST'.out]; exact HBX.out.drew, by rw [HST'.out]; exact HON.out, HF.out.drew⟩
    case measure => simp [intOf]; omega
   | some s =>
    have HST' : Hid (insOf (getN e.inn) e.want (k + 1) = insOf (getN e.inn) e.want k ++ [⟨e.want + 1 + jj, s⟩]) := by
     show _ = _; rw [HST.out]; unfold inOf; rw [HJ.out, HG.out]
    simp only [Option.getD, Option.isSome] at hlook; obtain ⟨q, hq⟩ : ∃ q, Hid ((insOf (getN e.inn) e.want k).length = q) := ⟨_, rfl⟩; obtain ⟨qs, hqs⟩ : ∃ qs, Hid (ims (insOf (getN e.inn) e.want k) = qs) := ⟨_, rfl⟩; rw [hq.out] at HBX HON hql; rw [hqs.out] at HON; have HOD : Hid (wr.drew.drew.ownsRow W.heap.size 73 2 (.slice Ai q ci) q qs) := HON.out; go_wp2; refine sall (by kernel_rfl) (by kernel_rfl) (fun Kq hKq => ?_); repeat still_step
    refine wpStill_nil (hKq _ ?_); clear hKq Kq; go_wp2; clear c5 c7; refine drawl (fun w' => Frame (fun b => (Value.slice Ai q ci).ownBlock = some b) wr w') 21 21 rfl (by kernel_rfl) (fun Qd hQd => ?_); iterate 16 (first | apply sL 0 (by rfl) (by kernel_rfl) rfl (by kernel_rfl) | apply sL 1 (by rfl) (by kernel_rfl) rfl (by kernel_rfl) | apply sL 6 (by rfl) (by kernel_rfl) rfl (by kernel_rfl) | apply sL 12 (by rfl) (by kernel_rfl) rfl (by kernel_rfl) | apply sL 14 (by rfl) (by kernel_rfl) rfl (by kernel_rfl) | apply sL 2 (by rfl) (by kernel_rfl) rfl (by kernel_rfl) | apply sL 7 (by rfl) (by kernel_rfl) rfl (by kernel_rfl) | apply sL 3 (by rfl) (by kernel_rfl) rfl (by kernel_rfl) | apply sL 8 (by rfl) (by kernel_rfl) rfl (by kernel_rfl) | apply sL 4 (by rfl) (by kernel_rfl) rfl (by kernel_rfl) | apply sL 9 (by rfl) (by kernel_rfl) rfl (by kernel_rfl) | apply sL 5 (by rfl) (by kernel_rfl) rfl (by kernel_rfl) | apply sL 10 (by rfl) (by kernel_rfl) rfl (by kernel_rfl) | apply sL 11 (by rfl) (by kernel_rfl) rfl (by kernel_rfl) | apply sL 13 (by rfl) (by kernel_rfl) rfl (by kernel_rfl) | apply sL 15 (by rfl) (by kernel_rfl) rfl (by kernel_rfl)); (focus intro wI hI Kv hKv; have t5 := (HBX.out.frame hI (fun e => own_ne HON.out HBX.out (by decide) e)).cell 5 (v := .int .i64 e.want) rfl; have t6 := (HBX.out.frame hI (fun e => own_ne HON.out HBX.out (by decide) e)).cell 6 (v := .slice Ai q ci) rfl; go_simp; exact hKv); intro Kd hKd; go_simp; refine hKd _ ?_; clear hKd Kd
    refine anyL_one 16 rfl (by kernel_rfl) ((Frame.refl _ wr).drew.drew) (fun Kd hKd => ?_); go_wp2; refine anyL_one 17 rfl (by kernel_rfl) (((Frame.refl _ wr).drew.drew.alloc _)) (fun Kd hKd => ?_); go_wp2_with (at_builtin; go_must (refine wpList_app1' rIm _ rfl _ _ rfl HOD.out rfl [_, _] 1 rfl rfl (by simp [Value.oneCell']) (by omega) (by show W.heap.size ≤ wr.heap.size; omega) ?_); intro v6 w6 ho6 hB6 hg6 hloc6; obtain ⟨g7, cap7, rfl⟩ := ownsRow_succ ho6)
    have hbd : Blk wr.drew.drew bx (.cells #[.int .i64 e.life, .int .i64 e.peer, .int .i64 e.phase, .int .i64 e.base, .slice A e.out.length c, .int .i64 e.want, .slice Ai q ci, .map (some bm)] 84) := HBX.out; have bx6 := hbd.grown hg6 (own_ne HOD.out hbd (by decide)); have k2 := bx6.cell 6 (v := .slice Ai q ci) rfl; have k3 := bx6.free 6; have k4 := bx6.lt; have HG6 : Hid (Frame (fun b => (Value.slice Ai q ci).ownBlock = some b) wr w6) := (Frame.refl _ wr).drew.drew.trans (Frame.of_grown hg6) (fun _ _ h => h); have HO6 := Lib.hid ho6; have HBX6 := Lib.hid bx6; clear ho6 hB6 hg6 hloc6 bx6 hbd; refine anyL_one 18 rfl (by kernel_rfl) (HG6.out) (fun Kd hKd => ?_); go_wp2; refine anyL_one 19 rfl (by kernel_rfl) (HG6.out) (fun Kd hKd => ?_); go_wp2; apply anyL_step 20 (by kernel_rfl) rfl (by kernel_rfl); (focus intro wI hI Kv hKv; go_simp; exact hKv); intro Kd hKd; go_simp; refine hKd _ ?_; clear hKd Kd
    refine anyL_end rfl (by kernel_rfl) (HG6.out) (fun Kd hKd => ?_); go_wp2; go_roundw
    case rel =>
     have hset : Frame (fun b => b = bx) w6 (w6.setCell ⟨bx, 6, none⟩ (.slice (some ⟨g7, 0, none⟩) (q + 1) cap7)) := (Frame.refl (fun b => b = bx) w6).setCell (p := ⟨bx, 6, none⟩) (.inl rfl) _; have ho6' := own_frame HO6.out hset (fun g hg e => own_ne HO6.out HBX6.out (by decide) (by rw [hg, e])); refine ⟨k + 1, some ⟨g7, 0, none⟩, cap7, by omega, by (rw [← HJ.out]; go_num), ?_, ?_, ?_⟩
     ·rw [HST'.out, List.length_append, hq.out]; exact HBX6.out.set 6 _
     ·rw [HST'.out, List.length_append, hq.out, ims_snoc, hqs.out]; exact ho6'
     ·exact (HF.out.trans HG6.out (fun b hb e => by have := (HON.out.lt _ e).1; omega)).trans hset (fun b _ e => e)
    case measure => simp [intOf]; omega
  ·obtain rfl : k = 3 := by omega
   subst hik; rw [HI.out] at HBX HON hql; have c0 := HBX.out.cell 0 (v := .int .i64 e.life) rfl; have c1 := HBX.out.cell 1 (v := .int .i64 e.peer) rfl; have c2 := HBX.out.cell 2 (v := .int .i64 e.phase) rfl; have c3 := HBX.out.cell 3 (v := .int .i64 e.base) rfl; have c4 := HBX.out.cell 4 (v := .slice A e.out.length c) rfl; have c5 := HBX.out.cell 5 (v := .int .i64 e.want) rfl; have c6 := HBX.out.cell 6 (v := .slice Ai e.inn.length ci) rfl; have hbz := HBN.out.frame HF.out (by omega); have HBZ := Lib.hid hbz; obtain ⟨z0, z1, z2, z3, z4, z5, z6⟩ := Blk.c7 hbz; obtain ⟨y0, y1, y2, y3, y4, y5, y6, yl⟩ := Blk.g7 hbz; clear hbz; have hF1 : Frame (fun b => b = bx) w wr := HF0.out.trans HF.out (fun _ _ h => h); have HF1 := Lib.hid hF1; clear hF1; go_wp2; have hl := load26 (setEn_blk (e := e) (A := A) (c := c) (B := Ai) (d := ci) HBZ.out); have hB' : Below B w (setEn wr w.heap.size e A c Ai ci) := setEn_below (HF1.out.below (B := B) (fun b e => by omega) hBw) hBw; have hFs : Frame (fun b => b = w.heap.size) wr (setEn wr w.heap.size e A c Ai ci) := setEn_frame (Frame.refl (fun b => b = w.heap.size) wr) (.inl rfl); refine bodyPost_ret (v := enV e A c Ai ci) (results_c rfl rfl hl) rfl ⟨Ai, ci, rfl, ⟨?_, ?_⟩, hB', setEn_frame HF1.out (.inr (Nat.le_refl _)), fun a ha => by have := (HON.out.lt a.block (by rw [ha]; rfl)).1; omega, (im_of_own HON.out).frame hFs (fun b cur hb e => blk_ne hb HBZ.out (by decide) e), HBX.out.frame hFs (by omega)⟩
   ·have e1 := HX.out.out.frame HF1.out (fun hn a ha => HNE.out hn a ha); exact e1.frame hFs (fun hn a ha e => by have := HX.out.out.lt hn ha; omega)
   ·have e1 := (Cells.of_own HON.out (by rw [ims_len]; omega)).1; exact e1.frame hFs (fun hn a ha e => by have := (HON.out.lt a.block (by rw [ha]; rfl)).1; omega)
theorem shut_any (bx bm : Nat) (e : En) (A : Option Addr) (c : Nat) (vi : Value) (B : Nat) (w : World) (h : Xs w bx bm e A c vi) (hg : GoodP e) (hB : B ≤ bx) (hBw : B ≤ w.heap.size) (hne : ous e.out ≠ [] → ∀ a, A = some a → a.block ≠ bx) :
  Calls Try.prog 42 #[.pointer (some ⟨bx, 0, none⟩)] w fun r w' => ∃ D d, r = .returned (enV e A c D d) ∧ EnAt w' e A D ∧ Below B w w' ∧ Frame (fun b => b = bx) w w' ∧ (∀ a, D = some a → w.heap.size ≤ a.block) ∧ ImAt w' D e.inn :=
 (shut_full bx bm e A c vi B w h hg hB hBw hne).mono fun _ _ ⟨D, d, h1, h2, h3, h4, h5, h6, _⟩ => ⟨D, d, h1, h2, h3, h4, h5, h6⟩
theorem GoodP.nums {e : En} (h : GoodP e) : 1 ≤ e.life ∧ e.life ≤ 1000000000 ∧ 0 ≤ e.peer ∧ e.peer ≤ 1000000000 ∧ 1 ≤ e.phase ∧ e.phase ≤ 3 ∧ (e.phase = 1 ↔ e.peer = 0) ∧ 0 ≤ e.base ∧ 0 ≤ e.want ∧ e.want ≤ 1000000000 ∧ e.out.length ≤ 12 ∧ e.base + e.out.length ≤ 1000000000 ∧
  (e.phase ≠ 3 → e.base = 0 ∧ e.want = 0 ∧ e.inn.length = 0) := by
 have a1 := h.life; have a2 := h.peer; have a3 := h.base; have a4 := h.want; have a5 := h.len; have a6 := h.room; unfold most at *; by_cases hp : e.phase = 3
 ·have a7 := (h.op hp).1; exact ⟨by omega, by omega, by omega, by omega, by omega, by omega, by omega, by omega, by omega, by omega, by omega, by omega, fun hn => absurd hp hn⟩
 ·obtain ⟨b1, b2, b3, b4⟩ := h.cl hp; have b5 : e.inn.length = 0 := by rw [b3]; rfl
  exact ⟨by omega, by omega, by omega, by omega, by omega, by omega, by omega, by omega, by omega, by omega, by omega, by omega, fun _ => ⟨b1, b2, b5⟩⟩
theorem not_good {e : En} (h : GoodP e → False) : goodB e = false := by
 cases hg : goodB e with
 | false => rfl
 | true => exact (h (good_iff.1 hg)).elim
def numsOk (e : En) : Prop := 1 ≤ e.life ∧ e.life ≤ 1000000000 ∧ 0 ≤ e.peer ∧ e.peer ≤ 1000000000 ∧ 1 ≤ e.phase ∧ e.phase ≤ 3 ∧ (e.phase = 1 ↔ e.peer = 0) ∧ 0 ≤ e.base ∧ 0 ≤ e.want ∧ e.want ≤ 1000000000 ∧ e.out.length ≤ 12 ∧ e.base + e.out.length ≤ 1000000000
theorem fine_no (e : En) (A : Option Addr) (c : Nat) (B : Option Addr) (d : Nat) (w : World) (h : EnAt w e A B) (hn : ¬ numsOk e) :
  Calls Try.prog 39 #[enV e A c B d] w fun r w' => r = .returned (.bool (goodB e)) ∧ Below w.heap.size w w' := by
 have HN := Lib.hid hn; have hlo : e.out.length ≤ 17592186043904 := by have := h.out.1; rw [ous_len] at this; omega
 have hli : e.inn.length ≤ 17592186043904 := by have := h.inn.1; rw [ims_len] at this; omega
 have HE := Lib.hid h; have HB0 : Hid (Below w.heap.size w (w.alloc (.cells (#[.int .i64 e.life, .int .i64 e.peer, .int .i64 e.phase, .int .i64 e.base, .slice A e.out.length c, .int .i64 e.want, .slice B e.inn.length d]) 26))) := (Below.refl _ w).alloc (Nat.le_refl _) _; unfold enV; clear h hn; by_cases g1 : e.life < 1
 ·have HNG : Hid (goodB e = false) := not_good fun hg => by have := hg.nums; omega
  have HBZ := HB0; go_enter Try.func39, Try.ntmps39
  go_wp2; go_ret; exact ⟨by rw [HNG.out]; rfl, HBZ.out⟩
 have q1 : decide (e.life < 1) = false := decide_eq_false g1; by_cases g2 : 1000000000 < e.life
 ·have HNG : Hid (goodB e = false) := not_good fun hg => by have := hg.nums; omega
  have HBZ := HB0; go_enter Try.func39, Try.ntmps39
  go_wp2; go_ret; exact ⟨by rw [HNG.out]; rfl, HBZ.out⟩
 have q2 : decide (1000000000 < e.life) = false := decide_eq_false g2; by_cases g3 : e.peer < 0
 ·have HNG : Hid (goodB e = false) := not_good fun hg => by have := hg.nums; omega
  have HBZ := HB0; go_enter Try.func39, Try.ntmps39
  go_wp2; go_ret; exact ⟨by rw [HNG.out]; rfl, HBZ.out⟩
 have q3 : decide (e.peer < 0) = false := decide_eq_false g3; by_cases g4 : 1000000000 < e.peer
 ·have HNG : Hid (goodB e = false) := not_good fun hg => by have := hg.nums; omega
  have HBZ := HB0; go_enter Try.func39, Try.ntmps39
  go_wp2; go_ret; exact ⟨by rw [HNG.out]; rfl, HBZ.out⟩
 have q4 : decide (1000000000 < e.peer) = false := decide_eq_false g4; obtain ⟨b5, hb5⟩ : ∃ b, (e.phase == 1) = b := ⟨_, rfl⟩; obtain ⟨b6, hb6⟩ : ∃ b, (e.peer == 0) = b := ⟨_, rfl⟩; by_cases hbb : ¬ b5 = b6
 ·have HNG : Hid (goodB e = false) := not_good fun hg => by
   have h1 := hg.nums.2.2.2.2.2.2.1; apply hbb; rw [← hb5, ← hb6]; by_cases hh : e.phase = 1
   ·rw [beq_iff_eq.2 hh, beq_iff_eq.2 (h1.1 hh)]
   ·rw [beq_eq_false_iff_ne.2 hh, beq_eq_false_iff_ne.2 (fun h => hh (h1.2 h))]
  have HBZ := HB0; cases b5 with
  | true =>
   cases b6 with
   | true => exact absurd rfl hbb
   | false =>
    clear hbb; go_enter Try.func39, Try.ntmps39
    go_wp2; go_ret; exact ⟨by rw [HNG.out]; rfl, HBZ.out⟩
  | false =>
   cases b6 with
   | false => exact absurd rfl hbb
   | true =>
    clear hbb; go_enter Try.func39, Try.ntmps39
    go_wp2; go_ret; exact ⟨by rw [HNG.out]; rfl, HBZ.out⟩
 have hbb := Decidable.not_not.1 hbb; subst hbb; have G5 : Hid (e.phase = 1 ↔ e.peer = 0) := by
  show _ ↔ _; constructor
  ·intro hh; rw [beq_iff_eq.2 hh] at hb5; rw [← hb5] at hb6; exact beq_iff_eq.1 hb6
  ·intro hh; rw [beq_iff_eq.2 hh] at hb6; rw [← hb6] at hb5; exact beq_iff_eq.1 hb5
 by_cases g6 : e.phase < 1
 ·have HNG : Hid (goodB e = false) := not_good fun hg => by have := hg.nums; omega
  have HBZ := HB0; go_enter Try.func39, Try.ntmps39
  go_wp2; go_ret; exact ⟨by rw [HNG.out]; rfl, HBZ.out⟩
 have q6 : decide (e.phase < 1) = false := decide_eq_false g6; by_cases g7 : 3 < e.phase
 ·have HNG : Hid (goodB e = false) := not_good fun hg => by have := hg.nums; omega
  have HBZ := HB0; go_enter Try.func39, Try.ntmps39
  go_wp2; go_ret; exact ⟨by rw [HNG.out]; rfl, HBZ.out⟩
 have q7 : decide (3 < e.phase) = false := decide_eq_false g7; by_cases g8 : 12 < e.out.length
 ·have HNG : Hid (goodB e = false) := not_good fun hg => by have := hg.nums; omega
  have HBZ := HB0; have q8 : (12 : Int) < (e.out.length : Int) := by omega
  go_enter Try.func39, Try.ntmps39
  go_wp2; go_ret; exact ⟨by rw [HNG.out]; rfl, HBZ.out⟩
 have q8 : decide ((12 : Int) < (e.out.length : Int)) = false := decide_eq_false (by omega); by_cases g9 : e.base < 0
 ·have HNG : Hid (goodB e = false) := not_good fun hg => by have := hg.nums; omega
  have HBZ := HB0; go_enter Try.func39, Try.ntmps39
  go_wp2; go_ret; exact ⟨by rw [HNG.out]; rfl, HBZ.out⟩
 have q9 : decide (e.base < 0) = false := decide_eq_false g9; by_cases g10 : e.want < 0
 ·have HNG : Hid (goodB e = false) := not_good fun hg => by have := hg.nums; omega
  have HBZ := HB0; go_enter Try.func39, Try.ntmps39
  go_wp2; go_ret; exact ⟨by rw [HNG.out]; rfl, HBZ.out⟩
 have q10 : decide (e.want < 0) = false := decide_eq_false g10; by_cases g11 : 1000000000 < e.want
 ·have HNG : Hid (goodB e = false) := not_good fun hg => by have := hg.nums; omega
  have HBZ := HB0; go_enter Try.func39, Try.ntmps39
  go_wp2; go_ret; exact ⟨by rw [HNG.out]; rfl, HBZ.out⟩
 have q11 : decide (1000000000 < e.want) = false := decide_eq_false g11; obtain ⟨room, hroom⟩ : ∃ x : Int, 1000000000 - (e.out.length : Int) = x := ⟨_, rfl⟩; have hrw : IntKind.i64.wrap (1000000000 - (e.out.length : Int)) = room := by rw [← hroom, IntKind.wrap_i64]; omega
 have hrw2 : wrap64 (1000000000 - (e.out.length : Int)) = room := by rw [← hroom]; exact IntWalk.wrap64_in _ ⟨by omega, by omega⟩
 have HROOM := Lib.hid hroom; by_cases g12 : room < e.base
 ·have HNG : Hid (goodB e = false) := not_good fun hg => by have := hg.nums; omega
  have HBZ := HB0; clear hroom; go_enter Try.func39, Try.ntmps39
  go_wp2; go_ret; exact ⟨by rw [HNG.out]; rfl, HBZ.out⟩
 have q12 : decide (room < e.base) = false := decide_eq_false g12; refine (HN.out ⟨by omega, by omega, by omega, by omega, by omega, by omega, G5.out, by omega, by omega, by omega, by omega, ?_⟩).elim; omega
end Go.Proofs.Ytejabnoidhlfaaa
