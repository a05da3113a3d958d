/- Contracts and lemmas that the claim uses. -/
import Derived.Test.YtejabnoidhlfaaaV32
set_option maxRecDepth 100000
set_option maxHeartbeats 16000000
namespace Go.Proofs.Ytejabnoidhlfaaa
open Go.RowKit Go.Maps
structure OffV (w : World) (bl : Nat) (l : Lp) (m : Lm) (A : Option Addr) (cs : List Value) : Prop where
 at_ : Cells w A cs
 off : cs ≠ [] → ∀ a, A = some a → ¬ LV bl l m a.block
theorem OffV.step {w w' : World} {bl : Nat} {l l' : Lp} {m m' : Lm} {A : Option Addr} {cs : List Value} (h : OffV w bl l m A cs) (k : Lw bl l m w l' m' w') : OffV w' bl l' m' A cs := by
 refine ⟨h.at_.frame k.fr h.off, fun hn a ha hb => ?_⟩; have hlt := h.at_.lt hn ha; rcases k.new _ hb with h1 | h1
 ·exact h.off hn a ha h1
 ·omega
theorem Lw.set {w w' : World} {bl : Nat} {l l' : Lp} {m m' : Lm} (k : Lw bl l m w l' m' w') {p : Addr} (hb : w.heap.size ≤ p.block) (v : Value) : Lw bl l m w l' m' (w'.setCell p v) := ⟨k.fr.setCell (p := p) (.inr hb) v, k.new⟩
theorem Lv.far {w : World} {B bl : Nat} {l : Lp} {m : Lm} {b : Nat} {cs : Array Value} (h : Lv w B bl l m) (hb : Blk w b (.cells cs 59)) (o : Nat) (v : Value) : Lv (w.setCell ⟨b, o, none⟩ v) B bl l m := by
 have hF : Frame (fun x => x = b) w (w.setCell ⟨b, o, none⟩ v) := (Frame.refl (fun x => x = b) w).setCell (p := ⟨b, o, none⟩) (.inl rfl) _; exact h.frame hF (fun x hx e => h.ne hb (by decide) (by decide) (by decide) (by decide) (e ▸ hx)) (fun x cur hx e => blk_ne hx hb (by decide) e) (fun x cur hx e => blk_ne hx hb (by decide) e)
theorem ix_block {w : World} {a : Addr} {n c k b o : Nat} (h : (Instr.indexAt 35 (.slice (some a) n c) (.int .i64 (k : Int))).run Try.prog w = .ok (.pointer (some ⟨b, o, none⟩)) w) (hk : k < n) : a.block = b := by
 obtain ⟨i, hi, hie⟩ : ∃ i, Try.prog.info? 44 = some i ∧ i.size = 7 := by
  have hs := rPk.size_eq; cases hx : Try.prog.info? 44 with
  | none => rw [hx] at hs; cases hs
  | some i => rw [hx] at hs; exact ⟨i, rfl, by simpa using hs⟩
 have hin : (0 : Int) ≤ (k : Int) ∧ (k : Int) < (n : Int) := by omega
 simp [Instr.indexAt, run_underlying Try.underlying35, asIntOf, hin, sizeOf, typeInfo, hi, hie, hk] at h; have h2 : (a.add (k * 7)).block = a.block := by unfold Addr.add; split <;> rfl
 rw [h] at h2; exact h2.symm
theorem load59 {w : World} {b : Nat} {u v x : Value} (h : Blk w b (.cells #[u, v, x] 59)) : (loadVar 59 ⟨b, 0, none⟩).run Try.prog w = .ok (.agg #[u, v, x]) w := by
 have h0 := h.cell 0 (v := u) rfl; have h1 := h.cell 1 (v := v) rfl; have h2 := h.cell 2 (v := x) rfl; go_simp
def set59 (w : World) (b eb : Nat) (l : Lp) (m : Lm) : World := ((w.setCell ⟨b, 0, none⟩ (.slice (some ⟨eb, 0, none⟩) 2 2)).setCell ⟨b, 1, none⟩ (.slice m.W l.wire.length m.cw)).setCell ⟨b, 2, none⟩ (.slice m.T m.zs.length m.ct)
theorem set59_blk {w : World} {b eb : Nat} {l : Lp} {m : Lm} {u v x : Value} (h : Blk w b (.cells #[u, v, x] 59)) : Blk (set59 w b eb l m) b (.cells (lvX eb l m) 59) :=
 ((h.set 0 (.slice (some ⟨eb, 0, none⟩) 2 2)).set 1 (.slice m.W l.wire.length m.cw)).set 2 (.slice m.T m.zs.length m.ct)
theorem set59_lv {w : World} {B bl b eb : Nat} {l l' : Lp} {m m' : Lm} {cs : Array Value} (h : Lv w B bl l m) (hb : Blk w b (.cells cs 59)) : Lv (set59 w b eb l' m') B bl l m :=
 ((h.far hb 0 _).far (hb.set 0 _) 1 _).far ((hb.set 0 _).set 1 _) 2 _
def z59 : Array Value := #[.slice none 0 0, .slice none 0 0, .slice none 0 0]
theorem wayA_free {frm : Int} : ∀ (ps : List Pk) (l : Lp), (wayA l frm ps).free = l.free
 | [], l => rfl
 | p :: ps, l => by
  rw [wayA, wayA_free ps]; split <;> rfl
theorem post69_any (B eb : Nat) (l : Lp) (m : Lm) (frm : Int) (P : Option Addr) (cp : Nat) (ps : List Pk) (lim : Bool) (w : World) (h : Lv w B eb l m) (hf : frm = 0 ∨ frm = 1) (hP : OffV w eb l m P (pks ps)) (hfr : l.free = !lim) (hn : l.wire.length + ps.length ≤ 1000000000) :
  Calls Try.prog 69 #[lvV eb l m, .int .i64 frm, .slice P ps.length cp, .bool lim] w fun r w' => ∃ m', r = .returned (lvV eb (wayA l frm ps) m') ∧ Lv w' B eb (wayA l frm ps) m' ∧ Lw eb l m w (wayA l frm ps) m' w' := by
 have HL := Lib.hid h; have HP := Lib.hid hP; have HFR := Lib.hid hfr; have hwf : IntKind.i64.wrap (1 - frm) = 1 - frm := wrap_ok ⟨by omega, by omega⟩; clear h hP hf hfr; unfold lvV; go_enter Try.func69, Try.ntmps69
 obtain ⟨W, hW⟩ : ∃ W, (w.alloc (.cells #[.slice (some ⟨eb, 0, none⟩) 2 2, .slice m.W l.wire.length m.cw, .slice m.T m.zs.length m.ct] 59)).alloc (.cells #[.slice none 0 0, .slice none 0 0, .slice none 0 0] 59) = W := ⟨_, rfl⟩; have HBW : Hid (Below w.heap.size w W) := by rw [← hW]; exact ((Below.refl _ w).alloc (Nat.le_refl _) _).alloc (by simp) _
 have HXW : Hid (Blk W w.heap.size (.cells (lvX eb l m) 59)) := by rw [← hW]; exact (Blk.new _ _).alloc _
 have HYW : Hid (Blk W (w.heap.size + 1) (.cells z59 59)) := by
  rw [← hW]; have e1 := Blk.new (w.alloc (.cells (lvX eb l m) 59)) (.cells z59 59); rw [World.size_alloc] at e1; exact e1
 go_wp2_with fail
 clear hW; go_loopg [9] ps.length (fun g iv wr => ∃ (k : Nat) (M : Lm), k + g = ps.length ∧ iv = Value.int .i64 (k : Int) ∧ Lv wr B eb (wayA l frm (ps.take k)) M ∧ Lw eb l m w (wayA l frm (ps.take k)) M wr ∧ Blk wr w.heap.size (.cells (lvX eb (wayA l frm (ps.take k)) M) 59) ∧ Blk wr (w.heap.size + 1) (.cells z59 59))
 case atStart => exact ⟨0, m, Nat.zero_add _, rfl, HL.out.below HBW.out, Lw.of_below HBW.out, HXW.out, HYW.out⟩
 case round =>
  obtain ⟨k, M, hk, rfl, hlv, hlw, hx, hy⟩ := hrel; have HK := Lib.hid hk; have hwl := wayA_len (frm := frm) (ps.take k) l; have hfe := wayA_free (frm := frm) (ps.take k) l; obtain ⟨L, HLL⟩ : ∃ L, Hid (wayA l frm (ps.take k) = L) := ⟨_, rfl⟩; rw [HLL.out] at hlv hlw hx hwl hfe; have HLR := Lib.hid hlv; have HLS := Lib.hid hlw; have HXR := Lib.hid hx; have HYR := Lib.hid hy; have HFE : Hid (L.free = !lim) := by show _ = _; rw [hfe]; exact HFR.out
  rw [List.length_take] at hwl; have hwl2 : L.wire.length ≤ 1000000000 := by omega
  have hkn : k ≤ 1000000000 := by omega
  have q9 := HXR.out; have x1 := q9.cell 1 (v := .slice M.W L.wire.length M.cw) rfl; have xl := q9.lt; clear q9 hk hlv hlw hx hy hwl hfe; by_cases hlt : (k : Int) < (ps.length : Int)
  ·obtain ⟨x, b, o, hx, hb, hix, hc0, hc1, hc2, hc3, hc4, hc5, hc6⟩ := pk_at (c := cp) (k := k) (HP.out.step HLS.out).at_ (by omega); have HXK := Lib.hid hx; have HOFF : Hid (¬ LV eb L M b) := by
    have ho := HP.out.step HLS.out; have hne : pks ps ≠ [] := fun h0 => by have := pks_len ps; rw [h0] at this; simp at this; omega
    obtain ⟨_, b9, o9, _, hA9, _⟩ := ho.at_; obtain ⟨hA9, _⟩ := hA9 hne; have h9 := ho.off hne _ hA9; have h8 := hix wr; rw [hA9] at h8; rw [ix_block h8 (by omega)] at h9; exact h9
   have hw1 : IntKind.i64.wrap ((k : Int) + 1) = (k : Int) + 1 := wrap_ok ⟨by omega, by omega⟩; clear hx; cases lim with
   | false =>
    have HPUT := Lib.hid (wayA_put HLL.out HXK.out (.inl HFE.out)); go_upto_region 5 with fail
    clear x1 xl; have HOD : Hid (wr.drew.ownsRow B 116 8 (.slice M.W L.wire.length M.cw) L.wire.length (tps L.wire)) := HLR.out.drew.wire; have hbo : ¬ (Value.slice M.W L.wire.length M.cw).ownBlock = some b := fun e2 => HOFF.out (.inr (.inl e2)); have hxx : ¬ (Value.slice M.W L.wire.length M.cw).ownBlock = some w.heap.size := own_ne HLR.out.wire HXR.out (by decide); have hxl := HXR.out.lt; have hB := HLR.out.lo; have hBl := HLR.out.box.lt; refine drawl (fun w' => Frame (fun b => (Value.slice M.W L.wire.length M.cw).ownBlock = some b) wr w') 12 12 rfl (by kernel_rfl) (fun Qd hQd => ?_)
    iterate 9 (first | apply sL 0 (by rfl) (by kernel_rfl) rfl (by kernel_rfl) | apply sL 2 (by rfl) (by kernel_rfl) rfl (by kernel_rfl) | apply sL 4 (by rfl) (by kernel_rfl) rfl (by kernel_rfl) | apply sL 5 (by rfl) (by kernel_rfl) rfl (by kernel_rfl) | apply sL 1 (by rfl) (by kernel_rfl) rfl (by kernel_rfl) | apply sL 3 (by rfl) (by kernel_rfl) rfl (by kernel_rfl) | apply sL 6 (by rfl) (by kernel_rfl) rfl (by kernel_rfl) | apply sL 7 (by rfl) (by kernel_rfl) rfl (by kernel_rfl) | apply sL 8 (by rfl) (by kernel_rfl) rfl (by kernel_rfl)); (focus intro wI hI Kv hKv; have q9 := HXR.out.frame hI hxx; have g1 := q9.cell 1 (v := .slice M.W L.wire.length M.cw) rfl; have gl := q9.lt; clear q9; have v0 := cell_frame hI hb hbo hc0; have v1 := cell_frame hI hb hbo hc1; have v2 := cell_frame hI hb hbo hc2; have v3 := cell_frame hI hb hbo hc3; have v4 := cell_frame hI hb hbo hc4; have v5 := cell_frame hI hb hbo hc5; have v6 := cell_frame hI hb hbo hc6; go_simp; exact hKv); intro Kd hKd; go_simp; refine hKd _ ?_; clear hKd Kd
    refine anyL_one 9 rfl (by kernel_rfl) ((Frame.refl _ wr).drew) (fun Kd hKd => ?_); go_wp2; refine anyL_one 10 rfl (by kernel_rfl) (((Frame.refl _ wr).drew.alloc _)) (fun Kd hKd => ?_); go_wp2_with (at_builtin; go_must (refine wpList_app1' rTp _ rfl _ _ rfl HOD.out rfl [_, _, _, _, _, _, _, _] 1 rfl rfl (by simp [Value.oneCell']) (by omega) (by show B ≤ wr.heap.size; omega) ?_); intro v6 w6 ho6 hB6 hg6 hloc6; obtain ⟨W6, c6, rfl⟩ := own_fits ho6)
    have HG6 : Hid (Frame (fun b => (Value.slice M.W L.wire.length M.cw).ownBlock = some b) wr w6) := (Frame.refl _ wr).drew.trans (Frame.of_grown hg6) (fun _ _ h => h); have HX6 := Lib.hid (HXR.out.frame HG6.out hxx); have k2 := HX6.out.cell 1 (v := .slice M.W L.wire.length M.cw) rfl; have k3 := HX6.out.free 1; have k4 := HX6.out.lt; have HO6 := Lib.hid ho6; have HL6 := Lib.hid hloc6; clear ho6 hB6 hg6 hloc6; apply anyL_step 11 (by kernel_rfl) rfl (by kernel_rfl); (focus intro wI hI Kv hKv; go_simp; exact hKv); intro Kd hKd; go_simp; refine hKd _ ?_; clear hKd Kd
    refine anyL_end rfl (by kernel_rfl) (HG6.out) (fun Kd hKd => ?_); go_wp2; go_roundg (ps.length - (k + 1))
    case measure => have := HK.out; omega
    case rel =>
     have e1 : (L.wire ++ [(⟨1 - frm, x⟩ : Tp)]).length = L.wire.length + 1 := by simp
     have ho : w6.ownsRow B 116 8 (.slice W6 (L.wire ++ [(⟨1 - frm, x⟩ : Tp)]).length c6) (L.wire ++ [(⟨1 - frm, x⟩ : Tp)]).length (tps (L.wire ++ [⟨1 - frm, x⟩])) := by
      rw [e1, tps_snoc]; exact HO6.out
     obtain ⟨q1, q2⟩ := HLR.out.setWire HG6.out ho (by rw [e1]; exact HL6.out); have q3 : Blk (w6.setCell ⟨w.heap.size, 1, none⟩ (.slice W6 (L.wire.length + 1) c6)) w.heap.size (.cells (lvX eb { L with wire := L.wire ++ [⟨1 - frm, x⟩] } { M with W := W6, cw := c6 }) 59) := by
      unfold lvX; rw [e1]; exact HX6.out.set 1 _
     have q4 := (HYR.out.frame HG6.out (own_ne HLR.out.wire HYR.out (by decide))).far (p := ⟨w.heap.size, 1, none⟩) (by show w.heap.size + 1 ≠ w.heap.size; omega) (.slice W6 (L.wire.length + 1) c6); rw [← HPUT.out] at q1 q2 q3; exact ⟨k + 1, { M with W := W6, cw := c6 }, by have := HK.out; omega, rfl, q1.far HX6.out _ _, (HLS.out.trans q2).set (Nat.le_refl _) _, q3, q4⟩
   | true =>
    by_cases h60 : (L.wire.length : Int) < 60
    ·have q1 : decide ((L.wire.length : Int) < 60) = true := decide_eq_true h60; have q1' : decide (L.wire.length < 60) = true := decide_eq_true (by omega); have HPUT := Lib.hid (wayA_put HLL.out HXK.out (.inr (by omega))); clear h60; go_upto_region 5 with fail
     clear x1 xl; have HOD : Hid (wr.drew.ownsRow B 116 8 (.slice M.W L.wire.length M.cw) L.wire.length (tps L.wire)) := HLR.out.drew.wire; have hbo : ¬ (Value.slice M.W L.wire.length M.cw).ownBlock = some b := fun e2 => HOFF.out (.inr (.inl e2)); have hxx : ¬ (Value.slice M.W L.wire.length M.cw).ownBlock = some w.heap.size := own_ne HLR.out.wire HXR.out (by decide); have hxl := HXR.out.lt; have hB := HLR.out.lo; have hBl := HLR.out.box.lt; refine drawl (fun w' => Frame (fun b => (Value.slice M.W L.wire.length M.cw).ownBlock = some b) wr w') 12 12 rfl (by kernel_rfl) (fun Qd hQd => ?_)
     iterate 9 (first | apply sL 0 (by rfl) (by kernel_rfl) rfl (by kernel_rfl) | apply sL 2 (by rfl) (by kernel_rfl) rfl (by kernel_rfl) | apply sL 4 (by rfl) (by kernel_rfl) rfl (by kernel_rfl) | apply sL 5 (by rfl) (by kernel_rfl) rfl (by kernel_rfl) | apply sL 1 (by rfl) (by kernel_rfl) rfl (by kernel_rfl) | apply sL 3 (by rfl) (by kernel_rfl) rfl (by kernel_rfl) | apply sL 6 (by rfl) (by kernel_rfl) rfl (by kernel_rfl) | apply sL 7 (by rfl) (by kernel_rfl) rfl (by kernel_rfl) | apply sL 8 (by rfl) (by kernel_rfl) rfl (by kernel_rfl)); (focus intro wI hI Kv hKv; have q9 := HXR.out.frame hI hxx; have g1 := q9.cell 1 (v := .slice M.W L.wire.length M.cw) rfl; have gl := q9.lt; clear q9; have v0 := cell_frame hI hb hbo hc0; have v1 := cell_frame hI hb hbo hc1; have v2 := cell_frame hI hb hbo hc2; have v3 := cell_frame hI hb hbo hc3; have v4 := cell_frame hI hb hbo hc4; have v5 := cell_frame hI hb hbo hc5; have v6 := cell_frame hI hb hbo hc6; go_simp; exact hKv); intro Kd hKd; go_simp; refine hKd _ ?_; clear hKd Kd
     refine anyL_one 9 rfl (by kernel_rfl) ((Frame.refl _ wr).drew) (fun Kd hKd => ?_); go_wp2; refine anyL_one 10 rfl (by kernel_rfl) (((Frame.refl _ wr).drew.alloc _)) (fun Kd hKd => ?_); go_wp2_with (at_builtin; go_must (refine wpList_app1' rTp _ rfl _ _ rfl HOD.out rfl [_, _, _, _, _, _, _, _] 1 rfl rfl (by simp [Value.oneCell']) (by omega) (by show B ≤ wr.heap.size; omega) ?_); intro v6 w6 ho6 hB6 hg6 hloc6; obtain ⟨W6, c6, rfl⟩ := own_fits ho6)
     have HG6 : Hid (Frame (fun b => (Value.slice M.W L.wire.length M.cw).ownBlock = some b) wr w6) := (Frame.refl _ wr).drew.trans (Frame.of_grown hg6) (fun _ _ h => h); have HX6 := Lib.hid (HXR.out.frame HG6.out hxx); have k2 := HX6.out.cell 1 (v := .slice M.W L.wire.length M.cw) rfl; have k3 := HX6.out.free 1; have k4 := HX6.out.lt; have HO6 := Lib.hid ho6; have HL6 := Lib.hid hloc6; clear ho6 hB6 hg6 hloc6; apply anyL_step 11 (by kernel_rfl) rfl (by kernel_rfl); (focus intro wI hI Kv hKv; go_simp; exact hKv); intro Kd hKd; go_simp; refine hKd _ ?_; clear hKd Kd
     refine anyL_end rfl (by kernel_rfl) (HG6.out) (fun Kd hKd => ?_); go_wp2; go_roundg (ps.length - (k + 1))
     case measure => have := HK.out; omega
     case rel =>
      have e1 : (L.wire ++ [(⟨1 - frm, x⟩ : Tp)]).length = L.wire.length + 1 := by simp
      have ho : w6.ownsRow B 116 8 (.slice W6 (L.wire ++ [(⟨1 - frm, x⟩ : Tp)]).length c6) (L.wire ++ [(⟨1 - frm, x⟩ : Tp)]).length (tps (L.wire ++ [⟨1 - frm, x⟩])) := by
       rw [e1, tps_snoc]; exact HO6.out
      obtain ⟨q1, q2⟩ := HLR.out.setWire HG6.out ho (by rw [e1]; exact HL6.out); have q3 : Blk (w6.setCell ⟨w.heap.size, 1, none⟩ (.slice W6 (L.wire.length + 1) c6)) w.heap.size (.cells (lvX eb { L with wire := L.wire ++ [⟨1 - frm, x⟩] } { M with W := W6, cw := c6 }) 59) := by
       unfold lvX; rw [e1]; exact HX6.out.set 1 _
      have q4 := (HYR.out.frame HG6.out (own_ne HLR.out.wire HYR.out (by decide))).far (p := ⟨w.heap.size, 1, none⟩) (by show w.heap.size + 1 ≠ w.heap.size; omega) (.slice W6 (L.wire.length + 1) c6); rw [← HPUT.out] at q1 q2 q3; exact ⟨k + 1, { M with W := W6, cw := c6 }, by have := HK.out; omega, rfl, q1.far HX6.out _ _, (HLS.out.trans q2).set (Nat.le_refl _) _, q3, q4⟩
    ·have q1 : decide ((L.wire.length : Int) < 60) = false := decide_eq_false h60; have q1' : decide (L.wire.length < 60) = false := decide_eq_false (by omega); have HPUT := Lib.hid (wayA_no HLL.out HXK.out (by rw [HFE.out]; rintro (h | h); cases h; omega)); clear h60; go_wp2_with fail
     go_roundg (ps.length - (k + 1))
     case measure => have := HK.out; omega
     case rel => exact ⟨k + 1, M, by have := HK.out; omega, rfl, by rw [HPUT.out]; exact HLR.out, by rw [HPUT.out]; exact HLS.out, by rw [HPUT.out]; exact HXR.out, HYR.out⟩
  ·obtain rfl : k = ps.length := by have := HK.out; omega
   have HLE : Hid (wayA l frm ps = L) := by show _ = _; rw [← HLL.out, List.take_length]
   have q9 := HXR.out; have x0 := q9.cell 0 (v := .slice (some ⟨eb, 0, none⟩) 2 2) rfl; have x2 := q9.cell 2 (v := .slice M.T M.zs.length M.ct) rfl; have q9 := HYR.out; obtain ⟨y0, y1, y2⟩ := Blk.c3 q9; obtain ⟨z0, z1, z2, yl⟩ := Blk.g3 q9; clear q9; go_wp2; have hbk : Blk (set59 wr (w.heap.size + 1) eb L M) (w.heap.size + 1) (.cells (lvX eb L M) 59) := set59_blk HYR.out; refine bodyPost_ret (v := lvV eb L M) (results_c rfl rfl (load59 hbk)) rfl ⟨M, by rw [HLE.out]; rfl, by rw [HLE.out]; exact set59_lv HLR.out HYR.out, by rw [HLE.out]; exact ((HLS.out.set (by show _ ≤ w.heap.size + 1; omega) _).set (by show _ ≤ w.heap.size + 1; omega) _).set (by show _ ≤ w.heap.size + 1; omega) _⟩
theorem erase_snoc {α : Type} (a : List α) (x : α) (k : Nat) : (a ++ [x]).eraseIdx k = a.eraseIdx k ++ if a.length = k then [] else [x] := by
 rcases Nat.lt_trichotomy a.length k with h | h | h
 ·rw [if_neg (by omega), List.eraseIdx_of_length_le (by simp; omega), List.eraseIdx_of_length_le (by omega)]
 ·rw [if_pos h, List.append_nil, List.eraseIdx_append_of_length_le (by omega), List.eraseIdx_of_length_le (l := a) (by omega), h, Nat.sub_self]; simp
 ·rw [if_neg (by omega), List.eraseIdx_append_of_lt_length h]
theorem eraseIdx_len_le {α : Type} (a : List α) (k : Nat) : (a.eraseIdx k).length ≤ a.length := by
 rw [List.length_eraseIdx]; split <;> omega
theorem without71_any (B eb : Nat) (l : Lp) (m : Lm) (k : Nat) (w : World) (h : Lv w B eb l m) (hn : l.wire.length ≤ 1000000000) (_hk9 : k ≤ 1000000000) :
  Calls Try.prog 71 #[lvV eb l m, .int .i64 (k : Int)] w fun r w' => ∃ m', r = .returned (lvV eb { l with wire := l.wire.eraseIdx k } m') ∧ Lv w' B eb { l with wire := l.wire.eraseIdx k } m' ∧ Lw eb l m w { l with wire := l.wire.eraseIdx k } m' w' := by
 have HL := Lib.hid h; clear h; unfold lvV; go_enter Try.func71, Try.ntmps71
 obtain ⟨W, hW⟩ : ∃ W, (w.alloc (.cells #[.slice (some ⟨eb, 0, none⟩) 2 2, .slice m.W l.wire.length m.cw, .slice m.T m.zs.length m.ct] 59)).alloc (.cells #[.slice none 0 0, .slice none 0 0, .slice none 0 0] 59) = W := ⟨_, rfl⟩; have HBW : Hid (Below w.heap.size w W) := by rw [← hW]; exact ((Below.refl _ w).alloc (Nat.le_refl _) _).alloc (by simp) _
 have HXW : Hid (Blk W w.heap.size (.cells (lvX eb l m) 59)) := by rw [← hW]; exact (Blk.new _ _).alloc _
 have HYW : Hid (Blk W (w.heap.size + 1) (.cells z59 59)) := by
  rw [← hW]; have e1 := Blk.new (w.alloc (.cells (lvX eb l m) 59)) (.cells z59 59); rw [World.size_alloc] at e1; exact e1
 have HLW := Lib.hid (HL.out.below HBW.out); have HCW : Hid (Cells W m.W (tps l.wire)) := (Cells.of_own HLW.out.wire (by rw [tps_len]; omega)).1; go_wp2_with fail
 clear hW; go_loopg [5, 6] l.wire.length (fun g vo iv wr => ∃ j : Nat, j + g = l.wire.length ∧ iv = Value.int .i64 (j : Int) ∧ wr.ownsRow W.heap.size 116 8 vo ((l.wire.take j).eraseIdx k).length (tps ((l.wire.take j).eraseIdx k)) ∧ Below W.heap.size W wr)
 case atStart => exact ⟨0, Nat.zero_add _, rfl, World.ownsRow_nil _ _ _ _, Below.refl _ _⟩
 case round =>
  obtain ⟨j, hj, rfl, hown, hB⟩ := hrel; have HJ := Lib.hid hj; have HO := Lib.hid hown; have HB := Lib.hid hB; have HXr := Lib.hid (HXW.out.below hB HXW.out.lt); have hql : ((l.wire.take j).eraseIdx k).length ≤ j := Nat.le_trans (eraseIdx_len_le _ _) (by rw [List.length_take]; omega); have hsr := hB.size; have hjn : j ≤ 1000000000 := by omega
  have q9 := HXr.out; have x1 := q9.cell 1 (v := .slice m.W l.wire.length m.cw) rfl; have xl := q9.lt; clear q9 hj hown hB; by_cases hlt : (j : Int) < (l.wire.length : Int)
  ·obtain ⟨x, xb, xo, hx, hxb, hxi, c0, c1, c2, c3, c4, c5, c6, c7⟩ := tp_at (c := m.cw) (k := j) (HCW.out.below HB.out (Nat.le_refl _)) (by omega); have hw1 : IntKind.i64.wrap ((j : Int) + 1) = (j : Int) + 1 := wrap_ok ⟨by omega, by omega⟩; have HST : Hid ((l.wire.take (j + 1)).eraseIdx k = (l.wire.take j).eraseIdx k ++ if j = k then [] else [x]) := by
    show _ = _; rw [take_succ_of hx, erase_snoc, List.length_take, Nat.min_eq_left (by omega)]
   obtain ⟨Q, HQ⟩ : ∃ Q, Hid ((l.wire.take j).eraseIdx k = Q) := ⟨_, rfl⟩; rw [HQ.out] at HO HST hql; clear hx; by_cases hjk : j = k
   ·have q1 : ((j : Int) != (k : Int)) = false := by simp [hjk]
    have HS : Hid ((l.wire.take (j + 1)).eraseIdx k = Q) := by show _ = _; rw [HST.out, if_pos hjk, List.append_nil]
    clear hjk; go_wp2_with fail
    go_roundg (l.wire.length - (j + 1))
    case measure => have := HJ.out; omega
    case rel => exact ⟨j + 1, by have := HJ.out; omega, rfl, by rw [HS.out]; exact HO.out, HB.out⟩
   ·have q1 : ((j : Int) != (k : Int)) = true := by simp; omega
    have HS : Hid ((l.wire.take (j + 1)).eraseIdx k = Q ++ [x]) := by show _ = _; rw [HST.out, if_neg hjk]
    clear hjk; go_wp2_with (at_builtin; go_must (refine wpList_app1' rTp _ rfl _ _ rfl HO.out rfl [_, _, _, _, _, _, _, _] 1 rfl rfl (by simp [Value.oneCell']) (by omega) (by omega) ?_); intro v2 w2 hown2 hB2 hg2 hloc2)
    go_roundg (l.wire.length - (j + 1))
    case measure => have := HJ.out; omega
    case rel => exact ⟨j + 1, by have := HJ.out; omega, rfl, by rw [HS.out, tps_snoc, List.length_append]; exact hown2, HB.out.trans hB2⟩
  ·obtain rfl : j = l.wire.length := by have := HJ.out; omega
   rw [List.take_length] at HO; obtain ⟨W6, c6, rfl⟩ := own_fits HO.out; have HYr := Lib.hid (HYW.out.below HB.out HYW.out.lt); have q9 := HXr.out; have x0 := q9.cell 0 (v := .slice (some ⟨eb, 0, none⟩) 2 2) rfl; have x2 := q9.cell 2 (v := .slice m.T m.zs.length m.ct) rfl; have x3 := q9.free 1; have q9 := HYr.out; obtain ⟨y0, y1, y2⟩ := Blk.c3 q9; obtain ⟨z0, z1, z2, yl⟩ := Blk.g3 q9; clear q9; have hsW := HBW.out.size; have HLr := Lib.hid (HLW.out.below HB.out); have HBw : Hid (Below w.heap.size w wr) := HBW.out.trans (HB.out.mono HBW.out.size); obtain ⟨E, hE⟩ : ∃ E, l.wire.eraseIdx k = E := ⟨_, rfl⟩; rw [hE] at HO ⊢; have HEE := Lib.hid hE; have hfr : Frame (fun b => (Value.slice m.W l.wire.length m.cw).ownBlock = some b) wr wr := Frame.refl _ _; have hst := (HL.out.below (Below.refl _ w)).setWire (w6 := wr) (wire' := E) (Frame.of_all HBw.out) (own_mono HO.out (Nat.le_trans (Nat.le_of_lt (Nat.lt_of_le_of_lt HL.out.lo HL.out.box.lt)) hsW)) (fun g hg => .inr (Nat.le_trans hsW (HO.out.lt g hg).1)); have HST := Lib.hid hst; clear hst hfr hE hlt; go_wp2; obtain ⟨q1, q2⟩ := HST.out; have hXY : Blk (wr.setCell ⟨w.heap.size, 1, none⟩ (.slice W6 E.length c6)) (w.heap.size + 1) (.cells z59 59) := HYr.out.far (p := ⟨w.heap.size, 1, none⟩) (by show w.heap.size + 1 ≠ w.heap.size; omega) _; have q3 := q1.far HXr.out 1 (.slice W6 E.length c6)
   obtain ⟨Y, hY⟩ : ∃ Y, (((wr.setCell ⟨w.heap.size, 1, none⟩ (.slice W6 E.length c6)).setCell ⟨w.heap.size + 1, 0, none⟩ (.slice (some ⟨eb, 0, none⟩) 2 2)).setCell ⟨w.heap.size + 1, 1, none⟩ (.slice W6 E.length c6)).setCell ⟨w.heap.size + 1, 2, none⟩ (.slice m.T m.zs.length m.ct) = Y := ⟨_, rfl⟩; have hbk : Blk Y (w.heap.size + 1) (.cells #[.slice (some ⟨eb, 0, none⟩) 2 2, .slice W6 E.length c6, .slice m.T m.zs.length m.ct] 59) := by rw [← hY]; exact ((hXY.set 0 _).set 1 _).set 2 _
   have q4 : Lv Y B eb { l with wire := E } { m with W := W6, cw := c6 } := by rw [← hY]; exact ((q3.far hXY 0 _).far (hXY.set 0 _) 1 _).far ((hXY.set 0 _).set 1 _) 2 _
   have q5 : Lw eb l m w { l with wire := E } { m with W := W6, cw := c6 } Y := by
    rw [← hY]; exact (((q2.set (Nat.le_refl _) _).set (by show _ ≤ w.heap.size + 1; omega) _).set (by show _ ≤ w.heap.size + 1; omega) _).set (by show _ ≤ w.heap.size + 1; omega) _
   rw [hY]; exact bodyPost_ret (v := .agg #[.slice (some ⟨eb, 0, none⟩) 2 2, .slice W6 E.length c6, .slice m.T m.zs.length m.ct]) (results_c rfl rfl (load59 hbk)) rfl ⟨{ m with W := W6, cw := c6 }, by (rw [HEE.out]; try rfl), by rw [HEE.out]; exact q4, by rw [HEE.out]; exact q5⟩
theorem large_any (A : Option Addr) (c : Nat) (ds : List Dd) (OA : Option Addr) (oc : Nat) (order : List Int) (w : World) (h : Cells w A (dds ds)) : Calls Try.prog 24 #[.slice A ds.length c, .slice OA order.length oc] w fun r w' => (∃ b, r = .returned (.bool b)) ∧ w' = w := by
 have HC := Lib.hid h; have HL : Hid (ds.length ≤ 17592186043904) := by have := h.1; rw [dds_len] at this; show _ ≤ _; omega
 clear h; go_enter Try.func24, Try.ntmps24
 by_cases h1 : (220 : Int) < (ds.length : Int)
 ·have q1 : decide ((220 : Int) < (ds.length : Int)) = true := decide_eq_true h1; have q1' : decide (220 < ds.length) = true := decide_eq_true (by omega); clear h1; go_wp2; go_ret; exact ⟨⟨_, rfl⟩, rfl⟩
 have q1 : decide ((220 : Int) < (ds.length : Int)) = false := decide_eq_false h1; have q1' : decide (220 < ds.length) = false := decide_eq_false (by omega); by_cases h2 : (220 : Int) < (order.length : Int)
 ·have q2 : decide ((220 : Int) < (order.length : Int)) = true := decide_eq_true h2; have q2' : decide (220 < order.length) = true := decide_eq_true (by omega); clear h1 h2; go_wp2; go_ret; exact ⟨⟨_, rfl⟩, rfl⟩
 have q2 : decide ((220 : Int) < (order.length : Int)) = false := decide_eq_false h2; have q2' : decide (220 < order.length) = false := decide_eq_false (by omega); clear h1 h2; go_wp2_with fail
 go_loopg [5] ds.length (fun g iv wr => ∃ k : Nat, k + g = ds.length ∧ iv = .int .i64 (k : Int) ∧ wr = w)
 case atStart => exact ⟨0, Nat.zero_add _, rfl, rfl⟩
 case round =>
  obtain ⟨k, hk, rfl, hwr⟩ := hrel; obtain rfl := hwr.symm; have HK := Lib.hid hk; clear hk hwr; by_cases hlt : (k : Int) < (ds.length : Int)
  ·obtain ⟨x, xb, xo, hx, hxb, hxi, h0, h1, h2, h3⟩ := dd_at (c := c) (k := k) HC.out (by omega); have hw1 : IntKind.i64.wrap ((k : Int) + 1) = (k : Int) + 1 := wrap_ok ⟨by omega, by have := HL.out; omega⟩; clear hx h0 h1 h2; by_cases h6 : (60 : Int) < (x.t.size : Int)
   ·have q3 : decide ((60 : Int) < (x.t.size : Int)) = true := decide_eq_true h6; clear h6; go_wp2; go_ret; exact ⟨⟨_, rfl⟩, rfl⟩
   ·have q3 : decide ((60 : Int) < (x.t.size : Int)) = false := decide_eq_false h6; clear h6; go_wp2_with fail
    go_roundg (ds.length - (k + 1))
    case measure => have := HK.out; omega
    case rel => exact ⟨k + 1, by have := HK.out; omega, rfl, rfl⟩
  ·go_wp2; go_ret; first | exact ⟨⟨_, rfl⟩, rfl⟩ | exact ⟨.inl rfl, rfl⟩
def textsA (l : List Pk) : List ByteArray := (l.filter fun p => p.kind == 2 && decide (0 ≤ p.num)).map (·.t)
theorem textsA_snoc (l : List Pk) (p : Pk) : textsA (l ++ [p]) = textsA l ++ if p.kind == 2 && decide (0 ≤ p.num) then [p.t] else [] := by
 unfold textsA; rw [List.filter_append, List.map_append]; congr 1; simp only [List.filter_cons, List.filter_nil]; split <;> rfl
theorem textsA_len (l : List Pk) : (textsA l).length ≤ l.length := by
 unfold textsA; rw [List.length_map]; exact List.length_filter_le _ _
theorem texts87_any (A : Option Addr) (c : Nat) (l : List Pk) (w : World) (h : Cells w A (pks l)) (hl : l.length ≤ 1000) : Calls Try.prog 87 #[.slice A l.length c, .int .i64 0] w fun r w' => ∃ T ct, r = .returned (.slice T (textsA l).length ct) ∧ w'.ownsRow w.heap.size 9 1 (.slice T (textsA l).length ct) (textsA l).length (strs (textsA l)) ∧ Below w.heap.size w w' := by
 have HC := Lib.hid h; clear h; go_enter Try.func87, Try.ntmps87
 go_wp2_with fail
 go_loopg [5, 6] l.length (fun g vo iv wr => ∃ k : Nat, k + g = l.length ∧ iv = .int .i64 (k : Int) ∧ wr.ownsRow w.heap.size 9 1 vo (textsA (l.take k)).length (strs (textsA (l.take k))) ∧ Below w.heap.size w wr)
 case atStart => exact ⟨0, Nat.zero_add _, rfl, World.ownsRow_nil _ _ _ _, Below.refl _ _⟩
 case round =>
  obtain ⟨k, hk, rfl, hown, hB⟩ := hrel; have HK := Lib.hid hk; have HO := Lib.hid hown; have HB := Lib.hid hB; have hql : (textsA (l.take k)).length ≤ k := Nat.le_trans (textsA_len _) (by rw [List.length_take]; omega); have hsr := hB.size; clear hk hown hB; by_cases hlt : (k : Int) < (l.length : Int)
  ·obtain ⟨x, xb, xo, hx, hxb, hxi, h0, h1, h2, h3, h4, h5, h6⟩ := pk_at (c := c) (k := k) (HC.out.below HB.out (Nat.le_refl _)) (by omega); have hw1 : IntKind.i64.wrap ((k : Int) + 1) = (k : Int) + 1 := wrap_ok ⟨by omega, by omega⟩; have HST : Hid (textsA (l.take (k + 1)) = textsA (l.take k) ++ if x.kind == 2 && decide (0 ≤ x.num) then [x.t] else []) := by show _ = _; rw [take_succ_of hx, textsA_snoc]
   have hk1 : k ≤ 1000 := by omega
   obtain ⟨Q, HQ⟩ : ∃ Q, Hid (textsA (l.take k) = Q) := ⟨_, rfl⟩; rw [HQ.out] at HO HST hql; clear hx h1 h2 h5 h6; cases hq : (x.kind == 2) with
   | false =>
    have HS : Hid (textsA (l.take (k + 1)) = Q) := by show _ = _; rw [HST.out, hq]; simp
    go_wp2_with fail
    go_roundg (l.length - (k + 1))
    case measure => have := HK.out; omega
    case rel => exact ⟨k + 1, by have := HK.out; omega, rfl, by rw [HS.out]; exact HO.out, HB.out⟩
   | true =>
    by_cases hn : 0 ≤ x.num
    ·have q2 : decide (0 ≤ x.num) = true := decide_eq_true hn; have HS : Hid (textsA (l.take (k + 1)) = Q ++ [x.t]) := by show _ = _; rw [HST.out, hq, q2]; simp
     clear hn; go_wp2_with (at_builtin; go_must (refine wpList_app1' rSt _ rfl _ _ rfl HO.out rfl [_] 1 rfl rfl (by simp [Value.oneCell']) (by omega) (by omega) ?_); intro v2 w2 hown2 hB2 hg2 hloc2)
     go_roundg (l.length - (k + 1))
     case measure => have := HK.out; omega
     case rel => exact ⟨k + 1, by have := HK.out; omega, rfl, by rw [HS.out, strs_snoc, List.length_append]; exact hown2, HB.out.trans hB2⟩
    ·have q2 : decide (0 ≤ x.num) = false := decide_eq_false hn; have HS : Hid (textsA (l.take (k + 1)) = Q) := by show _ = _; rw [HST.out, hq, q2]; simp
     clear hn; go_wp2_with fail
     go_roundg (l.length - (k + 1))
     case measure => have := HK.out; omega
     case rel => exact ⟨k + 1, by have := HK.out; omega, rfl, by rw [HS.out]; exact HO.out, HB.out⟩
  ·obtain rfl : k = l.length := by have := HK.out; omega
   rw [List.take_length] at HO; obtain ⟨T, ct, rfl⟩ := own_fits HO.out; go_wp2; go_ret; exact ⟨T, ct, rfl, HO.out, HB.out⟩
end Go.Proofs.Ytejabnoidhlfaaa
