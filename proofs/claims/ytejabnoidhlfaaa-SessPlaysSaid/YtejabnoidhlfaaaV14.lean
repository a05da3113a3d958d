/- Contracts and lemmas that the claim uses. -/
import Derived.Test.YtejabnoidhlfaaaV13
set_option maxRecDepth 100000
set_option maxHeartbeats 16000000
namespace Go.Proofs.Ytejabnoidhlfaaa
open Go.RowKit Go.Maps
structure Off (w : World) (bl : Nat) (l : Lp) (m : Lm) (A : Option Addr) (cs : List Value) : Prop where
 at_ : Cells w A cs
 off : cs ≠ [] → ∀ a, A = some a → ¬ LB bl l m a.block
theorem Off.step {w w' : World} {bl : Nat} {l l' : Lp} {m m' : Lm} {A : Option Addr} {cs : List Value} (h : Off w bl l m A cs) (k : Ls bl l m w l' m' w') : Off w' bl l' m' A cs := by
 refine ⟨h.at_.frame k.fr h.off, fun hn a ha hb => ?_⟩; have hlt := h.at_.lt hn ha; rcases k.new _ hb with h1 | h1
 ·exact h.off hn a ha h1
 ·omega
theorem wayA_app (frm : Int) : ∀ (a b : List Pk) (l : Lp), wayA l frm (a ++ b) = wayA (wayA l frm a) frm b
 | [], b, l => rfl
 | p :: a, b, l => by
  rw [List.cons_append, wayA, wayA]; exact wayA_app frm a b _
theorem wayA_put {l : Lp} {frm : Int} {ps : List Pk} {k : Nat} {p : Pk} {L : Lp} (hL : wayA l frm (ps.take k) = L) (hp : ps[k]? = some p) (h : L.free = true ∨ L.wire.length < 60) : wayA l frm (ps.take (k + 1)) = { L with wire := L.wire ++ [⟨1 - frm, p⟩] } := by
 rw [take_succ_of hp, wayA_app, hL, wayA, wayA, if_pos h]
theorem wayA_no {l : Lp} {frm : Int} {ps : List Pk} {k : Nat} {p : Pk} {L : Lp} (hL : wayA l frm (ps.take k) = L) (hp : ps[k]? = some p) (h : ¬ (L.free = true ∨ L.wire.length < 60)) : wayA l frm (ps.take (k + 1)) = L := by
 rw [take_succ_of hp, wayA_app, hL, wayA, wayA, if_neg h]
theorem wayA_len {frm : Int} : ∀ (ps : List Pk) (l : Lp), (wayA l frm ps).wire.length ≤ l.wire.length + ps.length
 | [], l => by simp [wayA]
 | p :: ps, l => by
  rw [wayA]; split
  ·have := wayA_len (frm := frm) ps { l with wire := l.wire ++ [⟨1 - frm, p⟩] }; simp only [List.length_append, List.length_cons, List.length_nil] at this ⊢; omega
  ·have := wayA_len (frm := frm) ps l; simp only [List.length_cons]; omega
theorem way_any (B bl : Nat) (l : Lp) (m : Lm) (frm : Int) (P : Option Addr) (cp : Nat) (ps : List Pk) (w : World) (h : Lo w B bl l m) (hf : frm = 0 ∨ frm = 1) (hP : Off w bl l m P (pks ps)) (hn : l.wire.length + ps.length ≤ 1000000000) :
  Calls Try.prog 67 #[.pointer (some ⟨bl, 0, none⟩), .int .i64 frm, .slice P ps.length cp] w fun r w' => r = .returned (.tuple #[]) ∧ ∃ m', Lo w' B bl (wayA l frm ps) m' ∧ Ls bl l m w (wayA l frm ps) m' w' := by
 have HLO := Lib.hid h; have HP := Lib.hid hP; have hwf : IntKind.i64.wrap (1 - frm) = 1 - frm := wrap_ok ⟨by omega, by omega⟩; clear h hP hf; go_enter Try.func67, Try.ntmps67
 go_wp2; go_loopw [10] (fun i wr => ∃ (k : Nat) (M : Lm), k ≤ ps.length ∧ i = .int .i64 k ∧ Lo wr B bl (wayA l frm (ps.take k)) M ∧ Ls bl l m w (wayA l frm (ps.take k)) M wr) (fun i _ => ps.length - (intOf i).toNat)
 case atStart => exact ⟨0, m, Nat.zero_le _, rfl, HLO.out, Ls.refl _ _ _ _⟩
 case round =>
  obtain ⟨k, M, hk, rfl, hlo, hls⟩ := hrel; by_cases hlt : k < ps.length
  ·have hwl := wayA_len (frm := frm) (ps.take k) l; obtain ⟨L, HL⟩ : ∃ L, Hid (wayA l frm (ps.take k) = L) := ⟨_, rfl⟩; rw [HL.out] at hlo hls hwl; have HLR := Lib.hid hlo; have HLS := Lib.hid hls; rw [List.length_take] at hwl; obtain ⟨x, b, o, hx, hb, hix, hc0, hc1, hc2, hc3, hc4, hc5, hc6⟩ := pk_at (c := cp) (HP.out.step hls).at_ hlt; have HXK := Lib.hid hx; have hwl2 : L.wire.length ≤ 1000000000 := by omega
   clear hlo hls hx hwl; obtain ⟨X, hX⟩ : ∃ X, wr.alloc (.cells #[.int .i64 x.kind, .int .i64 x.frm, .int .i64 x.to, .int .i64 x.num, .string x.t, .int .i64 x.ack, .int .i64 x.held] 44) = X := ⟨_, rfl⟩; have HBX : Hid (Below wr.heap.size wr X) := by rw [← hX]; exact (Below.refl _ wr).alloc (Nat.le_refl _) _
   have HXB : Hid (Blk X wr.heap.size (.cells (pkB x) 44)) := by rw [← hX]; exact Blk.new _ _
   have HLX : Hid (Lo X B bl L M) := HLR.out.below HBX.out; have c14 := HLX.out.box.cell 14 (v := .slice M.W L.wire.length M.cw) rfl; have c18 := HLX.out.box.cell 18 (v := .bool L.free) rfl; cases hfr : L.free with
   | true =>
    rw [hfr] at c18; have HPUT := Lib.hid (wayA_put HL.out HXK.out (.inl hfr)); clear hfr; go_wp2; have HOD : Hid (X.drew.ownsRow B 116 8 (.slice M.W L.wire.length M.cw) L.wire.length (tps L.wire)) := HLX.out.wire; have hnb : ∀ b cs t, Blk X b (.cells cs t) → t ≠ 116 → ¬ (Value.slice M.W L.wire.length M.cw).ownBlock = some b := fun b cs t hb ht e2 => own_ne HLX.out.wire hb (fun e3 => ht e3.symm) e2; have HNB := Lib.hid hnb; have hxb := HXB.out.lt; have hlb := HLX.out.box.lt; have hlo := HLX.out.lo; clear hnb c14 c18; refine drawl (fun w' => Frame (fun b => (Value.slice M.W L.wire.length M.cw).ownBlock = some b) X w') 13 13 rfl (by kernel_rfl) (fun Qd hQd => ?_)
    iterate 9 (first | apply sL 0 (by rfl) (by kernel_rfl) rfl (by kernel_rfl) | apply sL 1 (by rfl) (by kernel_rfl) rfl (by kernel_rfl) | apply sL 5 (by rfl) (by kernel_rfl) rfl (by kernel_rfl) | apply sL 7 (by rfl) (by kernel_rfl) rfl (by kernel_rfl) | apply sL 2 (by rfl) (by kernel_rfl) rfl (by kernel_rfl) | apply sL 6 (by rfl) (by kernel_rfl) rfl (by kernel_rfl) | apply sL 3 (by rfl) (by kernel_rfl) rfl (by kernel_rfl) | apply sL 8 (by rfl) (by kernel_rfl) rfl (by kernel_rfl) | apply sL 4 (by rfl) (by kernel_rfl) rfl (by kernel_rfl)); (focus intro wI hI Kv hKv; have u0 := (HLX.out.box.frame hI (HNB.out _ _ _ HLX.out.box (by decide))).cell 14 (v := .slice M.W L.wire.length M.cw) rfl; have g0 := HXB.out.frame hI (HNB.out _ _ _ HXB.out (by decide)); obtain ⟨v0, v1, v2, v3, v4, v5, v6⟩ := Blk.c7 g0; clear g0; go_simp; exact hKv); intro Kd hKd; go_simp; refine hKd _ ?_; clear hKd Kd
    refine anyL_one 9 rfl (by kernel_rfl) ((Frame.refl _ X).drew) (fun Kd hKd => ?_); go_wp2; refine anyL_one 10 rfl (by kernel_rfl) (((Frame.refl _ X).drew.alloc _)) (fun Kd hKd => ?_); go_wp2_with (at_builtin; go_must (refine wpList_app1' rTp _ rfl _ _ rfl HOD.out rfl [_, _, _, _, _, _, _, _] 1 rfl rfl (by simp [Value.oneCell']) (by omega) (by show B ≤ X.heap.size; omega) ?_); intro v6 w6 ho6 hB6 hg6 hloc6; obtain ⟨W6, c6, rfl⟩ := own_fits ho6)
    have HG6 : Hid (Frame (fun b => (Value.slice M.W L.wire.length M.cw).ownBlock = some b) X w6) := (Frame.refl _ X).drew.trans (Frame.of_grown hg6) (fun _ _ h => h); have bx6 := HLX.out.box.frame HG6.out (HNB.out _ _ _ HLX.out.box (by decide)); have k2 := bx6.cell 14 (v := .slice M.W L.wire.length M.cw) rfl; have k3 := bx6.free 14; have k4 := bx6.lt; have HO6 := Lib.hid ho6; have HL6 := Lib.hid hloc6; clear ho6 hB6 hg6 hloc6 bx6; refine anyL_one 11 rfl (by kernel_rfl) (HG6.out) (fun Kd hKd => ?_); go_wp2; apply anyL_step 12 (by kernel_rfl) rfl (by kernel_rfl); (focus intro wI hI Kv hKv; go_simp; exact hKv); intro Kd hKd; go_simp; refine hKd _ ?_; clear hKd Kd
    refine anyL_end rfl (by kernel_rfl) (HG6.out) (fun Kd hKd => ?_); go_wp2; go_roundw
    case rel =>
     have e1 : (L.wire ++ [(⟨1 - frm, x⟩ : Tp)]).length = L.wire.length + 1 := by simp
     have ho : w6.ownsRow B 116 8 (.slice W6 (L.wire ++ [(⟨1 - frm, x⟩ : Tp)]).length c6) (L.wire ++ [(⟨1 - frm, x⟩ : Tp)]).length (tps (L.wire ++ [⟨1 - frm, x⟩])) := by
      rw [e1, tps_snoc]; exact HO6.out
     obtain ⟨q1, q2⟩ := HLX.out.setWire HG6.out ho (by rw [e1]; exact HL6.out); rw [e1] at q1 q2; refine ⟨k + 1, { M with W := W6, cw := c6 }, by omega, by go_num, ?_, ?_⟩
     ·rw [HPUT.out]; exact q1
     ·rw [HPUT.out]; exact (HLS.out.trans (Ls.of_below HBX.out)).trans q2
    case measure => simp [intOf]; omega
   | false =>
    rw [hfr] at c18; by_cases h60 : (L.wire.length : Int) < 60
    ·have HPUT := Lib.hid (wayA_put HL.out HXK.out (.inr (by omega))); clear hfr; go_wp2; have HOD : Hid (X.drew.ownsRow B 116 8 (.slice M.W L.wire.length M.cw) L.wire.length (tps L.wire)) := HLX.out.wire; have hnb : ∀ b cs t, Blk X b (.cells cs t) → t ≠ 116 → ¬ (Value.slice M.W L.wire.length M.cw).ownBlock = some b := fun b cs t hb ht e2 => own_ne HLX.out.wire hb (fun e3 => ht e3.symm) e2; have HNB := Lib.hid hnb; have hxb := HXB.out.lt; have hlb := HLX.out.box.lt; have hlo := HLX.out.lo; clear hnb c14 c18; refine drawl (fun w' => Frame (fun b => (Value.slice M.W L.wire.length M.cw).ownBlock = some b) X w') 13 13 rfl (by kernel_rfl) (fun Qd hQd => ?_)
     iterate 9 (first | apply sL 0 (by rfl) (by kernel_rfl) rfl (by kernel_rfl) | apply sL 1 (by rfl) (by kernel_rfl) rfl (by kernel_rfl) | apply sL 5 (by rfl) (by kernel_rfl) rfl (by kernel_rfl) | apply sL 7 (by rfl) (by kernel_rfl) rfl (by kernel_rfl) | apply sL 2 (by rfl) (by kernel_rfl) rfl (by kernel_rfl) | apply sL 6 (by rfl) (by kernel_rfl) rfl (by kernel_rfl) | apply sL 3 (by rfl) (by kernel_rfl) rfl (by kernel_rfl) | apply sL 8 (by rfl) (by kernel_rfl) rfl (by kernel_rfl) | apply sL 4 (by rfl) (by kernel_rfl) rfl (by kernel_rfl)); (focus intro wI hI Kv hKv; have u0 := (HLX.out.box.frame hI (HNB.out _ _ _ HLX.out.box (by decide))).cell 14 (v := .slice M.W L.wire.length M.cw) rfl; have g0 := HXB.out.frame hI (HNB.out _ _ _ HXB.out (by decide)); obtain ⟨v0, v1, v2, v3, v4, v5, v6⟩ := Blk.c7 g0; clear g0; go_simp; exact hKv); intro Kd hKd; go_simp; refine hKd _ ?_; clear hKd Kd
     refine anyL_one 9 rfl (by kernel_rfl) ((Frame.refl _ X).drew) (fun Kd hKd => ?_); go_wp2; refine anyL_one 10 rfl (by kernel_rfl) (((Frame.refl _ X).drew.alloc _)) (fun Kd hKd => ?_); go_wp2_with (at_builtin; go_must (refine wpList_app1' rTp _ rfl _ _ rfl HOD.out rfl [_, _, _, _, _, _, _, _] 1 rfl rfl (by simp [Value.oneCell']) (by omega) (by show B ≤ X.heap.size; omega) ?_); intro v6 w6 ho6 hB6 hg6 hloc6; obtain ⟨W6, c6, rfl⟩ := own_fits ho6)
     have HG6 : Hid (Frame (fun b => (Value.slice M.W L.wire.length M.cw).ownBlock = some b) X w6) := (Frame.refl _ X).drew.trans (Frame.of_grown hg6) (fun _ _ h => h); have bx6 := HLX.out.box.frame HG6.out (HNB.out _ _ _ HLX.out.box (by decide)); have k2 := bx6.cell 14 (v := .slice M.W L.wire.length M.cw) rfl; have k3 := bx6.free 14; have k4 := bx6.lt; have HO6 := Lib.hid ho6; have HL6 := Lib.hid hloc6; clear ho6 hB6 hg6 hloc6 bx6; refine anyL_one 11 rfl (by kernel_rfl) (HG6.out) (fun Kd hKd => ?_); go_wp2; apply anyL_step 12 (by kernel_rfl) rfl (by kernel_rfl); (focus intro wI hI Kv hKv; go_simp; exact hKv); intro Kd hKd; go_simp; refine hKd _ ?_; clear hKd Kd
     refine anyL_end rfl (by kernel_rfl) (HG6.out) (fun Kd hKd => ?_); go_wp2; go_roundw
     case rel =>
      have e1 : (L.wire ++ [(⟨1 - frm, x⟩ : Tp)]).length = L.wire.length + 1 := by simp
      have ho : w6.ownsRow B 116 8 (.slice W6 (L.wire ++ [(⟨1 - frm, x⟩ : Tp)]).length c6) (L.wire ++ [(⟨1 - frm, x⟩ : Tp)]).length (tps (L.wire ++ [⟨1 - frm, x⟩])) := by
       rw [e1, tps_snoc]; exact HO6.out
      obtain ⟨q1, q2⟩ := HLX.out.setWire HG6.out ho (by rw [e1]; exact HL6.out); rw [e1] at q1 q2; refine ⟨k + 1, { M with W := W6, cw := c6 }, by omega, by go_num, ?_, ?_⟩
      ·rw [HPUT.out]; exact q1
      ·rw [HPUT.out]; exact (HLS.out.trans (Ls.of_below HBX.out)).trans q2
     case measure => simp [intOf]; omega
    ·have HPUT := Lib.hid (wayA_no HL.out HXK.out (by rw [hfr]; rintro (h | h); cases h; omega)); clear hfr; go_wp2; go_roundw
     case rel => exact ⟨k + 1, M, by omega, by go_num, by rw [HPUT.out]; exact HLX.out, by rw [HPUT.out]; exact HLS.out.trans (Ls.of_below HBX.out)⟩
     case measure => simp [intOf]; omega
  ·obtain rfl : k = ps.length := by omega
   rw [List.take_length] at hlo hls; have HLR := Lib.hid hlo; have HLS := Lib.hid hls; clear hlo hls; go_wp2; go_end0
   exact ⟨rfl, M, HLR.out, HLS.out⟩
theorem sz26 : (Try.prog.info? 26).map (·.size) = some 7 := by kernel_rfl
theorem ix107 {b : Nat} {i : Int} (hi : i = 0 ∨ i = 1) (w : World) : (Instr.indexAt 107 (.pointer (some ⟨b, 0, none⟩)) (.int .i64 i)).run Try.prog w = .ok (.pointer (some ⟨b, 7 * i.toNat, none⟩)) w := by
 obtain ⟨q, hq, hqe⟩ : ∃ q, Try.prog.info? 26 = some q ∧ q.size = 7 := by
  have hs := sz26; cases hx : Try.prog.info? 26 with
  | none => rw [hx] at hs; cases hs
  | some i => rw [hx] at hs; exact ⟨i, rfl, by simpa using hs⟩
 rcases hi with rfl | rfl
 ·simp [Instr.indexAt, run_underlying Try.underlying107, asIntOf, sizeOf, typeInfo, hq, Instr.sureAddr, Addr.add]
 ·simp [Instr.indexAt, run_underlying Try.underlying107, asIntOf, sizeOf, typeInfo, hq, hqe, Instr.sureAddr, Addr.add]
theorem ix108 {b : Nat} {i : Int} (hi : i = 0 ∨ i = 1) (w : World) : (Instr.indexAt 108 (.pointer (some ⟨b, 16, none⟩)) (.int .i64 i)).run Try.prog w = .ok (.pointer (some ⟨b, 16 + i.toNat, none⟩)) w := by
 obtain ⟨q, hq, hqe⟩ : ∃ q, Try.prog.info? 3 = some q ∧ q.size = 1 := by
  have hs := szInt; cases hx : Try.prog.info? 3 with
  | none => rw [hx] at hs; cases hs
  | some i => rw [hx] at hs; exact ⟨i, rfl, by simpa using hs⟩
 rcases hi with rfl | rfl
 ·simp [Instr.indexAt, run_underlying Try.underlying108, asIntOf, sizeOf, typeInfo, hq, Instr.sureAddr, Addr.add]
 ·simp [Instr.indexAt, run_underlying Try.underlying108, asIntOf, sizeOf, typeInfo, hq, hqe, Instr.sureAddr, Addr.add]
def Lm.A (m : Lm) (i : Int) : Option Addr := if i = 0 then m.A0 else m.A1
def Lm.c (m : Lm) (i : Int) : Nat := if i = 0 then m.c0 else m.c1
def Lm.D (m : Lm) (i : Int) : Option Addr := if i = 0 then m.D0 else m.D1
def Lm.d (m : Lm) (i : Int) : Nat := if i = 0 then m.d0 else m.d1
section
variable {w w' w6 : World} {B bl : Nat} {l l' : Lp} {m m' : Lm} {S : Nat → Prop}
theorem Lo.end_ (h : Lo w B bl l m) {i : Int} (hi : i = 0 ∨ i = 1) : EnT w (l.end_ i) (m.A i) (m.c i) (m.D i) := by
 rcases hi with rfl | rfl
 ·exact h.e0
 ·exact h.e1
theorem Lo.endc (h : Lo w B bl l m) {i : Int} (hi : i = 0 ∨ i = 1) :
  w.cell? ⟨bl, 7 * i.toNat, none⟩ = some (.int .i64 (l.end_ i).life) ∧ w.cell? ⟨bl, 7 * i.toNat + 1, none⟩ = some (.int .i64 (l.end_ i).peer) ∧ w.cell? ⟨bl, 7 * i.toNat + 2, none⟩ = some (.int .i64 (l.end_ i).phase) ∧
  w.cell? ⟨bl, 7 * i.toNat + 3, none⟩ = some (.int .i64 (l.end_ i).base) ∧ w.cell? ⟨bl, 7 * i.toNat + 4, none⟩ = some (.slice (m.A i) (l.end_ i).out.length (m.c i)) ∧ w.cell? ⟨bl, 7 * i.toNat + 5, none⟩ = some (.int .i64 (l.end_ i).want) ∧
  w.cell? ⟨bl, 7 * i.toNat + 6, none⟩ = some (.slice (m.D i) (l.end_ i).inn.length (m.d i)) := by
 rcases hi with rfl | rfl
 ·exact ⟨h.box.cell 0 rfl, h.box.cell 1 rfl, h.box.cell 2 rfl, h.box.cell 3 rfl, h.box.cell 4 rfl, h.box.cell 5 rfl, h.box.cell 6 rfl⟩
 ·exact ⟨h.box.cell 7 rfl, h.box.cell 8 rfl, h.box.cell 9 rfl, h.box.cell 10 rfl, h.box.cell 11 rfl, h.box.cell 12 rfl, h.box.cell 13 rfl⟩
theorem Lo.nowc (h : Lo w B bl l m) {i : Int} (hi : i = 0 ∨ i = 1) : w.cell? ⟨bl, 16 + i.toNat, none⟩ = some (.int .i64 (l.now i)) := by
 rcases hi with rfl | rfl
 ·exact h.box.cell 16 rfl
 ·exact h.box.cell 17 rfl
theorem sz120 : (Try.prog.info? 120).map (·.size) = some 6 := rTz.size_eq
theorem ix57 {b n c k : Nat} (hk : k < n) (w' : World) : (Instr.indexAt 57 (.slice (some ⟨b, 0, none⟩) n c) (.int .i64 (k : Int))).run Try.prog w' = .ok (.pointer (some ⟨b, k * 6, none⟩)) w' := by
 obtain ⟨i, hi, hie⟩ : ∃ i, Try.prog.info? 120 = some i ∧ i.size = 6 := by
  have hs := sz120; cases hx : Try.prog.info? 120 with
  | none => rw [hx] at hs; cases hs
  | some i => rw [hx] at hs; exact ⟨i, rfl, by simpa using hs⟩
 have hin : (0 : Int) ≤ (k : Int) ∧ (k : Int) < (n : Int) := by omega
 simp [Instr.indexAt, run_underlying Try.underlying57, asIntOf, hin, sizeOf, typeInfo, hi, hie, hk]; by_cases h0 : k * 6 = 0
 ·have : k = 0 := by omega
  subst this; simp [Addr.add]
 ·simp [Addr.add, h0]
theorem Lo.tale (h : Lo w B bl l m) {k : Nat} {t : Ta} (ht : l.tales[k]? = some t) : ∃ z g, m.zs[k]? = some z ∧ z.v = t ∧ m.T = some ⟨g, 0, none⟩ ∧ k < m.zs.length ∧ g < w.heap.size ∧ (∃ cur, Blk w g (.cells cur 120)) ∧
  w.cell? ⟨g, k * 6 + 3, none⟩ = some (.slice z.S z.v.sent.length z.cs) ∧ w.cell? ⟨g, k * 6 + 4, none⟩ = some (.slice z.L z.v.lost.length z.cl) ∧ w.cell? ⟨g, k * 6 + 5, none⟩ = some (.slice z.K z.v.taken.length z.ck) ∧
  (∀ j, w.frozen? ⟨g, j, none⟩ = false) := by
 rw [← h.tz, List.getElem?_map] at ht; cases hz : m.zs[k]? with
 | none => rw [hz] at ht; cases ht
 | some z =>
  rw [hz] at ht; have hk := (List.getElem?_eq_some_iff.1 hz).1; obtain ⟨g, cur, hT, _, hb⟩ := own_some h.tal (by omega); have hcell : ∀ j v, (tzC z)[j]? = some v → j < 6 → w.cell? ⟨g, k * 6 + j, none⟩ = some v := fun j v hv hj => by
   have h1 : (tzs m.zs)[k * 6 + j]? = some v := by
    unfold tzs; rw [flat_get tzC_len m.zs k j hj, hz]; exact hv
   rcases h.tal.2 with ⟨_, h0⟩ | ⟨g2, cap, cur2, hv2, _, hh, _, _, _, h4⟩
   ·omega
   ·injection hv2 with e1 _ _; rw [hT] at e1; injection e1 with e1; injection e1 with e1; subst e1; refine Blk.cell hh (k * 6 + j) ?_; rw [← h4, List.getElem?_take] at h1; split at h1
    ·rw [← Array.getElem?_toList]; exact h1
    ·cases h1
  exact ⟨z, g, rfl, by simpa using ht, hT, hk, hb.lt, ⟨cur, hb⟩, hcell 3 _ rfl (by omega), hcell 4 _ rfl (by omega), hcell 5 _ rfl (by omega), fun j => hb.free j⟩
end
end Go.Proofs.Ytejabnoidhlfaaa
namespace Go.Proofs.Ytejabnoidhlfaaa
def openE (e : En) : En := if e.phase == 2 then { e with phase := 3 } else e
def takeB (e1 : En) (ls : List ByteArray) (p : Pk) : En × Gn × Int :=
 let n := flyN e1
 let sent := e1.base + n
 let mine := p.to == e1.life
 let opened := mine && e1.phase == 2 && p.kind == 1
 let e2 := if mine && e1.phase == 2 then { e1 with phase := 3 } else e1
 let e3 := if mine && p.kind != 1 then ackedA e2 p n else e2
 let c := if mine && p.kind == 2 then cameA e3 p else (e3, [])
 let e4 := c.1
 let pk := (if mine then [] else [helloA e4]) ++ fromA e4 (sent - e4.base).toNat ++ (if opened || (mine && p.kind == 2) then [reportA e4] else [])
 (e4, ⟨pk, c.2, ls⟩, 0)
theorem tk_go {e : En} {p : Pk} (hg : goodB e = true) (hp : properB p = true) (hd : ¬ p.frm < e.peer) {e1 : En} {ls : List ByteArray} (ho : (if e.peer < p.frm then overA e p.frm else (e, [])) = (e1, ls)) : takeA e p = takeB e1 ls p := by
 unfold takeA; rw [hg, hp]; simp only [Bool.and_self, Bool.true_eq_false, if_false]; rw [if_neg hd, ho]; rfl
theorem tb_foreign {e1 : En} {ls : List ByteArray} {p : Pk} (hm : (p.to == e1.life) = false) : takeB e1 ls p = (e1, ⟨[] ++ [helloA e1] ++ fromA e1 (flyN e1), [], ls⟩, 0) := by
 unfold takeB; simp only [hm, Bool.false_and, Bool.false_eq_true, if_false, Bool.or_self, List.append_nil, List.nil_append]; rw [show (e1.base + (flyN e1 : Int) - e1.base).toNat = flyN e1 by omega]
theorem tb_hello {e1 : En} {ls : List ByteArray} {p : Pk} (hm : (p.to == e1.life) = true) (hk : p.kind = 1) : takeB e1 ls p = (openE e1, ⟨[] ++ fromA (openE e1) (flyN e1) ++ (if e1.phase == 2 then [reportA (openE e1)] else []), [], ls⟩, 0) := by
 unfold takeB openE; have h2 : (p.kind == 2) = false := beq_eq_false_iff_ne.2 (by omega); have h1 : (p.kind == 1) = true := beq_iff_eq.2 hk; have h3 : (p.kind != 1) = false := by simp [hk]
 simp only [hm, h1, h2, h3, Bool.true_and, Bool.and_true, Bool.and_false, Bool.false_eq_true, if_false, if_true, Bool.or_false, List.nil_append]; cases hph : (e1.phase == 2) with
 | true =>
  simp only [if_true]; rw [show (e1.base + (flyN e1 : Int) - e1.base).toNat = flyN e1 by omega]
 | false =>
  simp only [Bool.false_eq_true, if_false]; rw [show (e1.base + (flyN e1 : Int) - e1.base).toNat = flyN e1 by omega]
theorem acked_base (e : En) (p : Pk) (n : Nat) : (ackedA e p n).base = e.base + (goneA e p n : Int) ∧ goneA e p n ≤ n ∧ (ackedA e p n).life = e.life ∧ (ackedA e p n).peer = e.peer ∧ (ackedA e p n).phase = e.phase := by
 unfold ackedA goneA; split
 ·exact ⟨by simp, Nat.zero_le _, rfl, rfl, rfl⟩
 ·refine ⟨?_, by omega, rfl, rfl, rfl⟩; show p.ack = _; omega
theorem came_base (e : En) (p : Pk) : (cameA e p).1.base = e.base ∧ (cameA e p).1.out = e.out ∧ (cameA e p).1.phase = e.phase ∧ (cameA e p).1.peer = e.peer ∧ (cameA e p).1.life = e.life := by
 unfold cameA; split <;> exact ⟨rfl, rfl, rfl, rfl, rfl⟩
theorem tb_ack {e1 : En} {ls : List ByteArray} {p : Pk} (hm : (p.to == e1.life) = true) (hk : p.kind = 3) : takeB e1 ls p = (ackedA (openE e1) p (flyN e1), ⟨[] ++ fromA (ackedA (openE e1) p (flyN e1)) (flyN e1 - goneA (openE e1) p (flyN e1)), [], ls⟩, 0) := by
 have hb := acked_base (openE e1) p (flyN e1); have hbo : (openE e1).base = e1.base := by unfold openE; split <;> rfl
 have e0 : (if (e1.phase == 2) = true then { e1 with phase := 3 } else e1) = openE e1 := rfl; unfold takeB; have h2 : (p.kind == 2) = false := beq_eq_false_iff_ne.2 (by omega); have h1 : (p.kind == 1) = false := beq_eq_false_iff_ne.2 (by omega); have h3 : (p.kind != 1) = true := by simp [hk]
 simp only [hm, h1, h2, h3, Bool.true_and, Bool.and_true, Bool.and_false, Bool.false_eq_true, if_false, if_true, Bool.or_false, List.nil_append, List.append_nil, e0]; rw [show (e1.base + (flyN e1 : Int) - (ackedA (openE e1) p (flyN e1)).base).toNat = flyN e1 - goneA (openE e1) p (flyN e1) by rw [hb.1, hbo]; omega]
theorem tb_data {e1 : En} {ls : List ByteArray} {p : Pk} (hm : (p.to == e1.life) = true) (hk : p.kind = 2) : takeB e1 ls p = ((cameA (ackedA (openE e1) p (flyN e1)) p).1, ⟨[] ++ fromA (cameA (ackedA (openE e1) p (flyN e1)) p).1 (flyN e1 - goneA (openE e1) p (flyN e1)) ++ [reportA (cameA (ackedA (openE e1) p (flyN e1)) p).1], (cameA (ackedA (openE e1) p (flyN e1)) p).2, ls⟩, 0) := by
 have hb := acked_base (openE e1) p (flyN e1); have hbo : (openE e1).base = e1.base := by unfold openE; split <;> rfl
 have hc := came_base (ackedA (openE e1) p (flyN e1)) p; have e0 : (if (e1.phase == 2) = true then { e1 with phase := 3 } else e1) = openE e1 := rfl; unfold takeB; have h2 : (p.kind == 2) = true := beq_iff_eq.2 hk; have h1 : (p.kind == 1) = false := beq_eq_false_iff_ne.2 (by omega); have h3 : (p.kind != 1) = true := by simp [hk]
 simp only [hm, h1, h2, h3, Bool.true_and, Bool.and_true, Bool.and_false, if_true, Bool.or_true, List.nil_append, e0]; rw [show (e1.base + (flyN e1 : Int) - (cameA (ackedA (openE e1) p (flyN e1)) p).1.base).toNat = flyN e1 - goneA (openE e1) p (flyN e1) by rw [hc.1, hb.1, hbo]; omega]
theorem takeIn_len : ∀ (f : Nat) (w : Int) (l : List Im), (takeIn f w l).2.2.length ≤ l.length
 | 0, w, l => by simp [takeIn]
 | f + 1, w, [] => by simp [takeIn]
 | f + 1, w, x :: l => by
  unfold takeIn; split
  ·have := takeIn_len f (w + 1) l; simp only [List.length_cons]; omega
  ·simp
theorem came_len {e : En} {p : Pk} (h : GoodP e) : (cameA e p).2.length ≤ 4 := by
 unfold cameA; split
 ·simp
 ·have h1 := takeIn_len (e.inn.length + 1) e.want (putA ⟨p.num, p.t⟩ e.inn); have h2 := putA_len ⟨p.num, p.t⟩ e.inn; have h3 := h.ins_len; simp only; omega
end Go.Proofs.Ytejabnoidhlfaaa
