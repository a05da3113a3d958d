/- Contract: carry. -/
import Derived.Test.YtejabnoidhlfaaaDoorS34

/- Contract: carry. -/
namespace Go.Proofs.YtejabnoidhlfaaaDoor
open Go.RowKit Go.Maps

theorem len_erase {α : Type} {l : List α} {k : Nat} (hk : k < l.length) : (l.eraseIdx k).length = l.length - 1 := by rw [List.length_eraseIdx, if_pos hk]
set_option maxRecDepth 100000 in
set_option maxHeartbeats 8000000 in
theorem carry_any (B bl : Nat) (l : Lp) (m : Lm) (k : Nat) (x : Tp) (hx : l.wire[k]? = some x) (w : World) (n : Nat) (h : Lo w B bl l m) (hn : LineK l n) (hnn : n ≤ 90000000) :
  Calls Tryd.prog 20 #[.pointer (some ⟨bl, 0, none⟩), .int .i64 (k : Int)] w fun r w' => r = .returned (.tuple #[]) ∧ ∃ m', Lo w' B bl (carryA l k) m' ∧ Ls bl l m w (carryA l k) m' w' := by
 have HLO := Lib.hid h
 have HX := Lib.hid hx
 have HCE := Lib.hid (carry_eq hx)
 have HMI := Lib.hid (carry_mid hn hx)
 have HBN : Hid (∀ t ∈ l.tales, t.sent.length ≤ n ∧ t.lost.length ≤ n ∧ t.taken.length ≤ n) := hn.bulk.txt
 have HN0 : Hid (NowAt { l with wire := l.wire.eraseIdx k } x.to) := hn.now x.to (carry_mid hn hx).toO
 have HWL : Hid (l.wire.length ≤ 1000000000) := by show _ ≤ _; have := hn.bulk.wire; omega
 obtain ⟨g, hW, hgl, hkl, hcell⟩ := h.trip hx
 have c14 := h.box.cell 14 (v := .slice m.W l.wire.length m.cw) rfl
 rw [hW] at c14
 have d0 : w.cell? ⟨g, k * 8, none⟩ = some (.int .i64 x.to) := hcell 0 _ rfl
 have d1 := hcell 1 _ rfl
 have d2 := hcell 2 _ rfl
 have d3 := hcell 3 _ rfl
 have d4 := hcell 4 _ rfl
 have d5 := hcell 5 _ rfl
 have d6 := hcell 6 _ rfl
 have d7 := hcell 7 _ rfl
 have hix : ∀ w', (Instr.indexAt 25 (.slice (some ⟨g, 0, none⟩) l.wire.length m.cw) (.int .i64 (k : Int))).run Tryd.prog w' = .ok (.pointer (some ⟨g, k * 8, none⟩)) w' := fun w' => ix56 hkl w'
 obtain ⟨q8, Hq8⟩ : ∃ q8, Hid (k * 8 = q8) := ⟨_, rfl⟩
 rw [Hq8.out] at hix d0 d1 d2 d3 d4 d5 d6 d7
 have HW := Lib.hid hW
 have HKL := Lib.hid hkl
 have hlb := h.box.lt
 have hkw : IntKind.i64.wrap ((k : Int) + 1) = ((k + 1 : Nat) : Int) := by rw [wrap_ok ⟨by omega, by have := HWL.out; omega⟩]; omega
 clear h hx hn hW hcell hkl
 go_enter Tryd.func20, Tryd.ntmps20
 obtain ⟨W, hWW⟩ : ∃ W, w.alloc (.cells (tpC x).toArray 106) = W := ⟨_, rfl⟩
 have HBW : Hid (Below w.heap.size w W) := by rw [← hWW]; exact (Below.refl _ w).alloc (Nat.le_refl _) _
 have HKW : Hid (Blk W w.heap.size (.cells (tpC x).toArray 106)) := by rw [← hWW]; exact Blk.new _ _
 have HLW : Hid (Lo W B bl l m) := HLO.out.below HBW.out
 have hlbW := HLW.out.box.lt
 have hglW : g < W.heap.size := by have := HBW.out.size; omega
 have w14 := HLW.out.box.cell 14 (v := .slice m.W l.wire.length m.cw) rfl
 rw [HW.out] at w14
 have HWR : Hid (W.ownsRow B 106 8 (.slice (some ⟨g, 0, none⟩) l.wire.length m.cw) l.wire.length (tps l.wire)) := by have h1 := HLW.out.wire; rw [HW.out] at h1; exact h1
 unfold tpC at hWW
 go_wp2_with fail
 refine (delete_any B g m.cw k (k + 1) l.wire W HWR.out HKL.out rfl HWL.out).mono ?_
 rintro r w1 ⟨rfl, ho1, hf1⟩
 have HO1 := Lib.hid ho1
 have HF1 := Lib.hid hf1
 have hne : bl ≠ g := fun e => by
  have h1 := HLW.out.wire
  rw [HW.out] at h1
  exact own_ne h1 HLW.out.box (by decide) (by rw [e]; rfl)
 have b1 := HLW.out.box.frame hf1 hne
 have e14 := b1.cell 14 (v := .slice m.W l.wire.length m.cw) rfl
 have e15 := b1.free 14
 have e16 := b1.lt
 obtain ⟨V, hV⟩ : ∃ V, w1.setCell ⟨bl, 14, none⟩ (.slice (some ⟨g, 0, none⟩) (l.wire.length - 1) m.cw) = V := ⟨_, rfl⟩
 obtain ⟨L0, HL0E⟩ : ∃ L0, Hid (({ l with wire := l.wire.eraseIdx k } : Lp) = L0) := ⟨_, rfl⟩
 obtain ⟨M0, HM0⟩ : ∃ M0, Hid (({ m with W := some ⟨g, 0, none⟩, cw := m.cw } : Lm) = M0) := ⟨_, rfl⟩
 have HSW : Hid (Lo V B bl L0 M0 ∧ Ls bl l m W L0 M0 V) := by
  have h1 : (l.wire.eraseIdx k).length = l.wire.length - 1 := len_erase HKL.out
  have h2 := HLW.out.setWire (w6 := w1) (W' := some ⟨g, 0, none⟩) (c' := m.cw) (wire' := l.wire.eraseIdx k) (HF1.out.mono fun b _ e => by rw [HW.out, e]; rfl) (by rw [h1]; exact HO1.out) (fun g' hg' => .inl (by rw [HW.out]; exact hg'))
  rw [h1, hV, HL0E.out, HM0.out] at h2
  exact h2
 have HL0 : Hid (Lo V B bl L0 M0) := HSW.out.1
 have HS0 : Hid (Ls bl l m w L0 M0 V) := (Ls.of_below HBW.out).trans HSW.out.2
 have HK4 : Hid (Blk V w.heap.size (.cells (tpC x).toArray 106)) := HKW.out.frame HSW.out.2.fr (fun hb => by have := (HLO.out.lb hb).2; omega)
 have HNW : Hid (¬ LB bl L0 M0 w.heap.size) := fun hb => by
  have h8 := HKW.out.lt
  rcases HSW.out.2.new _ hb with h9 | h9
  ·have := (HLO.out.lb h9).2
   omega
  ·omega
 have HSZ : Hid (w.heap.size < V.heap.size) := HK4.out.lt
 go_upto_region 2 with fail
 clear w14 hlbW hglW d0 d1 d2 d3 d4 d5 d6 d7 c14 hix hkw e14 e15 e16 hf1 ho1 hne b1
 clear hV
 obtain ⟨E, HE⟩ : ∃ E, Hid (l.end_ x.to = E) := ⟨_, rfl⟩
 rw [HE.out] at HMI HCE
 rw [HL0E.out] at HMI HCE
 have HTO : Hid (x.to = 0 ∨ x.to = 1) := HMI.out.toO
 have HE0 : Hid (L0.end_ x.to = E) := by show _ = _; rw [← HL0E.out]; exact HE.out
 have HEN : Hid (EnT V E (M0.A x.to) (M0.c x.to) (M0.D x.to)) := by have h1 := HL0.out.end_ HTO.out; rw [HE0.out] at h1; exact h1
 have HLL : Hid ((takeA E x.p).2.1.lost.length ≤ 4) := (take_packets HMI.out.good HMI.out.proper).2.2
 have HGD : Hid (GoodP (takeA E x.p).1) := good_iff.1 (take_good HMI.out.good HMI.out.proper)
 have HTS : Hid (x.p.t.size ≤ 20) := proper_size HMI.out.proper
 have hixE : ∀ w', (Instr.indexAt 70 (.pointer (some ⟨bl, 0, none⟩)) (.int .i64 x.to)).run Tryd.prog w' = .ok (.pointer (some ⟨bl, 7 * x.to.toNat, none⟩)) w' := fun w' => ix107 HTO.out w'
 have hix8 : ∀ w', (Instr.indexAt 71 (.pointer (some ⟨bl, 16, none⟩)) (.int .i64 x.to)).run Tryd.prog w' = .ok (.pointer (some ⟨bl, 16 + x.to.toNat, none⟩)) w' := fun w' => ix108 HTO.out w'
 obtain ⟨o, ho⟩ : ∃ o, Hid (7 * x.to.toNat = o) := ⟨_, rfl⟩
 obtain ⟨p, hp⟩ : ∃ p, Hid (16 + x.to.toNat = p) := ⟨_, rfl⟩
 rw [ho.out] at hixE
 rw [hp.out] at hix8
 go_cut [5, 6] from 27 (fun v5 v6 wx => ∃ b5 b6 A c D d P cp T ct L cl, v5 = .pointer (some ⟨b5, 0, none⟩) ∧ v6 = .pointer (some ⟨b6, 0, none⟩) ∧ Tk V wx bl L0 M0 E x.p b5 b6 A c D d P cp T ct L cl)
 case first =>
  refine draw (fun w' => Below V.heap.size V w') 19 rfl (by kernel_rfl) (fun Qd hQd => ?_)
  apply anyI_step 0 rfl (by kernel_rfl)
  focus (intro wI hI Kv hKv; have q9 := (HL0.out.below hI).endc HTO.out; rw [HE0.out, ho.out] at q9; obtain ⟨c0, c1, c2, c3, c4, c5, c6⟩ := q9; have t9 := HK4.out.below hI HSZ.out; have k0 := t9.cell 0 (v := .int .i64 x.to) rfl; have k1 := t9.cell 1 (v := .int .i64 x.p.kind) rfl; have k2 := t9.cell 2 (v := .int .i64 x.p.frm) rfl; have k3 := t9.cell 3 (v := .int .i64 x.p.to) rfl; have k4 := t9.cell 4 (v := .int .i64 x.p.num) rfl; have k5 := t9.cell 5 (v := .string x.p.t) rfl; have k6 := t9.cell 6 (v := .int .i64 x.p.ack) rfl; have k7 := t9.cell 7 (v := .int .i64 x.p.held) rfl; clear t9; go_simp; exact hKv)
  intro Kd hKd
  go_simp
  refine hKd _ ?_
  clear hKd Kd
  apply anyI_step 1 rfl (by kernel_rfl)
  focus (intro wI hI Kv hKv; have q9 := (HL0.out.below hI).endc HTO.out; rw [HE0.out, ho.out] at q9; obtain ⟨c0, c1, c2, c3, c4, c5, c6⟩ := q9; have t9 := HK4.out.below hI HSZ.out; have k0 := t9.cell 0 (v := .int .i64 x.to) rfl; have k1 := t9.cell 1 (v := .int .i64 x.p.kind) rfl; have k2 := t9.cell 2 (v := .int .i64 x.p.frm) rfl; have k3 := t9.cell 3 (v := .int .i64 x.p.to) rfl; have k4 := t9.cell 4 (v := .int .i64 x.p.num) rfl; have k5 := t9.cell 5 (v := .string x.p.t) rfl; have k6 := t9.cell 6 (v := .int .i64 x.p.ack) rfl; have k7 := t9.cell 7 (v := .int .i64 x.p.held) rfl; clear t9; go_simp; exact hKv)
  intro Kd hKd
  go_simp
  refine hKd _ ?_
  clear hKd Kd
  apply anyI_step 7 rfl (by kernel_rfl)
  focus (intro wI hI Kv hKv; have q9 := (HL0.out.below hI).endc HTO.out; rw [HE0.out, ho.out] at q9; obtain ⟨c0, c1, c2, c3, c4, c5, c6⟩ := q9; have t9 := HK4.out.below hI HSZ.out; have k0 := t9.cell 0 (v := .int .i64 x.to) rfl; have k1 := t9.cell 1 (v := .int .i64 x.p.kind) rfl; have k2 := t9.cell 2 (v := .int .i64 x.p.frm) rfl; have k3 := t9.cell 3 (v := .int .i64 x.p.to) rfl; have k4 := t9.cell 4 (v := .int .i64 x.p.num) rfl; have k5 := t9.cell 5 (v := .string x.p.t) rfl; have k6 := t9.cell 6 (v := .int .i64 x.p.ack) rfl; have k7 := t9.cell 7 (v := .int .i64 x.p.held) rfl; clear t9; go_simp; exact hKv)
  intro Kd hKd
  go_simp
  refine hKd _ ?_
  clear hKd Kd
  apply anyI_step 2 rfl (by kernel_rfl)
  focus (intro wI hI Kv hKv; have q9 := (HL0.out.below hI).endc HTO.out; rw [HE0.out, ho.out] at q9; obtain ⟨c0, c1, c2, c3, c4, c5, c6⟩ := q9; have t9 := HK4.out.below hI HSZ.out; have k0 := t9.cell 0 (v := .int .i64 x.to) rfl; have k1 := t9.cell 1 (v := .int .i64 x.p.kind) rfl; have k2 := t9.cell 2 (v := .int .i64 x.p.frm) rfl; have k3 := t9.cell 3 (v := .int .i64 x.p.to) rfl; have k4 := t9.cell 4 (v := .int .i64 x.p.num) rfl; have k5 := t9.cell 5 (v := .string x.p.t) rfl; have k6 := t9.cell 6 (v := .int .i64 x.p.ack) rfl; have k7 := t9.cell 7 (v := .int .i64 x.p.held) rfl; clear t9; go_simp; exact hKv)
  intro Kd hKd
  go_simp
  refine hKd _ ?_
  clear hKd Kd
  apply anyI_step 3 rfl (by kernel_rfl)
  focus (intro wI hI Kv hKv; have q9 := (HL0.out.below hI).endc HTO.out; rw [HE0.out, ho.out] at q9; obtain ⟨c0, c1, c2, c3, c4, c5, c6⟩ := q9; have t9 := HK4.out.below hI HSZ.out; have k0 := t9.cell 0 (v := .int .i64 x.to) rfl; have k1 := t9.cell 1 (v := .int .i64 x.p.kind) rfl; have k2 := t9.cell 2 (v := .int .i64 x.p.frm) rfl; have k3 := t9.cell 3 (v := .int .i64 x.p.to) rfl; have k4 := t9.cell 4 (v := .int .i64 x.p.num) rfl; have k5 := t9.cell 5 (v := .string x.p.t) rfl; have k6 := t9.cell 6 (v := .int .i64 x.p.ack) rfl; have k7 := t9.cell 7 (v := .int .i64 x.p.held) rfl; clear t9; go_simp; exact hKv)
  intro Kd hKd
  go_simp
  refine hKd _ ?_
  clear hKd Kd
  apply anyI_step 8 rfl (by kernel_rfl)
  focus (intro wI hI Kv hKv; have q9 := (HL0.out.below hI).endc HTO.out; rw [HE0.out, ho.out] at q9; obtain ⟨c0, c1, c2, c3, c4, c5, c6⟩ := q9; have t9 := HK4.out.below hI HSZ.out; have k0 := t9.cell 0 (v := .int .i64 x.to) rfl; have k1 := t9.cell 1 (v := .int .i64 x.p.kind) rfl; have k2 := t9.cell 2 (v := .int .i64 x.p.frm) rfl; have k3 := t9.cell 3 (v := .int .i64 x.p.to) rfl; have k4 := t9.cell 4 (v := .int .i64 x.p.num) rfl; have k5 := t9.cell 5 (v := .string x.p.t) rfl; have k6 := t9.cell 6 (v := .int .i64 x.p.ack) rfl; have k7 := t9.cell 7 (v := .int .i64 x.p.held) rfl; clear t9; go_simp; exact hKv)
  intro Kd hKd
  go_simp
  refine hKd _ ?_
  clear hKd Kd
  apply anyI_step 4 rfl (by kernel_rfl)
  focus (intro wI hI Kv hKv; have q9 := (HL0.out.below hI).endc HTO.out; rw [HE0.out, ho.out] at q9; obtain ⟨c0, c1, c2, c3, c4, c5, c6⟩ := q9; have t9 := HK4.out.below hI HSZ.out; have k0 := t9.cell 0 (v := .int .i64 x.to) rfl; have k1 := t9.cell 1 (v := .int .i64 x.p.kind) rfl; have k2 := t9.cell 2 (v := .int .i64 x.p.frm) rfl; have k3 := t9.cell 3 (v := .int .i64 x.p.to) rfl; have k4 := t9.cell 4 (v := .int .i64 x.p.num) rfl; have k5 := t9.cell 5 (v := .string x.p.t) rfl; have k6 := t9.cell 6 (v := .int .i64 x.p.ack) rfl; have k7 := t9.cell 7 (v := .int .i64 x.p.held) rfl; clear t9; go_simp; exact hKv)
  intro Kd hKd
  go_simp
  refine hKd _ ?_
  clear hKd Kd
  apply anyI_step 5 rfl (by kernel_rfl)
  focus (intro wI hI Kv hKv; have q9 := (HL0.out.below hI).endc HTO.out; rw [HE0.out, ho.out] at q9; obtain ⟨c0, c1, c2, c3, c4, c5, c6⟩ := q9; have t9 := HK4.out.below hI HSZ.out; have k0 := t9.cell 0 (v := .int .i64 x.to) rfl; have k1 := t9.cell 1 (v := .int .i64 x.p.kind) rfl; have k2 := t9.cell 2 (v := .int .i64 x.p.frm) rfl; have k3 := t9.cell 3 (v := .int .i64 x.p.to) rfl; have k4 := t9.cell 4 (v := .int .i64 x.p.num) rfl; have k5 := t9.cell 5 (v := .string x.p.t) rfl; have k6 := t9.cell 6 (v := .int .i64 x.p.ack) rfl; have k7 := t9.cell 7 (v := .int .i64 x.p.held) rfl; clear t9; go_simp; exact hKv)
  intro Kd hKd
  go_simp
  refine hKd _ ?_
  clear hKd Kd
  apply anyI_step 6 rfl (by kernel_rfl)
  focus (intro wI hI Kv hKv; have q9 := (HL0.out.below hI).endc HTO.out; rw [HE0.out, ho.out] at q9; obtain ⟨c0, c1, c2, c3, c4, c5, c6⟩ := q9; have t9 := HK4.out.below hI HSZ.out; have k0 := t9.cell 0 (v := .int .i64 x.to) rfl; have k1 := t9.cell 1 (v := .int .i64 x.p.kind) rfl; have k2 := t9.cell 2 (v := .int .i64 x.p.frm) rfl; have k3 := t9.cell 3 (v := .int .i64 x.p.to) rfl; have k4 := t9.cell 4 (v := .int .i64 x.p.num) rfl; have k5 := t9.cell 5 (v := .string x.p.t) rfl; have k6 := t9.cell 6 (v := .int .i64 x.p.ack) rfl; have k7 := t9.cell 7 (v := .int .i64 x.p.held) rfl; clear t9; go_simp; exact hKv)
  intro Kd hKd
  go_simp
  refine hKd _ ?_
  clear hKd Kd
  refine anyI_three' 9 14 15 rfl rfl rfl (by kernel_rfl) (Below.refl _ V).drew (fun Kd hKd => ?_) (fun Kd hKd => ?_) (fun Kd hKd => ?_)
  ·skip
   obtain ⟨U0, hU0⟩ : ∃ U0, V.drew = U0 := ⟨_, rfl⟩
   have HB0 : Hid (Below V.heap.size V U0) := by rw [← hU0]; exact (Below.refl _ V).drew
   have hs0 := HB0.out.size
   rw [hU0]
   go_wp2_with (go_at_call 11; go_must (refine (take_any E (M0.A x.to) (M0.c x.to) (M0.D x.to) (M0.d x.to) x.p U0 (HEN.out.at_.below HB0.out) HEN.out.nl (by have := HTS.out; omega)).mono ?_); rintro r wt ⟨A, c, D, d, P, cp, T, ct, L, cl, rfl, hE, hG, hA0, hAc, hRo, hIm, hTn, hPn, hLn, hT0, hL0, hBt⟩)
   have HTK : Hid (EnAt wt (takeA E x.p).1 A D ∧ GnAt wt (takeA E x.p).2.1 P T L ∧ (A = none → c = 0) ∧ (takeA E x.p).1.out.length ≤ c ∧ RowAt wt U0.heap.size A (takeA E x.p).1.out ∧ ImAt wt D (takeA E x.p).1.inn ∧ (∀ a, T = some a → U0.heap.size ≤ a.block) ∧ (∀ a, P = some a → U0.heap.size ≤ a.block) ∧ (∀ a, L = some a → U0.heap.size ≤ a.block) ∧ (T = none → ct = 0) ∧ (L = none → cl = 0)) := ⟨hE, hG, hA0, hAc, hRo, hIm, hTn, hPn, hLn, hT0, hL0⟩
   have HBU : Hid (Below U0.heap.size U0 wt) := hBt
   have HBT : Hid (Below V.heap.size V wt) := below_in HB0.out hBt
   have hst := HBU.out.size
   clear hE hG hA0 hAc hRo hIm hTn hPn hLn hT0 hL0 hBt
   unfold enV gnV
   apply anyI_step 10 rfl (by kernel_rfl)
   focus (intro wI hI Kv hKv; go_simp; exact hKv)
   intro Kd hKd
   go_simp
   refine hKd _ ?_
   clear hKd Kd
   apply anyI_step 11 rfl (by kernel_rfl)
   focus (intro wI hI Kv hKv; go_simp; exact hKv)
   intro Kd hKd
   go_simp
   refine hKd _ ?_
   clear hKd Kd
   apply anyI_step 12 rfl (by kernel_rfl)
   focus (intro wI hI Kv hKv; go_simp; exact hKv)
   intro Kd hKd
   go_simp
   refine hKd _ ?_
   clear hKd Kd
   apply anyI_step 13 rfl (by kernel_rfl)
   focus (intro wI hI Kv hKv; go_simp; exact hKv)
   intro Kd hKd
   go_simp
   refine hKd _ ?_
   clear hKd Kd
   refine anyI_two' 14 15 rfl rfl (by kernel_rfl) (HBT.out) (fun Kd hKd => ?_) (fun Kd hKd => ?_)
   ·go_wp2
    refine anyI_one' 15 rfl (by kernel_rfl) ((HBT.out.alloc (by omega) _)) (fun Kd hKd => ?_)
    go_wp2
    obtain ⟨U, hU⟩ : ∃ U, (wt.alloc (.cells #[.int .i64 0, .int .i64 0, .int .i64 0, .int .i64 0, .slice none 0 0, .int .i64 0, .slice none 0 0] 38)).alloc (.cells #[.slice none 0 0, .slice none 0 0, .slice none 0 0] 44) = U := ⟨_, rfl⟩
    have HUT : Hid (Below wt.heap.size wt U) := by rw [← hU]; exact ((Below.refl _ wt).alloc (Nat.le_refl _) _).alloc (by simp) _
    have H5 : Hid (Blk U (wt.heap.size) (.cells (enB noEn none 0 none 0) 38)) := by rw [← hU]; exact (Blk.new _ _).alloc _
    have H6 : Hid (Blk U (wt.heap.size + 1) (.cells #[.slice none 0 0, .slice none 0 0, .slice none 0 0] 44)) := by rw [← hU]; exact (by have e1 := Blk.new (wt.alloc (.cells #[.int .i64 0, .int .i64 0, .int .i64 0, .int .i64 0, .slice none 0 0, .int .i64 0, .slice none 0 0] 38)) (.cells #[.slice none 0 0, .slice none 0 0, .slice none 0 0] 44); rw [World.size_alloc] at e1; exact e1)
    have HG : Hid (V.heap.size ≤ (wt.heap.size) ∧ V.heap.size ≤ (wt.heap.size + 1) ∧ ((wt.heap.size) < U0.heap.size ∨ wt.heap.size ≤ (wt.heap.size)) ∧ ((wt.heap.size + 1) < U0.heap.size ∨ wt.heap.size ≤ (wt.heap.size + 1))) := ⟨by omega, by omega, by omega, by omega⟩
    have HVU : Hid (Below V.heap.size V U) := HBT.out.trans (HUT.out.mono (by omega))
    rw [hU]
    clear hU
    have z0 := H5.out.cell 0 (v := .int .i64 0) rfl
    have z1 := H5.out.cell 1 (v := .int .i64 0) rfl
    have z2 := H5.out.cell 2 (v := .int .i64 0) rfl
    have z3 := H5.out.cell 3 (v := .int .i64 0) rfl
    have z4 := H5.out.cell 4 (v := .slice none 0 0) rfl
    have z5 := H5.out.cell 5 (v := .int .i64 0) rfl
    have z6 := H5.out.cell 6 (v := .slice none 0 0) rfl
    have y0 := H5.out.free 0
    have y1 := H5.out.free 1
    have y2 := H5.out.free 2
    have y3 := H5.out.free 3
    have y4 := H5.out.free 4
    have y5 := H5.out.free 5
    have y6 := H5.out.free 6
    have yl := H5.out.lt
    have g0 := H6.out.cell 0 (v := .slice none 0 0) rfl
    have g1 := H6.out.cell 1 (v := .slice none 0 0) rfl
    have g2 := H6.out.cell 2 (v := .slice none 0 0) rfl
    have f0 := H6.out.free 0
    have f1 := H6.out.free 1
    have f2 := H6.out.free 2
    have gl := H6.out.lt
    have nz1 : ¬ (wt.heap.size) = (wt.heap.size + 1) := blk_ne H5.out H6.out (by decide)
    have nz2 : ¬ (wt.heap.size + 1) = (wt.heap.size) := fun e => nz1 e.symm
    refine anyI_one' 16 rfl (by kernel_rfl) (HVU.out) (fun Kd hKd => ?_)
    go_wp2
    have HB5 : Hid (Below V.heap.size V (setEn U (wt.heap.size) (takeA E x.p).1 A c D d)) := setEn_below HVU.out HG.out.1
    refine anyI_one' 17 rfl (by kernel_rfl) ((by have q := HB5.out; exact q)) (fun Kd hKd => ?_)
    go_wp2
    apply anyI_step 18 rfl (by kernel_rfl)
    focus (intro wI hI Kv hKv; go_simp; exact hKv)
    intro Kd hKd
    go_simp
    refine hKd _ ?_
    clear hKd Kd
    have HK9 : Hid (Tk V (setGn (setEn U (wt.heap.size) (takeA E x.p).1 A c D d) (wt.heap.size + 1) (takeA E x.p).2.1 P cp T ct L cl) bl L0 M0 E x.p (wt.heap.size) (wt.heap.size + 1) A c D d P cp T ct L cl) := by
     obtain ⟨hE, hG, hA0, hAc, hRo, hIm, hTn, hPn, hLn, hT0, hL0⟩ := HTK.out
     exact tk_make HL0.out hs0 HVU.out HUT.out H5.out H6.out HG.out.1 HG.out.2.1 HG.out.2.2.1 HG.out.2.2.2 hE hG hA0 hAc hRo hIm hTn hPn hLn hT0 hL0
    refine anyI_end (by kernel_rfl) ((by have q := HK9.out.below; exact q)) (hQd _ _ ?_)
    clear hQd Qd
    go_wp2_with fail
    go_meet
    exact ⟨(wt.heap.size), (wt.heap.size + 1), A, c, D, d, P, cp, T, ct, L, cl, rfl, rfl, HK9.out⟩
   ·go_wp2
    refine anyI_one' 14 rfl (by kernel_rfl) ((HBT.out.alloc (by omega) _)) (fun Kd hKd => ?_)
    go_wp2
    obtain ⟨U, hU⟩ : ∃ U, (wt.alloc (.cells #[.slice none 0 0, .slice none 0 0, .slice none 0 0] 44)).alloc (.cells #[.int .i64 0, .int .i64 0, .int .i64 0, .int .i64 0, .slice none 0 0, .int .i64 0, .slice none 0 0] 38) = U := ⟨_, rfl⟩
    have HUT : Hid (Below wt.heap.size wt U) := by rw [← hU]; exact ((Below.refl _ wt).alloc (Nat.le_refl _) _).alloc (by simp) _
    have H5 : Hid (Blk U (wt.heap.size + 1) (.cells (enB noEn none 0 none 0) 38)) := by rw [← hU]; exact (by have e1 := Blk.new (wt.alloc (.cells #[.slice none 0 0, .slice none 0 0, .slice none 0 0] 44)) (.cells #[.int .i64 0, .int .i64 0, .int .i64 0, .int .i64 0, .slice none 0 0, .int .i64 0, .slice none 0 0] 38); rw [World.size_alloc] at e1; exact e1)
    have H6 : Hid (Blk U (wt.heap.size) (.cells #[.slice none 0 0, .slice none 0 0, .slice none 0 0] 44)) := by rw [← hU]; exact (Blk.new _ _).alloc _
    have HG : Hid (V.heap.size ≤ (wt.heap.size + 1) ∧ V.heap.size ≤ (wt.heap.size) ∧ ((wt.heap.size + 1) < U0.heap.size ∨ wt.heap.size ≤ (wt.heap.size + 1)) ∧ ((wt.heap.size) < U0.heap.size ∨ wt.heap.size ≤ (wt.heap.size))) := ⟨by omega, by omega, by omega, by omega⟩
    have HVU : Hid (Below V.heap.size V U) := HBT.out.trans (HUT.out.mono (by omega))
    rw [hU]
    clear hU
    have z0 := H5.out.cell 0 (v := .int .i64 0) rfl
    have z1 := H5.out.cell 1 (v := .int .i64 0) rfl
    have z2 := H5.out.cell 2 (v := .int .i64 0) rfl
    have z3 := H5.out.cell 3 (v := .int .i64 0) rfl
    have z4 := H5.out.cell 4 (v := .slice none 0 0) rfl
    have z5 := H5.out.cell 5 (v := .int .i64 0) rfl
    have z6 := H5.out.cell 6 (v := .slice none 0 0) rfl
    have y0 := H5.out.free 0
    have y1 := H5.out.free 1
    have y2 := H5.out.free 2
    have y3 := H5.out.free 3
    have y4 := H5.out.free 4
    have y5 := H5.out.free 5
    have y6 := H5.out.free 6
    have yl := H5.out.lt
    have g0 := H6.out.cell 0 (v := .slice none 0 0) rfl
    have g1 := H6.out.cell 1 (v := .slice none 0 0) rfl
    have g2 := H6.out.cell 2 (v := .slice none 0 0) rfl
    have f0 := H6.out.free 0
    have f1 := H6.out.free 1
    have f2 := H6.out.free 2
    have gl := H6.out.lt
    have nz1 : ¬ (wt.heap.size + 1) = (wt.heap.size) := blk_ne H5.out H6.out (by decide)
    have nz2 : ¬ (wt.heap.size) = (wt.heap.size + 1) := fun e => nz1 e.symm
    refine anyI_one' 16 rfl (by kernel_rfl) (HVU.out) (fun Kd hKd => ?_)
    go_wp2
    have HB5 : Hid (Below V.heap.size V (setEn U (wt.heap.size + 1) (takeA E x.p).1 A c D d)) := setEn_below HVU.out HG.out.1
    refine anyI_one' 17 rfl (by kernel_rfl) ((by have q := HB5.out; exact q)) (fun Kd hKd => ?_)
    go_wp2
    apply anyI_step 18 rfl (by kernel_rfl)
    focus (intro wI hI Kv hKv; go_simp; exact hKv)
    intro Kd hKd
    go_simp
    refine hKd _ ?_
    clear hKd Kd
    have HK9 : Hid (Tk V (setGn (setEn U (wt.heap.size + 1) (takeA E x.p).1 A c D d) (wt.heap.size) (takeA E x.p).2.1 P cp T ct L cl) bl L0 M0 E x.p (wt.heap.size + 1) (wt.heap.size) A c D d P cp T ct L cl) := by
     obtain ⟨hE, hG, hA0, hAc, hRo, hIm, hTn, hPn, hLn, hT0, hL0⟩ := HTK.out
     exact tk_make HL0.out hs0 HVU.out HUT.out H5.out H6.out HG.out.1 HG.out.2.1 HG.out.2.2.1 HG.out.2.2.2 hE hG hA0 hAc hRo hIm hTn hPn hLn hT0 hL0
    refine anyI_end (by kernel_rfl) ((by have q := HK9.out.below; exact q)) (hQd _ _ ?_)
    clear hQd Qd
    go_wp2_with fail
    go_meet
    exact ⟨(wt.heap.size + 1), (wt.heap.size), A, c, D, d, P, cp, T, ct, L, cl, rfl, rfl, HK9.out⟩
  ·go_wp2
   refine anyI_two' 9 15 rfl rfl (by kernel_rfl) ((((Below.refl _ V).alloc (Nat.le_refl _) _).drew)) (fun Kd hKd => ?_) (fun Kd hKd => ?_)
   ·skip
    obtain ⟨U0, hU0⟩ : ∃ U0, (V.alloc (.cells #[.int .i64 0, .int .i64 0, .int .i64 0, .int .i64 0, .slice none 0 0, .int .i64 0, .slice none 0 0] 38)).drew = U0 := ⟨_, rfl⟩
    have HB0 : Hid (Below V.heap.size V U0) := by rw [← hU0]; exact ((Below.refl _ V).alloc (Nat.le_refl _) _).drew
    have hs0 := HB0.out.size
    rw [hU0]
    have HZ5 : Hid (Blk U0 V.heap.size (.cells #[.int .i64 0, .int .i64 0, .int .i64 0, .int .i64 0, .slice none 0 0, .int .i64 0, .slice none 0 0] 38)) := by rw [← hU0]; exact (Blk.new _ _).drew
    have hz5 := HZ5.out.lt
    go_wp2_with (go_at_call 11; go_must (refine (take_any E (M0.A x.to) (M0.c x.to) (M0.D x.to) (M0.d x.to) x.p U0 (HEN.out.at_.below HB0.out) HEN.out.nl (by have := HTS.out; omega)).mono ?_); rintro r wt ⟨A, c, D, d, P, cp, T, ct, L, cl, rfl, hE, hG, hA0, hAc, hRo, hIm, hTn, hPn, hLn, hT0, hL0, hBt⟩)
    have HTK : Hid (EnAt wt (takeA E x.p).1 A D ∧ GnAt wt (takeA E x.p).2.1 P T L ∧ (A = none → c = 0) ∧ (takeA E x.p).1.out.length ≤ c ∧ RowAt wt U0.heap.size A (takeA E x.p).1.out ∧ ImAt wt D (takeA E x.p).1.inn ∧ (∀ a, T = some a → U0.heap.size ≤ a.block) ∧ (∀ a, P = some a → U0.heap.size ≤ a.block) ∧ (∀ a, L = some a → U0.heap.size ≤ a.block) ∧ (T = none → ct = 0) ∧ (L = none → cl = 0)) := ⟨hE, hG, hA0, hAc, hRo, hIm, hTn, hPn, hLn, hT0, hL0⟩
    have HBU : Hid (Below U0.heap.size U0 wt) := hBt
    have HBT : Hid (Below V.heap.size V wt) := below_in HB0.out hBt
    have hst := HBU.out.size
    clear hE hG hA0 hAc hRo hIm hTn hPn hLn hT0 hL0 hBt
    unfold enV gnV
    apply anyI_step 10 rfl (by kernel_rfl)
    focus (intro wI hI Kv hKv; go_simp; exact hKv)
    intro Kd hKd
    go_simp
    refine hKd _ ?_
    clear hKd Kd
    apply anyI_step 11 rfl (by kernel_rfl)
    focus (intro wI hI Kv hKv; go_simp; exact hKv)
    intro Kd hKd
    go_simp
    refine hKd _ ?_
    clear hKd Kd
    apply anyI_step 12 rfl (by kernel_rfl)
    focus (intro wI hI Kv hKv; go_simp; exact hKv)
    intro Kd hKd
    go_simp
    refine hKd _ ?_
    clear hKd Kd
    apply anyI_step 13 rfl (by kernel_rfl)
    focus (intro wI hI Kv hKv; go_simp; exact hKv)
    intro Kd hKd
    go_simp
    refine hKd _ ?_
    clear hKd Kd
    refine anyI_one' 15 rfl (by kernel_rfl) (HBT.out) (fun Kd hKd => ?_)
    go_wp2
    obtain ⟨U, hU⟩ : ∃ U, wt.alloc (.cells #[.slice none 0 0, .slice none 0 0, .slice none 0 0] 44) = U := ⟨_, rfl⟩
    have HUT : Hid (Below wt.heap.size wt U) := by rw [← hU]; exact (Below.refl _ wt).alloc (Nat.le_refl _) _
    have H5 : Hid (Blk U (V.heap.size) (.cells (enB noEn none 0 none 0) 38)) := by rw [← hU]; exact (HZ5.out.below HBU.out hz5).alloc _
    have H6 : Hid (Blk U (wt.heap.size) (.cells #[.slice none 0 0, .slice none 0 0, .slice none 0 0] 44)) := by rw [← hU]; exact Blk.new _ _
    have HG : Hid (V.heap.size ≤ (V.heap.size) ∧ V.heap.size ≤ (wt.heap.size) ∧ ((V.heap.size) < U0.heap.size ∨ wt.heap.size ≤ (V.heap.size)) ∧ ((wt.heap.size) < U0.heap.size ∨ wt.heap.size ≤ (wt.heap.size))) := ⟨by omega, by omega, by omega, by omega⟩
    have HVU : Hid (Below V.heap.size V U) := HBT.out.trans (HUT.out.mono (by omega))
    rw [hU]
    clear hU
    have z0 := H5.out.cell 0 (v := .int .i64 0) rfl
    have z1 := H5.out.cell 1 (v := .int .i64 0) rfl
    have z2 := H5.out.cell 2 (v := .int .i64 0) rfl
    have z3 := H5.out.cell 3 (v := .int .i64 0) rfl
    have z4 := H5.out.cell 4 (v := .slice none 0 0) rfl
    have z5 := H5.out.cell 5 (v := .int .i64 0) rfl
    have z6 := H5.out.cell 6 (v := .slice none 0 0) rfl
    have y0 := H5.out.free 0
    have y1 := H5.out.free 1
    have y2 := H5.out.free 2
    have y3 := H5.out.free 3
    have y4 := H5.out.free 4
    have y5 := H5.out.free 5
    have y6 := H5.out.free 6
    have yl := H5.out.lt
    have g0 := H6.out.cell 0 (v := .slice none 0 0) rfl
    have g1 := H6.out.cell 1 (v := .slice none 0 0) rfl
    have g2 := H6.out.cell 2 (v := .slice none 0 0) rfl
    have f0 := H6.out.free 0
    have f1 := H6.out.free 1
    have f2 := H6.out.free 2
    have gl := H6.out.lt
    have nz1 : ¬ (V.heap.size) = (wt.heap.size) := blk_ne H5.out H6.out (by decide)
    have nz2 : ¬ (wt.heap.size) = (V.heap.size) := fun e => nz1 e.symm
    refine anyI_one' 16 rfl (by kernel_rfl) (HVU.out) (fun Kd hKd => ?_)
    go_wp2
    have HB5 : Hid (Below V.heap.size V (setEn U (V.heap.size) (takeA E x.p).1 A c D d)) := setEn_below HVU.out HG.out.1
    refine anyI_one' 17 rfl (by kernel_rfl) ((by have q := HB5.out; exact q)) (fun Kd hKd => ?_)
    go_wp2
    apply anyI_step 18 rfl (by kernel_rfl)
    focus (intro wI hI Kv hKv; go_simp; exact hKv)
    intro Kd hKd
    go_simp
    refine hKd _ ?_
    clear hKd Kd
    have HK9 : Hid (Tk V (setGn (setEn U (V.heap.size) (takeA E x.p).1 A c D d) (wt.heap.size) (takeA E x.p).2.1 P cp T ct L cl) bl L0 M0 E x.p (V.heap.size) (wt.heap.size) A c D d P cp T ct L cl) := by
     obtain ⟨hE, hG, hA0, hAc, hRo, hIm, hTn, hPn, hLn, hT0, hL0⟩ := HTK.out
     exact tk_make HL0.out hs0 HVU.out HUT.out H5.out H6.out HG.out.1 HG.out.2.1 HG.out.2.2.1 HG.out.2.2.2 hE hG hA0 hAc hRo hIm hTn hPn hLn hT0 hL0
    refine anyI_end (by kernel_rfl) ((by have q := HK9.out.below; exact q)) (hQd _ _ ?_)
    clear hQd Qd
    go_wp2_with fail
    go_meet
    exact ⟨(V.heap.size), (wt.heap.size), A, c, D, d, P, cp, T, ct, L, cl, rfl, rfl, HK9.out⟩
   ·go_wp2
    refine anyI_one' 9 rfl (by kernel_rfl) (((((Below.refl _ V).alloc (Nat.le_refl _) _).alloc (by simp) _).drew)) (fun Kd hKd => ?_)
    obtain ⟨U0, hU0⟩ : ∃ U0, ((V.alloc (.cells #[.int .i64 0, .int .i64 0, .int .i64 0, .int .i64 0, .slice none 0 0, .int .i64 0, .slice none 0 0] 38)).alloc (.cells #[.slice none 0 0, .slice none 0 0, .slice none 0 0] 44)).drew = U0 := ⟨_, rfl⟩
    have HB0 : Hid (Below V.heap.size V U0) := by rw [← hU0]; exact (((Below.refl _ V).alloc (Nat.le_refl _) _).alloc (by simp) _).drew
    have hs0 := HB0.out.size
    rw [hU0]
    have HZ5 : Hid (Blk U0 V.heap.size (.cells #[.int .i64 0, .int .i64 0, .int .i64 0, .int .i64 0, .slice none 0 0, .int .i64 0, .slice none 0 0] 38)) := by rw [← hU0]; exact ((Blk.new _ _).alloc _).drew
    have HZ6 : Hid (Blk U0 (V.heap.size + 1) (.cells #[.slice none 0 0, .slice none 0 0, .slice none 0 0] 44)) := by rw [← hU0]; have e1 := Blk.new (V.alloc (.cells #[.int .i64 0, .int .i64 0, .int .i64 0, .int .i64 0, .slice none 0 0, .int .i64 0, .slice none 0 0] 38)) (.cells #[.slice none 0 0, .slice none 0 0, .slice none 0 0] 44); rw [World.size_alloc] at e1; exact e1.drew
    have hz5 := HZ5.out.lt
    have hz6 := HZ6.out.lt
    go_wp2_with (go_at_call 11; go_must (refine (take_any E (M0.A x.to) (M0.c x.to) (M0.D x.to) (M0.d x.to) x.p U0 (HEN.out.at_.below HB0.out) HEN.out.nl (by have := HTS.out; omega)).mono ?_); rintro r wt ⟨A, c, D, d, P, cp, T, ct, L, cl, rfl, hE, hG, hA0, hAc, hRo, hIm, hTn, hPn, hLn, hT0, hL0, hBt⟩)
    have HTK : Hid (EnAt wt (takeA E x.p).1 A D ∧ GnAt wt (takeA E x.p).2.1 P T L ∧ (A = none → c = 0) ∧ (takeA E x.p).1.out.length ≤ c ∧ RowAt wt U0.heap.size A (takeA E x.p).1.out ∧ ImAt wt D (takeA E x.p).1.inn ∧ (∀ a, T = some a → U0.heap.size ≤ a.block) ∧ (∀ a, P = some a → U0.heap.size ≤ a.block) ∧ (∀ a, L = some a → U0.heap.size ≤ a.block) ∧ (T = none → ct = 0) ∧ (L = none → cl = 0)) := ⟨hE, hG, hA0, hAc, hRo, hIm, hTn, hPn, hLn, hT0, hL0⟩
    have HBU : Hid (Below U0.heap.size U0 wt) := hBt
    have HBT : Hid (Below V.heap.size V wt) := below_in HB0.out hBt
    have hst := HBU.out.size
    clear hE hG hA0 hAc hRo hIm hTn hPn hLn hT0 hL0 hBt
    unfold enV gnV
    apply anyI_step 10 rfl (by kernel_rfl)
    focus (intro wI hI Kv hKv; go_simp; exact hKv)
    intro Kd hKd
    go_simp
    refine hKd _ ?_
    clear hKd Kd
    apply anyI_step 11 rfl (by kernel_rfl)
    focus (intro wI hI Kv hKv; go_simp; exact hKv)
    intro Kd hKd
    go_simp
    refine hKd _ ?_
    clear hKd Kd
    apply anyI_step 12 rfl (by kernel_rfl)
    focus (intro wI hI Kv hKv; go_simp; exact hKv)
    intro Kd hKd
    go_simp
    refine hKd _ ?_
    clear hKd Kd
    apply anyI_step 13 rfl (by kernel_rfl)
    focus (intro wI hI Kv hKv; go_simp; exact hKv)
    intro Kd hKd
    go_simp
    refine hKd _ ?_
    clear hKd Kd
    obtain ⟨U, hU⟩ : ∃ U, wt = U := ⟨_, rfl⟩
    have HUT : Hid (Below wt.heap.size wt U) := by rw [← hU]; exact Below.refl _ wt
    have H5 : Hid (Blk U (V.heap.size) (.cells (enB noEn none 0 none 0) 38)) := by rw [← hU]; exact HZ5.out.below HBU.out hz5
    have H6 : Hid (Blk U (V.heap.size + 1) (.cells #[.slice none 0 0, .slice none 0 0, .slice none 0 0] 44)) := by rw [← hU]; exact HZ6.out.below HBU.out hz6
    have HG : Hid (V.heap.size ≤ (V.heap.size) ∧ V.heap.size ≤ (V.heap.size + 1) ∧ ((V.heap.size) < U0.heap.size ∨ wt.heap.size ≤ (V.heap.size)) ∧ ((V.heap.size + 1) < U0.heap.size ∨ wt.heap.size ≤ (V.heap.size + 1))) := ⟨by omega, by omega, by omega, by omega⟩
    have HVU : Hid (Below V.heap.size V U) := HBT.out.trans (HUT.out.mono (by omega))
    rw [hU]
    clear hU
    have z0 := H5.out.cell 0 (v := .int .i64 0) rfl
    have z1 := H5.out.cell 1 (v := .int .i64 0) rfl
    have z2 := H5.out.cell 2 (v := .int .i64 0) rfl
    have z3 := H5.out.cell 3 (v := .int .i64 0) rfl
    have z4 := H5.out.cell 4 (v := .slice none 0 0) rfl
    have z5 := H5.out.cell 5 (v := .int .i64 0) rfl
    have z6 := H5.out.cell 6 (v := .slice none 0 0) rfl
    have y0 := H5.out.free 0
    have y1 := H5.out.free 1
    have y2 := H5.out.free 2
    have y3 := H5.out.free 3
    have y4 := H5.out.free 4
    have y5 := H5.out.free 5
    have y6 := H5.out.free 6
    have yl := H5.out.lt
    have g0 := H6.out.cell 0 (v := .slice none 0 0) rfl
    have g1 := H6.out.cell 1 (v := .slice none 0 0) rfl
    have g2 := H6.out.cell 2 (v := .slice none 0 0) rfl
    have f0 := H6.out.free 0
    have f1 := H6.out.free 1
    have f2 := H6.out.free 2
    have gl := H6.out.lt
    have nz1 : ¬ (V.heap.size) = (V.heap.size + 1) := blk_ne H5.out H6.out (by decide)
    have nz2 : ¬ (V.heap.size + 1) = (V.heap.size) := fun e => nz1 e.symm
    refine anyI_one' 16 rfl (by kernel_rfl) (HVU.out) (fun Kd hKd => ?_)
    go_wp2
    have HB5 : Hid (Below V.heap.size V (setEn U (V.heap.size) (takeA E x.p).1 A c D d)) := setEn_below HVU.out HG.out.1
    refine anyI_one' 17 rfl (by kernel_rfl) ((by have q := HB5.out; exact q)) (fun Kd hKd => ?_)
    go_wp2
    apply anyI_step 18 rfl (by kernel_rfl)
    focus (intro wI hI Kv hKv; go_simp; exact hKv)
    intro Kd hKd
    go_simp
    refine hKd _ ?_
    clear hKd Kd
    have HK9 : Hid (Tk V (setGn (setEn U (V.heap.size) (takeA E x.p).1 A c D d) (V.heap.size + 1) (takeA E x.p).2.1 P cp T ct L cl) bl L0 M0 E x.p (V.heap.size) (V.heap.size + 1) A c D d P cp T ct L cl) := by
     obtain ⟨hE, hG, hA0, hAc, hRo, hIm, hTn, hPn, hLn, hT0, hL0⟩ := HTK.out
     exact tk_make HL0.out hs0 HVU.out HUT.out H5.out H6.out HG.out.1 HG.out.2.1 HG.out.2.2.1 HG.out.2.2.2 hE hG hA0 hAc hRo hIm hTn hPn hLn hT0 hL0
    refine anyI_end (by kernel_rfl) ((by have q := HK9.out.below; exact q)) (hQd _ _ ?_)
    clear hQd Qd
    go_wp2_with fail
    go_meet
    exact ⟨(V.heap.size), (V.heap.size + 1), A, c, D, d, P, cp, T, ct, L, cl, rfl, rfl, HK9.out⟩
  ·go_wp2
   refine anyI_two' 9 14 rfl rfl (by kernel_rfl) ((((Below.refl _ V).alloc (Nat.le_refl _) _).drew)) (fun Kd hKd => ?_) (fun Kd hKd => ?_)
   ·skip
    obtain ⟨U0, hU0⟩ : ∃ U0, (V.alloc (.cells #[.slice none 0 0, .slice none 0 0, .slice none 0 0] 44)).drew = U0 := ⟨_, rfl⟩
    have HB0 : Hid (Below V.heap.size V U0) := by rw [← hU0]; exact ((Below.refl _ V).alloc (Nat.le_refl _) _).drew
    have hs0 := HB0.out.size
    rw [hU0]
    have HZ6 : Hid (Blk U0 V.heap.size (.cells #[.slice none 0 0, .slice none 0 0, .slice none 0 0] 44)) := by rw [← hU0]; exact (Blk.new _ _).drew
    have hz6 := HZ6.out.lt
    go_wp2_with (go_at_call 11; go_must (refine (take_any E (M0.A x.to) (M0.c x.to) (M0.D x.to) (M0.d x.to) x.p U0 (HEN.out.at_.below HB0.out) HEN.out.nl (by have := HTS.out; omega)).mono ?_); rintro r wt ⟨A, c, D, d, P, cp, T, ct, L, cl, rfl, hE, hG, hA0, hAc, hRo, hIm, hTn, hPn, hLn, hT0, hL0, hBt⟩)
    have HTK : Hid (EnAt wt (takeA E x.p).1 A D ∧ GnAt wt (takeA E x.p).2.1 P T L ∧ (A = none → c = 0) ∧ (takeA E x.p).1.out.length ≤ c ∧ RowAt wt U0.heap.size A (takeA E x.p).1.out ∧ ImAt wt D (takeA E x.p).1.inn ∧ (∀ a, T = some a → U0.heap.size ≤ a.block) ∧ (∀ a, P = some a → U0.heap.size ≤ a.block) ∧ (∀ a, L = some a → U0.heap.size ≤ a.block) ∧ (T = none → ct = 0) ∧ (L = none → cl = 0)) := ⟨hE, hG, hA0, hAc, hRo, hIm, hTn, hPn, hLn, hT0, hL0⟩
    have HBU : Hid (Below U0.heap.size U0 wt) := hBt
    have HBT : Hid (Below V.heap.size V wt) := below_in HB0.out hBt
    have hst := HBU.out.size
    clear hE hG hA0 hAc hRo hIm hTn hPn hLn hT0 hL0 hBt
    unfold enV gnV
    apply anyI_step 10 rfl (by kernel_rfl)
    focus (intro wI hI Kv hKv; go_simp; exact hKv)
    intro Kd hKd
    go_simp
    refine hKd _ ?_
    clear hKd Kd
    apply anyI_step 11 rfl (by kernel_rfl)
    focus (intro wI hI Kv hKv; go_simp; exact hKv)
    intro Kd hKd
    go_simp
    refine hKd _ ?_
    clear hKd Kd
    apply anyI_step 12 rfl (by kernel_rfl)
    focus (intro wI hI Kv hKv; go_simp; exact hKv)
    intro Kd hKd
    go_simp
    refine hKd _ ?_
    clear hKd Kd
    apply anyI_step 13 rfl (by kernel_rfl)
    focus (intro wI hI Kv hKv; go_simp; exact hKv)
    intro Kd hKd
    go_simp
    refine hKd _ ?_
    clear hKd Kd
    refine anyI_one' 14 rfl (by kernel_rfl) (HBT.out) (fun Kd hKd => ?_)
    go_wp2
    obtain ⟨U, hU⟩ : ∃ U, wt.alloc (.cells #[.int .i64 0, .int .i64 0, .int .i64 0, .int .i64 0, .slice none 0 0, .int .i64 0, .slice none 0 0] 38) = U := ⟨_, rfl⟩
    have HUT : Hid (Below wt.heap.size wt U) := by rw [← hU]; exact (Below.refl _ wt).alloc (Nat.le_refl _) _
    have H5 : Hid (Blk U (wt.heap.size) (.cells (enB noEn none 0 none 0) 38)) := by rw [← hU]; exact Blk.new _ _
    have H6 : Hid (Blk U (V.heap.size) (.cells #[.slice none 0 0, .slice none 0 0, .slice none 0 0] 44)) := by rw [← hU]; exact (HZ6.out.below HBU.out hz6).alloc _
    have HG : Hid (V.heap.size ≤ (wt.heap.size) ∧ V.heap.size ≤ (V.heap.size) ∧ ((wt.heap.size) < U0.heap.size ∨ wt.heap.size ≤ (wt.heap.size)) ∧ ((V.heap.size) < U0.heap.size ∨ wt.heap.size ≤ (V.heap.size))) := ⟨by omega, by omega, by omega, by omega⟩
    have HVU : Hid (Below V.heap.size V U) := HBT.out.trans (HUT.out.mono (by omega))
    rw [hU]
    clear hU
    have z0 := H5.out.cell 0 (v := .int .i64 0) rfl
    have z1 := H5.out.cell 1 (v := .int .i64 0) rfl
    have z2 := H5.out.cell 2 (v := .int .i64 0) rfl
    have z3 := H5.out.cell 3 (v := .int .i64 0) rfl
    have z4 := H5.out.cell 4 (v := .slice none 0 0) rfl
    have z5 := H5.out.cell 5 (v := .int .i64 0) rfl
    have z6 := H5.out.cell 6 (v := .slice none 0 0) rfl
    have y0 := H5.out.free 0
    have y1 := H5.out.free 1
    have y2 := H5.out.free 2
    have y3 := H5.out.free 3
    have y4 := H5.out.free 4
    have y5 := H5.out.free 5
    have y6 := H5.out.free 6
    have yl := H5.out.lt
    have g0 := H6.out.cell 0 (v := .slice none 0 0) rfl
    have g1 := H6.out.cell 1 (v := .slice none 0 0) rfl
    have g2 := H6.out.cell 2 (v := .slice none 0 0) rfl
    have f0 := H6.out.free 0
    have f1 := H6.out.free 1
    have f2 := H6.out.free 2
    have gl := H6.out.lt
    have nz1 : ¬ (wt.heap.size) = (V.heap.size) := blk_ne H5.out H6.out (by decide)
    have nz2 : ¬ (V.heap.size) = (wt.heap.size) := fun e => nz1 e.symm
    refine anyI_one' 16 rfl (by kernel_rfl) (HVU.out) (fun Kd hKd => ?_)
    go_wp2
    have HB5 : Hid (Below V.heap.size V (setEn U (wt.heap.size) (takeA E x.p).1 A c D d)) := setEn_below HVU.out HG.out.1
    refine anyI_one' 17 rfl (by kernel_rfl) ((by have q := HB5.out; exact q)) (fun Kd hKd => ?_)
    go_wp2
    apply anyI_step 18 rfl (by kernel_rfl)
    focus (intro wI hI Kv hKv; go_simp; exact hKv)
    intro Kd hKd
    go_simp
    refine hKd _ ?_
    clear hKd Kd
    have HK9 : Hid (Tk V (setGn (setEn U (wt.heap.size) (takeA E x.p).1 A c D d) (V.heap.size) (takeA E x.p).2.1 P cp T ct L cl) bl L0 M0 E x.p (wt.heap.size) (V.heap.size) A c D d P cp T ct L cl) := by
     obtain ⟨hE, hG, hA0, hAc, hRo, hIm, hTn, hPn, hLn, hT0, hL0⟩ := HTK.out
     exact tk_make HL0.out hs0 HVU.out HUT.out H5.out H6.out HG.out.1 HG.out.2.1 HG.out.2.2.1 HG.out.2.2.2 hE hG hA0 hAc hRo hIm hTn hPn hLn hT0 hL0
    refine anyI_end (by kernel_rfl) ((by have q := HK9.out.below; exact q)) (hQd _ _ ?_)
    clear hQd Qd
    go_wp2_with fail
    go_meet
    exact ⟨(wt.heap.size), (V.heap.size), A, c, D, d, P, cp, T, ct, L, cl, rfl, rfl, HK9.out⟩
   ·go_wp2
    refine anyI_one' 9 rfl (by kernel_rfl) (((((Below.refl _ V).alloc (Nat.le_refl _) _).alloc (by simp) _).drew)) (fun Kd hKd => ?_)
    obtain ⟨U0, hU0⟩ : ∃ U0, ((V.alloc (.cells #[.slice none 0 0, .slice none 0 0, .slice none 0 0] 44)).alloc (.cells #[.int .i64 0, .int .i64 0, .int .i64 0, .int .i64 0, .slice none 0 0, .int .i64 0, .slice none 0 0] 38)).drew = U0 := ⟨_, rfl⟩
    have HB0 : Hid (Below V.heap.size V U0) := by rw [← hU0]; exact (((Below.refl _ V).alloc (Nat.le_refl _) _).alloc (by simp) _).drew
    have hs0 := HB0.out.size
    rw [hU0]
    have HZ6 : Hid (Blk U0 V.heap.size (.cells #[.slice none 0 0, .slice none 0 0, .slice none 0 0] 44)) := by rw [← hU0]; exact ((Blk.new _ _).alloc _).drew
    have HZ5 : Hid (Blk U0 (V.heap.size + 1) (.cells #[.int .i64 0, .int .i64 0, .int .i64 0, .int .i64 0, .slice none 0 0, .int .i64 0, .slice none 0 0] 38)) := by rw [← hU0]; have e1 := Blk.new (V.alloc (.cells #[.slice none 0 0, .slice none 0 0, .slice none 0 0] 44)) (.cells #[.int .i64 0, .int .i64 0, .int .i64 0, .int .i64 0, .slice none 0 0, .int .i64 0, .slice none 0 0] 38); rw [World.size_alloc] at e1; exact e1.drew
    have hz5 := HZ5.out.lt
    have hz6 := HZ6.out.lt
    go_wp2_with (go_at_call 11; go_must (refine (take_any E (M0.A x.to) (M0.c x.to) (M0.D x.to) (M0.d x.to) x.p U0 (HEN.out.at_.below HB0.out) HEN.out.nl (by have := HTS.out; omega)).mono ?_); rintro r wt ⟨A, c, D, d, P, cp, T, ct, L, cl, rfl, hE, hG, hA0, hAc, hRo, hIm, hTn, hPn, hLn, hT0, hL0, hBt⟩)
    have HTK : Hid (EnAt wt (takeA E x.p).1 A D ∧ GnAt wt (takeA E x.p).2.1 P T L ∧ (A = none → c = 0) ∧ (takeA E x.p).1.out.length ≤ c ∧ RowAt wt U0.heap.size A (takeA E x.p).1.out ∧ ImAt wt D (takeA E x.p).1.inn ∧ (∀ a, T = some a → U0.heap.size ≤ a.block) ∧ (∀ a, P = some a → U0.heap.size ≤ a.block) ∧ (∀ a, L = some a → U0.heap.size ≤ a.block) ∧ (T = none → ct = 0) ∧ (L = none → cl = 0)) := ⟨hE, hG, hA0, hAc, hRo, hIm, hTn, hPn, hLn, hT0, hL0⟩
    have HBU : Hid (Below U0.heap.size U0 wt) := hBt
    have HBT : Hid (Below V.heap.size V wt) := below_in HB0.out hBt
    have hst := HBU.out.size
    clear hE hG hA0 hAc hRo hIm hTn hPn hLn hT0 hL0 hBt
    unfold enV gnV
    apply anyI_step 10 rfl (by kernel_rfl)
    focus (intro wI hI Kv hKv; go_simp; exact hKv)
    intro Kd hKd
    go_simp
    refine hKd _ ?_
    clear hKd Kd
    apply anyI_step 11 rfl (by kernel_rfl)
    focus (intro wI hI Kv hKv; go_simp; exact hKv)
    intro Kd hKd
    go_simp
    refine hKd _ ?_
    clear hKd Kd
    apply anyI_step 12 rfl (by kernel_rfl)
    focus (intro wI hI Kv hKv; go_simp; exact hKv)
    intro Kd hKd
    go_simp
    refine hKd _ ?_
    clear hKd Kd
    apply anyI_step 13 rfl (by kernel_rfl)
    focus (intro wI hI Kv hKv; go_simp; exact hKv)
    intro Kd hKd
    go_simp
    refine hKd _ ?_
    clear hKd Kd
    obtain ⟨U, hU⟩ : ∃ U, wt = U := ⟨_, rfl⟩
    have HUT : Hid (Below wt.heap.size wt U) := by rw [← hU]; exact Below.refl _ wt
    have H5 : Hid (Blk U (V.heap.size + 1) (.cells (enB noEn none 0 none 0) 38)) := by rw [← hU]; exact HZ5.out.below HBU.out hz5
    have H6 : Hid (Blk U (V.heap.size) (.cells #[.slice none 0 0, .slice none 0 0, .slice none 0 0] 44)) := by rw [← hU]; exact HZ6.out.below HBU.out hz6
    have HG : Hid (V.heap.size ≤ (V.heap.size + 1) ∧ V.heap.size ≤ (V.heap.size) ∧ ((V.heap.size + 1) < U0.heap.size ∨ wt.heap.size ≤ (V.heap.size + 1)) ∧ ((V.heap.size) < U0.heap.size ∨ wt.heap.size ≤ (V.heap.size))) := ⟨by omega, by omega, by omega, by omega⟩
    have HVU : Hid (Below V.heap.size V U) := HBT.out.trans (HUT.out.mono (by omega))
    rw [hU]
    clear hU
    have z0 := H5.out.cell 0 (v := .int .i64 0) rfl
    have z1 := H5.out.cell 1 (v := .int .i64 0) rfl
    have z2 := H5.out.cell 2 (v := .int .i64 0) rfl
    have z3 := H5.out.cell 3 (v := .int .i64 0) rfl
    have z4 := H5.out.cell 4 (v := .slice none 0 0) rfl
    have z5 := H5.out.cell 5 (v := .int .i64 0) rfl
    have z6 := H5.out.cell 6 (v := .slice none 0 0) rfl
    have y0 := H5.out.free 0
    have y1 := H5.out.free 1
    have y2 := H5.out.free 2
    have y3 := H5.out.free 3
    have y4 := H5.out.free 4
    have y5 := H5.out.free 5
    have y6 := H5.out.free 6
    have yl := H5.out.lt
    have g0 := H6.out.cell 0 (v := .slice none 0 0) rfl
    have g1 := H6.out.cell 1 (v := .slice none 0 0) rfl
    have g2 := H6.out.cell 2 (v := .slice none 0 0) rfl
    have f0 := H6.out.free 0
    have f1 := H6.out.free 1
    have f2 := H6.out.free 2
    have gl := H6.out.lt
    have nz1 : ¬ (V.heap.size + 1) = (V.heap.size) := blk_ne H5.out H6.out (by decide)
    have nz2 : ¬ (V.heap.size) = (V.heap.size + 1) := fun e => nz1 e.symm
    refine anyI_one' 16 rfl (by kernel_rfl) (HVU.out) (fun Kd hKd => ?_)
    go_wp2
    have HB5 : Hid (Below V.heap.size V (setEn U (V.heap.size + 1) (takeA E x.p).1 A c D d)) := setEn_below HVU.out HG.out.1
    refine anyI_one' 17 rfl (by kernel_rfl) ((by have q := HB5.out; exact q)) (fun Kd hKd => ?_)
    go_wp2
    apply anyI_step 18 rfl (by kernel_rfl)
    focus (intro wI hI Kv hKv; go_simp; exact hKv)
    intro Kd hKd
    go_simp
    refine hKd _ ?_
    clear hKd Kd
    have HK9 : Hid (Tk V (setGn (setEn U (V.heap.size + 1) (takeA E x.p).1 A c D d) (V.heap.size) (takeA E x.p).2.1 P cp T ct L cl) bl L0 M0 E x.p (V.heap.size + 1) (V.heap.size) A c D d P cp T ct L cl) := by
     obtain ⟨hE, hG, hA0, hAc, hRo, hIm, hTn, hPn, hLn, hT0, hL0⟩ := HTK.out
     exact tk_make HL0.out hs0 HVU.out HUT.out H5.out H6.out HG.out.1 HG.out.2.1 HG.out.2.2.1 HG.out.2.2.2 hE hG hA0 hAc hRo hIm hTn hPn hLn hT0 hL0
    refine anyI_end (by kernel_rfl) ((by have q := HK9.out.below; exact q)) (hQd _ _ ?_)
    clear hQd Qd
    go_wp2_with fail
    go_meet
    exact ⟨(V.heap.size + 1), (V.heap.size), A, c, D, d, P, cp, T, ct, L, cl, rfl, rfl, HK9.out⟩
 case rest =>
  obtain ⟨V2, rfl⟩ : ∃ V2, V2 = wc := ⟨wc, rfl⟩
  obtain ⟨b5, b6, A, c, D, d, P, cp, T, ct, L, cl, rfl, rfl, htk⟩ := hcut
  have HTK := Lib.hid htk
  have hlo2 := HL0.out.below htk.below
  have HLO2 := Lib.hid hlo2
  have HLS2 : Hid (Ls bl l m w L0 M0 V2) := HS0.out.trans (Ls.of_below htk.below)
  have HK42 : Hid (Blk V2 w.heap.size (.cells (tpC x).toArray 106)) := HK4.out.below htk.below HSZ.out
  obtain ⟨nn, HNN⟩ : ∃ nn, Hid (L0.now x.to = nn) := ⟨_, rfl⟩
  have v3 := hlo2.nowc HTO.out
  rw [hp.out, HNN.out] at v3
  have v5 := hlo2.box.lt
  have v4 := HK42.out.cell 0 (v := .int .i64 x.to) rfl
  have v6 := HK42.out.lt
  obtain ⟨L2, HL2⟩ : ∃ L2, Hid (lostA L0 x.to (takeA E x.p).2.1 = L2) := ⟨_, rfl⟩
  rw [HL2.out] at HMI HCE
  have HBL0 : Hid (∀ t ∈ L0.tales, t.lost.length ≤ n) := fun t ht => by rw [← HL0E.out] at ht; exact (HBN.out t ht).2.1
  clear htk hlo2
  go_upto_region 3 with fail
  refine sall (by kernel_rfl) (by kernel_rfl) (fun Kq hKq => ?_)
  repeat still_step
  refine wpStill_nil (hKq _ ?_)
  clear hKq Kq
  go_upto_if 49 with fail
  have HLD : Hid (Lo V2.drew B bl L0 M0) := HLO2.out.drew
  have HSD : Hid (Ls bl L0 M0 V2 L0 M0 V2.drew) := Ls.of_below (Below.refl _ _).drew
  have HKD : Hid (Blk V2.drew b6 (.cells (gnB (takeA E x.p).2.1 P cp T ct L cl) 44)) := HTK.out.k6.drew
  have HOD : Hid (Off V2.drew bl L0 M0 L (strs (takeA E x.p).2.1.lost)) := HTK.out.ls.step HSD.out
  clear v3 v4 v5 v6
  go_cut [] from 27 (fun wx => ∃ M2, Lo wx B bl L2 M2 ∧ Ls bl L0 M0 V2 L2 M2 wx)
  case first =>
   generalize V2.drew = w1 at HLD HSD HKD HOD ⊢
   by_cases h0 : 0 ≤ nn
   ·have q0 : decide (0 ≤ nn) = true := decide_eq_true h0
    obtain ⟨k', t, hk, ht⟩ := HN0.out.get (i := x.to) (by rw [HL0E.out, HNN.out]; exact h0)
    rw [HL0E.out] at hk ht
    rw [HNN.out] at hk
    subst hk
    obtain ⟨z, gb, hz, hzv, hTg, hkz, hgl2, ⟨cur, hgb⟩, s3, s4, s5, sf⟩ := HLD.out.tale ht
    have c15 := HLD.out.box.cell 15 (v := .slice M0.T M0.zs.length M0.ct) rfl
    rw [hTg] at c15
    have hix7 : ∀ w', (Instr.indexAt 26 (.slice (some ⟨gb, 0, none⟩) M0.zs.length M0.ct) (.int .i64 (k' : Int))).run Tryd.prog w' = .ok (.pointer (some ⟨gb, k' * 6, none⟩)) w' := fun w' => ix57 hkz w'
    obtain ⟨q6, Hq6⟩ : ∃ q6, Hid (k' * 6 = q6) := ⟨_, rfl⟩
    rw [Hq6.out] at hix7 s3 s4 s5
    have HZ := Lib.hid hz
    have HZV := Lib.hid hzv
    have HTG := Lib.hid hTg
    have HGB := Lib.hid hgb
    have HTA := Lib.hid ht
    have HZX : Hid ((txs M0.zs)[k' * 3 + 1]? = some (.slice z.L z.v.lost.length z.cl, z.v.lost)) := by
     show _ = _
     unfold txs
     rw [flatg_get tx_len M0.zs k' 1 (by decide), hz]
     rfl
    have HXO : Hid (w1.drew.ownsRow B 9 1 (.slice z.L z.v.lost.length z.cl) z.v.lost.length (strs z.v.lost)) := HLD.out.txt.own (.slice z.L z.v.lost.length z.cl, z.v.lost) (List.mem_of_getElem? HZX.out)
    have hnb : ∀ b cs ty, Blk w1 b (.cells cs ty) → ty ≠ 9 → ¬ (Value.slice z.L z.v.lost.length z.cl).ownBlock = some b := fun b cs ty hb ht e2 => own_ne HXO.out hb (fun e3 => ht e3.symm) e2
    have HNB := Lib.hid hnb
    have ng : ¬ (Value.slice z.L z.v.lost.length z.cl).ownBlock = some gb := HNB.out _ _ _ HGB.out (by decide)
    have HZN : Hid (z.v.lost.length ≤ 90000000) := by show _ ≤ _; have h1 := HBL0.out t (List.mem_of_getElem? ht); rw [hzv]; omega
    have hzn := HZN.out
    have hlo := HLD.out.lo
    have hlbd := HLD.out.box.lt
    have HCT : Hid (Cells w1.drew L (strs (takeA E x.p).2.1.lost)) := HOD.out.at_.below (Below.refl _ _).drew (Nat.le_refl _)
    have hll := HLL.out
    clear hnb hz hzv hTg hkz hgb ht h0 s3 s5 sf
    go_upto_region 5 with fail
    refine drawl (fun w' => Frame (fun b => (Value.slice z.L z.v.lost.length z.cl).ownBlock = some b) w1 w') 18 18 rfl (by kernel_rfl) (fun Qd hQd => ?_)
    apply anyL_step 0 (by kernel_rfl) rfl (by kernel_rfl)
    focus (intro wI hI Kv hKv; have u0 := (HLD.out.box.frame hI (HNB.out _ _ _ HLD.out.box (by decide))).cell 15 (v := .slice M0.T M0.zs.length M0.ct) rfl; rw [HTG.out] at u0; have u1 := (HKD.out.frame hI (HNB.out _ _ _ HKD.out (by decide))).cell 2 (v := .slice L (takeA E x.p).2.1.lost.length cl) rfl; have u3 := cell_frame hI hgl2 ng s4; go_simp; exact hKv)
    intro Kd hKd
    go_simp
    refine hKd _ ?_
    clear hKd Kd
    apply anyL_step 4 (by kernel_rfl) rfl (by kernel_rfl)
    focus (intro wI hI Kv hKv; have u0 := (HLD.out.box.frame hI (HNB.out _ _ _ HLD.out.box (by decide))).cell 15 (v := .slice M0.T M0.zs.length M0.ct) rfl; rw [HTG.out] at u0; have u1 := (HKD.out.frame hI (HNB.out _ _ _ HKD.out (by decide))).cell 2 (v := .slice L (takeA E x.p).2.1.lost.length cl) rfl; have u3 := cell_frame hI hgl2 ng s4; go_simp; exact hKv)
    intro Kd hKd
    go_simp
    refine hKd _ ?_
    clear hKd Kd
    apply anyL_step 5 (by kernel_rfl) rfl (by kernel_rfl)
    focus (intro wI hI Kv hKv; have u0 := (HLD.out.box.frame hI (HNB.out _ _ _ HLD.out.box (by decide))).cell 15 (v := .slice M0.T M0.zs.length M0.ct) rfl; rw [HTG.out] at u0; have u1 := (HKD.out.frame hI (HNB.out _ _ _ HKD.out (by decide))).cell 2 (v := .slice L (takeA E x.p).2.1.lost.length cl) rfl; have u3 := cell_frame hI hgl2 ng s4; go_simp; exact hKv)
    intro Kd hKd
    go_simp
    refine hKd _ ?_
    clear hKd Kd
    apply anyL_step 9 (by kernel_rfl) rfl (by kernel_rfl)
    focus (intro wI hI Kv hKv; have u0 := (HLD.out.box.frame hI (HNB.out _ _ _ HLD.out.box (by decide))).cell 15 (v := .slice M0.T M0.zs.length M0.ct) rfl; rw [HTG.out] at u0; have u1 := (HKD.out.frame hI (HNB.out _ _ _ HKD.out (by decide))).cell 2 (v := .slice L (takeA E x.p).2.1.lost.length cl) rfl; have u3 := cell_frame hI hgl2 ng s4; go_simp; exact hKv)
    intro Kd hKd
    go_simp
    refine hKd _ ?_
    clear hKd Kd
    apply anyL_step 13 (by kernel_rfl) rfl (by kernel_rfl)
    focus (intro wI hI Kv hKv; have u0 := (HLD.out.box.frame hI (HNB.out _ _ _ HLD.out.box (by decide))).cell 15 (v := .slice M0.T M0.zs.length M0.ct) rfl; rw [HTG.out] at u0; have u1 := (HKD.out.frame hI (HNB.out _ _ _ HKD.out (by decide))).cell 2 (v := .slice L (takeA E x.p).2.1.lost.length cl) rfl; have u3 := cell_frame hI hgl2 ng s4; go_simp; exact hKv)
    intro Kd hKd
    go_simp
    refine hKd _ ?_
    clear hKd Kd
    apply anyL_step 1 (by kernel_rfl) rfl (by kernel_rfl)
    focus (intro wI hI Kv hKv; have u0 := (HLD.out.box.frame hI (HNB.out _ _ _ HLD.out.box (by decide))).cell 15 (v := .slice M0.T M0.zs.length M0.ct) rfl; rw [HTG.out] at u0; have u1 := (HKD.out.frame hI (HNB.out _ _ _ HKD.out (by decide))).cell 2 (v := .slice L (takeA E x.p).2.1.lost.length cl) rfl; have u3 := cell_frame hI hgl2 ng s4; go_simp; exact hKv)
    intro Kd hKd
    go_simp
    refine hKd _ ?_
    clear hKd Kd
    apply anyL_step 6 (by kernel_rfl) rfl (by kernel_rfl)
    focus (intro wI hI Kv hKv; have u0 := (HLD.out.box.frame hI (HNB.out _ _ _ HLD.out.box (by decide))).cell 15 (v := .slice M0.T M0.zs.length M0.ct) rfl; rw [HTG.out] at u0; have u1 := (HKD.out.frame hI (HNB.out _ _ _ HKD.out (by decide))).cell 2 (v := .slice L (takeA E x.p).2.1.lost.length cl) rfl; have u3 := cell_frame hI hgl2 ng s4; go_simp; exact hKv)
    intro Kd hKd
    go_simp
    refine hKd _ ?_
    clear hKd Kd
    apply anyL_step 14 (by kernel_rfl) rfl (by kernel_rfl)
    focus (intro wI hI Kv hKv; have u0 := (HLD.out.box.frame hI (HNB.out _ _ _ HLD.out.box (by decide))).cell 15 (v := .slice M0.T M0.zs.length M0.ct) rfl; rw [HTG.out] at u0; have u1 := (HKD.out.frame hI (HNB.out _ _ _ HKD.out (by decide))).cell 2 (v := .slice L (takeA E x.p).2.1.lost.length cl) rfl; have u3 := cell_frame hI hgl2 ng s4; go_simp; exact hKv)
    intro Kd hKd
    go_simp
    refine hKd _ ?_
    clear hKd Kd
    apply anyL_step 2 (by kernel_rfl) rfl (by kernel_rfl)
    focus (intro wI hI Kv hKv; have u0 := (HLD.out.box.frame hI (HNB.out _ _ _ HLD.out.box (by decide))).cell 15 (v := .slice M0.T M0.zs.length M0.ct) rfl; rw [HTG.out] at u0; have u1 := (HKD.out.frame hI (HNB.out _ _ _ HKD.out (by decide))).cell 2 (v := .slice L (takeA E x.p).2.1.lost.length cl) rfl; have u3 := cell_frame hI hgl2 ng s4; go_simp; exact hKv)
    intro Kd hKd
    go_simp
    refine hKd _ ?_
    clear hKd Kd
    apply anyL_step 7 (by kernel_rfl) rfl (by kernel_rfl)
    focus (intro wI hI Kv hKv; have u0 := (HLD.out.box.frame hI (HNB.out _ _ _ HLD.out.box (by decide))).cell 15 (v := .slice M0.T M0.zs.length M0.ct) rfl; rw [HTG.out] at u0; have u1 := (HKD.out.frame hI (HNB.out _ _ _ HKD.out (by decide))).cell 2 (v := .slice L (takeA E x.p).2.1.lost.length cl) rfl; have u3 := cell_frame hI hgl2 ng s4; go_simp; exact hKv)
    intro Kd hKd
    go_simp
    refine hKd _ ?_
    clear hKd Kd
    apply anyL_step 3 (by kernel_rfl) rfl (by kernel_rfl)
    focus (intro wI hI Kv hKv; have u0 := (HLD.out.box.frame hI (HNB.out _ _ _ HLD.out.box (by decide))).cell 15 (v := .slice M0.T M0.zs.length M0.ct) rfl; rw [HTG.out] at u0; have u1 := (HKD.out.frame hI (HNB.out _ _ _ HKD.out (by decide))).cell 2 (v := .slice L (takeA E x.p).2.1.lost.length cl) rfl; have u3 := cell_frame hI hgl2 ng s4; go_simp; exact hKv)
    intro Kd hKd
    go_simp
    refine hKd _ ?_
    clear hKd Kd
    apply anyL_step 8 (by kernel_rfl) rfl (by kernel_rfl)
    focus (intro wI hI Kv hKv; have u0 := (HLD.out.box.frame hI (HNB.out _ _ _ HLD.out.box (by decide))).cell 15 (v := .slice M0.T M0.zs.length M0.ct) rfl; rw [HTG.out] at u0; have u1 := (HKD.out.frame hI (HNB.out _ _ _ HKD.out (by decide))).cell 2 (v := .slice L (takeA E x.p).2.1.lost.length cl) rfl; have u3 := cell_frame hI hgl2 ng s4; go_simp; exact hKv)
    intro Kd hKd
    go_simp
    refine hKd _ ?_
    clear hKd Kd
    apply anyL_step 10 (by kernel_rfl) rfl (by kernel_rfl)
    focus (intro wI hI Kv hKv; have u0 := (HLD.out.box.frame hI (HNB.out _ _ _ HLD.out.box (by decide))).cell 15 (v := .slice M0.T M0.zs.length M0.ct) rfl; rw [HTG.out] at u0; have u1 := (HKD.out.frame hI (HNB.out _ _ _ HKD.out (by decide))).cell 2 (v := .slice L (takeA E x.p).2.1.lost.length cl) rfl; have u3 := cell_frame hI hgl2 ng s4; go_simp; exact hKv)
    intro Kd hKd
    go_simp
    refine hKd _ ?_
    clear hKd Kd
    apply anyL_step 11 (by kernel_rfl) rfl (by kernel_rfl)
    focus (intro wI hI Kv hKv; have u0 := (HLD.out.box.frame hI (HNB.out _ _ _ HLD.out.box (by decide))).cell 15 (v := .slice M0.T M0.zs.length M0.ct) rfl; rw [HTG.out] at u0; have u1 := (HKD.out.frame hI (HNB.out _ _ _ HKD.out (by decide))).cell 2 (v := .slice L (takeA E x.p).2.1.lost.length cl) rfl; have u3 := cell_frame hI hgl2 ng s4; go_simp; exact hKv)
    intro Kd hKd
    go_simp
    refine hKd _ ?_
    clear hKd Kd
    apply anyL_step 12 (by kernel_rfl) rfl (by kernel_rfl)
    focus (intro wI hI Kv hKv; have u0 := (HLD.out.box.frame hI (HNB.out _ _ _ HLD.out.box (by decide))).cell 15 (v := .slice M0.T M0.zs.length M0.ct) rfl; rw [HTG.out] at u0; have u1 := (HKD.out.frame hI (HNB.out _ _ _ HKD.out (by decide))).cell 2 (v := .slice L (takeA E x.p).2.1.lost.length cl) rfl; have u3 := cell_frame hI hgl2 ng s4; go_simp; exact hKv)
    intro Kd hKd
    go_simp
    refine hKd _ ?_
    clear hKd Kd
    refine anyL_one 15 rfl (by kernel_rfl) ((Frame.refl _ w1).drew) (fun Kd hKd => ?_)
    go_wp2_with (at_builtin; go_must (refine wpList_appN rSt _ rfl _ _ rfl HXO.out rfl L (takeA E x.p).2.1.lost.length cl (strs (takeA E x.p).2.1.lost) rfl (fun h => ⟨by have h1 := HCT.out; rw [h] at h1; have h2 := cells_none h1; have h3 := strs_len (takeA E x.p).2.1.lost; rw [h2] at h3; simpa using h3.symm, HTK.out.l0 h⟩) HCT.out (by rw [strs_len]; omega) (stC_one _) (by omega) (by show B ≤ w1.heap.size; omega) ?_); intro v6 w6 ho6 hB6 hg6 hloc6; obtain ⟨A6, c6, rfl⟩ := own_fits ho6)
    have HG6 : Hid (Frame (fun b => (Value.slice z.L z.v.lost.length z.cl).ownBlock = some b) w1 w6) := (Frame.refl _ w1).drew.trans (Frame.of_grown hg6) (fun _ _ h => h)
    have k2 := cell_frame HG6.out hgl2 ng s4
    have k3 := (HGB.out.frame HG6.out ng).free (q6 + 4)
    have k4 := (HGB.out.frame HG6.out ng).lt
    have HO6 := Lib.hid ho6
    have HL6 := Lib.hid hloc6
    clear ho6 hB6 hg6 hloc6
    refine anyL_one 16 rfl (by kernel_rfl) (HG6.out) (fun Kd hKd => ?_)
    go_wp2
    apply anyL_step 17 (by kernel_rfl) rfl (by kernel_rfl)
    focus (intro wI hI Kv hKv; go_simp; exact hKv)
    intro Kd hKd
    go_simp
    refine hKd _ ?_
    clear hKd Kd
    refine anyL_end rfl (by kernel_rfl) (HG6.out) (fun Kd hKd => ?_)
    go_wp2_with fail
    go_meet
    have e1 : (z.v.lost ++ (takeA E x.p).2.1.lost).length = z.v.lost.length + (takeA E x.p).2.1.lost.length := List.length_append
    have hov : w6.ownsRow B 9 1 (.slice A6 (z.v.lost ++ (takeA E x.p).2.1.lost).length c6) (z.v.lost ++ (takeA E x.p).2.1.lost).length (strs (z.v.lost ++ (takeA E x.p).2.1.lost)) := by
     rw [e1, strs_app]
     exact HO6.out
    have hst := HLD.out.setText (k := k') (j := 1) (g := gb) (z := z) (z' := { z with v := { z.v with lost := z.v.lost ++ (takeA E x.p).2.1.lost }, L := A6, cl := c6 }) (x := (.slice z.L z.v.lost.length z.cl, z.v.lost)) HZ.out (by omega) HTG.out rfl rfl rfl HG6.out hov (by rw [e1]; exact HL6.out)
    have e2 : ({ L0 with tales := L0.tales.set k' { z.v with lost := z.v.lost ++ (takeA E x.p).2.1.lost } } : Lp) = L2 := by
     rw [← HL2.out]
     unfold lostA
     rw [HNN.out, if_pos (by omega), Int.toNat_natCast, setAt_eq HTA.out, HZV.out]
     rfl
    have e4 : k' * 6 + (3 + 1) = q6 + 4 := by have := Hq6.out; omega
    rw [e1, e4] at hst
    simp only [e2] at hst
    exact ⟨_, hst.1, HSD.out.trans hst.2⟩
   ·have q0 : decide (0 ≤ nn) = false := decide_eq_false h0
    have e2 : L0 = L2 := by rw [← HL2.out]; unfold lostA; rw [HNN.out, if_neg h0]
    go_wp2_with fail
    go_meet
    rw [← e2]
    exact ⟨M0, HLD.out, HSD.out⟩
  case rest =>
   obtain ⟨M2, hl2, hs2⟩ := hcut
   have HLO3 := Lib.hid hl2
   have HLS3 := Lib.hid hs2
   have h5 := HTK.out.k5.frame hs2.fr (HLO2.out.ne HTK.out.k5 (by decide) (by decide) (by decide) (by decide))
   have h6 := HTK.out.k6.frame hs2.fr (HLO2.out.ne HTK.out.k6 (by decide) (by decide) (by decide) (by decide))
   have h4 : Blk wc w.heap.size (.cells (tpC x).toArray 106) := HK42.out.frame hs2.fr HNW.out
   have x0 := h5.cell 0 (v := .int .i64 (takeA E x.p).1.life) rfl
   have x1 := h5.cell 1 (v := .int .i64 (takeA E x.p).1.peer) rfl
   have x2 := h5.cell 2 (v := .int .i64 (takeA E x.p).1.phase) rfl
   have x3 := h5.cell 3 (v := .int .i64 (takeA E x.p).1.base) rfl
   have x4 := h5.cell 4 (v := .slice A (takeA E x.p).1.out.length c) rfl
   have x5 := h5.cell 5 (v := .int .i64 (takeA E x.p).1.want) rfl
   have x6 := h5.cell 6 (v := .slice D (takeA E x.p).1.inn.length d) rfl
   have xl := h5.lt
   have y0 := h6.cell 0 (v := .slice P (takeA E x.p).2.1.packets.length cp) rfl
   have y1 := h6.cell 1 (v := .slice T (takeA E x.p).2.1.taken.length ct) rfl
   have y2 := h6.cell 2 (v := .slice L (takeA E x.p).2.1.lost.length cl) rfl
   have yl := h6.lt
   have t0 := h4.cell 0 (v := .int .i64 x.to) rfl
   have tl := h4.lt
   clear h4 h5 h6 hl2 hs2
   go_wp2_with fail
   refine (tell_any B bl L2 M2 x.to HTO.out (takeA E x.p).1 A c D d (takeA E x.p).2.1 P cp T ct L cl wc (n + 4) HLO3.out (HTK.out.en.ls HLO2.out HLS3.out) HGD.out HMI.out.now HMI.out.bulk (by omega) (by rw [HMI.out.end_]; exact HMI.out.cont) (HTK.out.pk.step HLS3.out) (HTK.out.tk.step HLS3.out) HTK.out.t0 HMI.out.p6 HMI.out.t4).mono ?_
   rintro r w9 ⟨rfl, M9, hl9, hs9⟩
   go_wp2
   go_end0
   rw [HCE.out]
   exact ⟨rfl, M9, hl9, (HLS2.out.trans HLS3.out).trans hs9⟩
end Go.Proofs.YtejabnoidhlfaaaDoor
