/- Contracts: does, played, Play. -/
import Derived.Test.YtejabnoidhlfaaaDoorS39
import Derived.Test.YtejabnoidhlfaaaDoorS28

/- Contract: does; packets of the wire; does whole. -/
namespace Go.Proofs.YtejabnoidhlfaaaDoor
open Go.RowKit Go.Maps

theorem does_empty {l : Lp} {d : Dd} (h : d.do_ = 4 ∨ d.do_ = 5 ∨ d.do_ = 6) (h0 : l.wire.length = 0) : doesA l d = l := by
 unfold doesA
 simp only
 rw [if_neg (by omega), if_neg (by omega), if_neg (by omega), if_pos h0]
theorem does_4 {l : Lp} {d : Dd} (h : d.do_ = 4) (h0 : ¬ l.wire.length = 0) : doesA l d = carryA l (d.at_ % (l.wire.length : Int)).toNat := by
 unfold doesA
 simp only
 rw [if_neg (by omega), if_neg (by omega), if_neg (by omega), if_neg h0, if_pos h]
theorem does_5 {l : Lp} {d : Dd} (h : d.do_ = 5) (h0 : ¬ l.wire.length = 0) : doesA l d = { l with wire := l.wire.eraseIdx (d.at_ % (l.wire.length : Int)).toNat } := by
 unfold doesA
 simp only
 rw [if_neg (by omega), if_neg (by omega), if_neg (by omega), if_neg h0, if_neg (by omega), if_pos h]
theorem does_6 {l : Lp} {d : Dd} (h : d.do_ = 6) (h0 : ¬ l.wire.length = 0) {x : Tp} (hx : l.wire[(d.at_ % (l.wire.length : Int)).toNat]? = some x) : doesA l d = wayA l (1 - x.to) [x.p] := by
 unfold doesA
 simp only
 rw [if_neg (by omega), if_neg (by omega), if_neg (by omega), if_neg h0, if_neg (by omega), if_neg (by omega), hx]
theorem does_none {_l : Lp} {d : Dd} (h : ¬ (d.do_ = 1 ∨ d.do_ = 2 ∨ d.do_ = 3 ∨ d.do_ = 4 ∨ d.do_ = 5 ∨ d.do_ = 6)) : deedB d = false := deedB_no h
set_option maxRecDepth 100000 in
set_option maxHeartbeats 16000000 in
theorem does_wire (B bl : Nat) (l : Lp) (m : Lm) (d : Dd) (w : World) (n : Nat) (h : Lo w B bl l m) (hn : LineK l n) (hnn : n ≤ 80000000) (hd : deedB d = true) (hk : d.do_ = 4 ∨ d.do_ = 5 ∨ d.do_ = 6) :
  Calls Tryd.prog 45 #[.pointer (some ⟨bl, 0, none⟩), ddV d] w fun r w' => r = .returned (.tuple #[]) ∧ ∃ m', Lo w' B bl (doesA l d) m' ∧ Ls bl l m w (doesA l d) m' w' := by
 have q1 : (d.do_ == 1) = false := beq_eq_false_iff_ne.2 (by omega)
 have q2 : (d.do_ == 2) = false := beq_eq_false_iff_ne.2 (by omega)
 have q3 : (d.do_ == 3) = false := beq_eq_false_iff_ne.2 (by omega)
 have HLO := Lib.hid h
 have HLK := Lib.hid hn
 have HD := Lib.hid hd
 have HEI : Hid (d.end_ = 0 ∨ d.end_ = 1) := deed_end hd
 have hat := deed_at hd
 have hwl : l.wire.length ≤ 80000000 := by have := hn.bulk.wire; omega
 have HWL := Lib.hid hwl
 have HAT := Lib.hid hat
 obtain ⟨kk, HKK⟩ : ∃ kk : Nat, Hid ((d.at_ % (l.wire.length : Int)).toNat = kk) := ⟨_, rfl⟩
 have HK := Lib.hid hk
 clear h hn hd hk
 unfold ddV
 go_enter Tryd.func45, Tryd.ntmps45
 obtain ⟨W, hW⟩ : ∃ W, w.alloc (.cells #[.int .i64 d.do_, .int .i64 d.end_, .int .i64 d.at_, .string d.t] 65) = W := ⟨_, rfl⟩
 have HBW : Hid (Below w.heap.size w W) := by rw [← hW]; exact (Below.refl _ w).alloc (Nat.le_refl _) _
 have HKW : Hid (Blk W w.heap.size (.cells (ddB d) 65)) := by rw [← hW]; exact Blk.new _ _
 have HLW : Hid (Lo W B bl l m) := HLO.out.below HBW.out
 have c14 := HLW.out.box.cell 14 (v := .slice m.W l.wire.length m.cw) rfl
 have c2 := HKW.out.cell 2 (v := .int .i64 d.at_) rfl
 have lbW := HLW.out.box.lt
 have lkW := HKW.out.lt
 go_upto_if 18 with fail
 clear hW
 go_cut [4] from 13 (fun v wx => ∃ z : Int, v = .int .i64 z ∧ (l.wire.length ≠ 0 → z = (kk : Int)) ∧ Lo wx B bl l m ∧ Ls bl l m w l m wx ∧ Blk wx w.heap.size (.cells (ddB d) 65))
 case first =>
  by_cases h0 : (0 : Int) < (l.wire.length : Int)
  ·have q0 : decide ((0 : Int) < (l.wire.length : Int)) = true := decide_eq_true h0
   have hne : ¬ (l.wire.length : Int) = 0 := by omega
   have hnl : ¬ l.wire.length = 0 := by omega
   go_upto_region 3 with fail
   refine sall (by kernel_rfl) (by kernel_rfl) (fun Kq hKq => ?_)
   repeat still_step
   refine wpStill_nil (hKq _ ?_)
   clear hKq Kq
   go_wp2_with fail
   go_meet
   exact ⟨_, rfl, fun _ => by rw [← HKK.out, Int.tmod_eq_emod_of_nonneg HAT.out, Int.toNat_of_nonneg (Int.emod_nonneg _ hne)], HLW.out.drew, (Ls.of_below HBW.out).trans (Ls.of_below (Below.refl _ _).drew), HKW.out.drew⟩
  ·have q0 : decide ((0 : Int) < (l.wire.length : Int)) = false := decide_eq_false h0
   go_wp2_with fail
   go_meet
   exact ⟨0, rfl, fun h => absurd (by omega) h, HLW.out, Ls.of_below HBW.out, HKW.out⟩
 case rest =>
  obtain ⟨V, rfl⟩ : ∃ V, V = wc := ⟨wc, rfl⟩
  obtain ⟨z, rfl, hz, hl, hs, hkb⟩ := hcut
  have HZ := Lib.hid hz
  have HLV := Lib.hid hl
  have HSV := Lib.hid hs
  have HKV := Lib.hid hkb
  clear hz hl hs hkb c14 c2 lbW lkW
  obtain ⟨E, HE⟩ : ∃ E, Hid (l.end_ d.end_ = E) := ⟨_, rfl⟩
  have HEN : Hid (EnT V E (m.A d.end_) (m.c d.end_) (m.D d.end_)) := by have h1 := HLV.out.end_ HEI.out; rw [HE.out] at h1; exact h1
  have HGE : Hid (goodB E = true) := by have h1 := HLK.out.ok.good d.end_; rw [HE.out] at h1; exact h1
  have hixE : ∀ w', (Instr.indexAt 70 (.pointer (some ⟨bl, 0, none⟩)) (.int .i64 d.end_)).run Tryd.prog w' = .ok (.pointer (some ⟨bl, 7 * d.end_.toNat, none⟩)) w' := fun w' => ix107 HEI.out w'
  obtain ⟨o, ho⟩ : ∃ o, Hid (7 * d.end_.toNat = o) := ⟨_, rfl⟩
  rw [ho.out] at hixE
  have d0 := HKV.out.cell 0 (v := .int .i64 d.do_) rfl
  have d1 := HKV.out.cell 1 (v := .int .i64 d.end_) rfl
  have d2 := HKV.out.cell 2 (v := .int .i64 d.at_) rfl
  have d3 := HKV.out.cell 3 (v := .string d.t) rfl
  have dl := HKV.out.lt
  clear hixE
  have c14 := HLV.out.box.cell 14 (v := .slice m.W l.wire.length m.cw) rfl
  have cl := HLV.out.box.lt
  cases q0 : ((l.wire.length : Int) == 0) with
  | true =>
   have h0 : l.wire.length = 0 := by have := beq_iff_eq.1 q0; omega
   have HDO := Lib.hid (does_empty (l := l) HK.out h0)
   clear h0
   go_wp2
   go_end0
   rw [HDO.out]
   exact ⟨rfl, m, HLV.out, HSV.out⟩
  | false =>
   have h0 : ¬ l.wire.length = 0 := by have := beq_eq_false_iff_ne.1 q0; omega
   have H0 := Lib.hid h0
   have HZK : Hid (z = (kk : Int)) := HZ.out h0
   have hzk := HZK.out
   subst hzk
   have HKL : Hid (kk < l.wire.length) := by
    show _ < _
    have h1 := Int.emod_lt_of_pos d.at_ (show (0 : Int) < (l.wire.length : Int) by omega)
    have h2 := Int.emod_nonneg d.at_ (show (l.wire.length : Int) ≠ 0 by omega)
    rw [← HKK.out]
    omega
   have hkl := HKL.out
   obtain ⟨x, hx⟩ : ∃ x, Hid (l.wire[kk]? = some x) := ⟨_, List.getElem?_eq_getElem HKL.out⟩
   clear h0 hkl
   cases q4 : (d.do_ == 4) with
   | true =>
    have HDO : Hid (doesA l d = carryA l kk) := by show _ = _; rw [does_4 (beq_iff_eq.1 q4) H0.out, HKK.out]
    go_wp2_with fail
    refine (carry_any B bl l m kk x hx.out V n HLV.out HLK.out (by omega)).mono ?_
    rintro r w9 ⟨rfl, M9, hl9, hs9⟩
    go_wp2
    go_end0
    rw [HDO.out]
    exact ⟨rfl, M9, hl9, HSV.out.trans hs9⟩
   | false =>
    obtain ⟨g, hW, hgl, hkl, hcell⟩ := HLV.out.trip hx.out
    have HW := Lib.hid hW
    rw [hW] at c14
    clear hW
    cases q5 : (d.do_ == 5) with
    | true =>
     have HDO : Hid (doesA l d = { l with wire := l.wire.eraseIdx kk }) := by show _ = _; rw [does_5 (beq_iff_eq.1 q5) H0.out, HKK.out]
     have HWR : Hid (V.ownsRow B 106 8 (.slice (some ⟨g, 0, none⟩) l.wire.length m.cw) l.wire.length (tps l.wire)) := by have h1 := HLV.out.wire; rw [HW.out] at h1; exact h1
     have hkw : IntKind.i64.wrap ((kk : Int) + 1) = ((kk + 1 : Nat) : Int) := by rw [wrap_ok ⟨by omega, by have := HWL.out; omega⟩]; omega
     clear hcell hkl
     go_wp2_with fail
     refine (delete_any B g m.cw kk (kk + 1) l.wire V HWR.out HKL.out rfl (by have := HWL.out; omega)).mono ?_
     rintro r w1 ⟨rfl, ho1, hf1⟩
     have HO1 := Lib.hid ho1
     have HF1 := Lib.hid hf1
     have hne : bl ≠ g := fun e => by
      have h1 := HLV.out.wire
      rw [HW.out] at h1
      exact own_ne h1 HLV.out.box (by decide) (by rw [e]; rfl)
     have b1 := HLV.out.box.frame hf1 hne
     have e14 := b1.cell 14 (v := .slice m.W l.wire.length m.cw) rfl
     have e15 := b1.free 14
     have e16 := b1.lt
     clear b1 ho1 hf1 hne c14 cl
     go_wp2
     go_end0
     have h1 : (l.wire.eraseIdx kk).length = l.wire.length - 1 := len_erase HKL.out
     have h2 := HLV.out.setWire (w6 := w1) (W' := some ⟨g, 0, none⟩) (c' := m.cw) (wire' := l.wire.eraseIdx kk) (HF1.out.mono fun b _ e => by rw [HW.out, e]; rfl) (by rw [h1]; exact HO1.out) (fun g' hg' => .inl (by rw [HW.out]; exact hg'))
     rw [h1] at h2
     rw [HDO.out]
     exact ⟨rfl, _, h2.1, HSV.out.trans h2.2⟩
    | false =>
     have hd6 : d.do_ = 6 := by
      have h4 := beq_eq_false_iff_ne.1 q4
      have h5 := beq_eq_false_iff_ne.1 q5
      have := HK.out
      omega
     have HDO : Hid (doesA l d = wayA l (1 - x.to) [x.p]) := does_6 hd6 H0.out (by rw [HKK.out]; exact hx.out)
     clear hd6
     have hto : x.to = 0 ∨ x.to = 1 := by
      rcases (HLK.out.ok.wire x (List.mem_of_getElem? hx.out)).2 with h | h
      ·exact .inl h.1
      ·exact .inr h.1
     have HTO1 : Hid (1 - x.to = 0 ∨ 1 - x.to = 1) := by
      rcases hto with h | h
      ·exact .inr (by omega)
      ·exact .inl (by omega)
     have hwt : IntKind.i64.wrap (1 - x.to) = 1 - x.to := wrap_ok ⟨by omega, by omega⟩
     have d0' : V.cell? ⟨g, kk * 8, none⟩ = some (.int .i64 x.to) := hcell 0 _ rfl
     have d1' := hcell 1 _ rfl
     have d2' := hcell 2 _ rfl
     have d3' := hcell 3 _ rfl
     have d4' := hcell 4 _ rfl
     have d5' := hcell 5 _ rfl
     have d6' := hcell 6 _ rfl
     have d7' := hcell 7 _ rfl
     have hix : ∀ w', (Instr.indexAt 25 (.slice (some ⟨g, 0, none⟩) l.wire.length m.cw) (.int .i64 (kk : Int))).run Tryd.prog w' = .ok (.pointer (some ⟨g, kk * 8, none⟩)) w' := fun w' => ix56 hkl w'
     obtain ⟨q8, Hq8⟩ : ∃ q8, Hid (kk * 8 = q8) := ⟨_, rfl⟩
     rw [Hq8.out] at hix d0' d1' d2' d3' d4' d5' d6' d7'
     clear hto hcell hkl
     go_upto_region 5 with fail
     obtain ⟨X, hX⟩ : ∃ X, V.alloc (.cells (tpC x).toArray 106) = X := ⟨_, rfl⟩
     have HBX : Hid (Below V.heap.size V X) := by rw [← hX]; exact (Below.refl _ V).alloc (Nat.le_refl _) _
     have HKX : Hid (Blk X V.heap.size (.cells (tpC x).toArray 106)) := by rw [← hX]; exact Blk.new _ _
     unfold tpC at hX
     simp only [hX]
     have k0 := HKX.out.cell 0 (v := .int .i64 x.to) rfl
     have k1 := HKX.out.cell 1 (v := .int .i64 x.p.kind) rfl
     have k2 := HKX.out.cell 2 (v := .int .i64 x.p.frm) rfl
     have k3 := HKX.out.cell 3 (v := .int .i64 x.p.to) rfl
     have k4 := HKX.out.cell 4 (v := .int .i64 x.p.num) rfl
     have k5 := HKX.out.cell 5 (v := .string x.p.t) rfl
     have k6 := HKX.out.cell 6 (v := .int .i64 x.p.ack) rfl
     have k7 := HKX.out.cell 7 (v := .int .i64 x.p.held) rfl
     have kl := HKX.out.lt
     clear hX d0' d1' d2' d3' d4' d5' d6' d7' d0 d1 d2 d3 dl c14 cl
     go_wp2_with fail
     obtain ⟨Y, hY⟩ : ∃ Y, X.alloc (.cells #[.int .i64 x.p.kind, .int .i64 x.p.frm, .int .i64 x.p.to, .int .i64 x.p.num, .string x.p.t, .int .i64 x.p.ack, .int .i64 x.p.held] 49) = Y := ⟨_, rfl⟩
     have HBY : Hid (Below V.heap.size V Y) := by rw [← hY]; exact HBX.out.alloc (by omega) _
     have HKY : Hid (Blk Y X.heap.size (.cells (pkB x.p) 49)) := by rw [← hY]; exact Blk.new _ _
     have HLY : Hid (Lo Y B bl l m) := HLV.out.below HBY.out
     have HOY : Hid (Off Y bl l m (some ⟨X.heap.size, 0, none⟩) (pks [x.p])) := by
      refine ⟨⟨by rw [pks_len]; simp, X.heap.size, 0, by have := HKY.out.lt; omega, fun _ => ⟨rfl, HKY.out.lt⟩, fun k v hv => ?_⟩, fun _ a ha hb => ?_⟩
      ·rw [Nat.zero_add]
       refine HKY.out.cell k ?_
       have e1 : (pkB x.p).toList = pks [x.p] := rfl
       rw [← Array.getElem?_toList, e1]
       exact hv
      ·injection ha with ha
       have h1 := (HLV.out.lb hb).2
       rw [← ha] at h1
       have h2 : X.heap.size < V.heap.size := h1
       omega
     rw [hY]
     refine (way_any B bl l m (1 - x.to) (some ⟨X.heap.size, 0, none⟩) 1 [x.p] Y HLY.out HTO1.out HOY.out (by have := HWL.out; simp; omega)).mono ?_
     rintro r w9 ⟨rfl, M9, hl9, hs9⟩
     go_wp2
     go_end0
     rw [HDO.out]
     exact ⟨rfl, M9, hl9, (HSV.out.trans (Ls.of_below HBY.out)).trans hs9⟩
theorem does_any (B bl : Nat) (l : Lp) (m : Lm) (d : Dd) (w : World) (n : Nat) (h : Lo w B bl l m) (hn : LineK l n) (hnn : n ≤ 80000000) (hd : deedB d = true) :
  Calls Tryd.prog 45 #[.pointer (some ⟨bl, 0, none⟩), ddV d] w fun r w' => r = .returned (.tuple #[]) ∧ ∃ m', Lo w' B bl (doesA l d) m' ∧ Ls bl l m w (doesA l d) m' w' := by
 by_cases h1 : d.do_ = 1
 ·exact does_send B bl l m d w n h hn hnn hd h1
 by_cases h2 : d.do_ = 2
 ·exact does_tick B bl l m d w n h hn hnn hd h2
 by_cases h3 : d.do_ = 3
 ·exact does_fail B bl l m d w n h hn hnn hd h3
 by_cases h4 : d.do_ = 4 ∨ d.do_ = 5 ∨ d.do_ = 6
 ·exact does_wire B bl l m d w n h hn hnn hd h4
 ·have := deedB_no (d := d) (by omega)
  rw [this] at hd
  cases hd
end Go.Proofs.YtejabnoidhlfaaaDoor

/- Contracts: played, Play. -/
namespace Go.Proofs.YtejabnoidhlfaaaDoor
open Go.RowKit Go.Maps

def ddC (d : Dd) : List Value := [.int .i64 d.do_, .int .i64 d.end_, .int .i64 d.at_, .string d.t]
theorem ddC_len : ∀ x, (ddC x).length = 4 := fun _ => rfl
def dds (l : List Dd) : List Value := l.flatMap ddC
theorem dds_len (l : List Dd) : (dds l).length = l.length * 4 := flat_len ddC_len l
theorem rDd : ElemRow Tryd.prog 32 65 4 40 := ElemRow.mk' (z := .agg #[.int .i64 0, .int .i64 0, .int .i64 0, .string ByteArray.empty]) Tryd.underlying32 (by kernel_rfl) rfl (by decide) (by decide)
theorem dd_at {w : World} {A : Option Addr} {l : List Dd} {c k : Nat} (h : Cells w A (dds l)) (hk : k < l.length) : ∃ x b o, l[k]? = some x ∧ b < w.heap.size ∧ (∀ w', (Instr.indexAt 32 (.slice A l.length c) (.int .i64 (k : Int))).run Tryd.prog w' = .ok (.pointer (some ⟨b, o, none⟩)) w') ∧
  w.cell? ⟨b, o, none⟩ = some (.int .i64 x.do_) ∧ w.cell? ⟨b, o + 1, none⟩ = some (.int .i64 x.end_) ∧ w.cell? ⟨b, o + 2, none⟩ = some (.int .i64 x.at_) ∧ w.cell? ⟨b, o + 3, none⟩ = some (.string x.t) := by
 obtain ⟨x, b, o, hx, hb, hix, hc⟩ := flat_at (c := c) h ddC_len Tryd.underlying32 rDd.size_eq (by decide) hk
 exact ⟨x, b, o, hx, hb, hix, hc 0 _ rfl, hc 1 _ rfl, hc 2 _ rfl, hc 3 _ rfl⟩
theorem all_take {l : List Dd} {k : Nat} {x : Dd} (h : ∀ d ∈ l.take k, deedB d = true) (hx : l[k]? = some x) (hd : deedB x = true) : ∀ d ∈ l.take (k + 1), deedB d = true := by
 intro d hm
 rw [take_succ_of hx] at hm
 rcases List.mem_append.1 hm with hm | hm
 ·exact h d hm
 ·have : d = x := by simpa using hm
  subst this
  exact hd
theorem foldl_take {l : List Dd} {k : Nat} {x : Dd} (hx : l[k]? = some x) (a : Lp) : (l.take (k + 1)).foldl doesA a = doesA ((l.take k).foldl doesA a) x := by
 rw [take_succ_of hx, List.foldl_append]
 rfl
def PlPost (ds : List Dd) (w : World) (r : Ending) (w' : World) : Prop := ∃ v, r = .returned (.tuple #[v, .int .i64 (playedA ds).2]) ∧ ((playedA ds).2 = 0 → ∃ bl m, v = .pointer (some ⟨bl, 0, none⟩) ∧ Lo w' w.heap.size bl (playedA ds).1 m) ∧ Below w.heap.size w w'
set_option maxRecDepth 100000 in
set_option maxHeartbeats 16000000 in
theorem played_any (A : Option Addr) (c : Nat) (ds : List Dd) (w : World) (h : Cells w A (dds ds)) : Calls Tryd.prog 18 #[.slice A ds.length c] w (PlPost ds w) := by
 have HC := Lib.hid h
 clear h
 go_enter Tryd.func18, Tryd.ntmps18
 go_wp2_with fail
 refine (first_any w).mono ?_
 rintro r w1 ⟨bl, m, rfl, hl, hB⟩
 have HL := Lib.hid hl
 have HB := Lib.hid hB
 clear hl hB
 by_cases h2 : (200 : Int) < (ds.length : Int)
 ·have HP : Hid (playedA ds = (firstA, 3)) := by show _ = _; unfold playedA; rw [if_pos (by omega)]
  go_wp2
  go_ret2
  exact ⟨.pointer none, by rw [HP.out]; rfl, fun h0 => (by rw [HP.out] at h0; cases h0), HB.out⟩
 have q2 : decide ((200 : Int) < (ds.length : Int)) = false := decide_eq_false h2
 have HLN : Hid (ds.length ≤ 200) := by show _ ≤ _; omega
 clear h2
 go_wp2_with fail
 go_loopg [15] ds.length (fun g iv wr => ∃ k : Nat, k + g = ds.length ∧ iv = .int .i64 (k : Int) ∧ (∀ d ∈ ds.take k, deedB d = true) ∧ Below w1.heap.size w1 wr)
 case atStart => exact ⟨0, Nat.zero_add _, rfl, fun d hd => by simp at hd, Below.refl _ _⟩
 case round =>
  obtain ⟨k, hk, rfl, hall, hBr⟩ := hrel
  have HK := Lib.hid hk
  have HA := Lib.hid hall
  have HBR := Lib.hid hBr
  clear hk hall hBr
  by_cases hlt : (k : Int) < (ds.length : Int)
  ·obtain ⟨x, b, o, hx, hb, hix, hc0, hc1, hc2, hc3⟩ := dd_at (c := c) (k := k) ((HC.out.below HB.out (Nat.le_refl _)).below HBR.out (Nat.le_refl _)) (by omega)
   have HX := Lib.hid hx
   have hw1 : IntKind.i64.wrap ((k : Int) + 1) = (k : Int) + 1 := wrap_ok ⟨by omega, by have := HLN.out; omega⟩
   clear hx
   go_wp2_with fail
   obtain ⟨X, hX⟩ : ∃ X, wr.alloc (.cells #[.int .i64 x.do_, .int .i64 x.end_, .int .i64 x.at_, .string x.t] 65) = X := ⟨_, rfl⟩
   have HBX : Hid (Below w1.heap.size w1 X) := by rw [← hX]; exact HBR.out.alloc HBR.out.size _
   rw [hX]
   clear hX hc0 hc1 hc2 hc3 hix hb
   refine (proves_any x X).mono ?_
   rintro r w3 ⟨rfl, hB3⟩
   have HB3 : Hid (Below w1.heap.size w1 w3) := below_in HBX.out hB3
   clear hB3
   obtain ⟨pv, HPV⟩ : ∃ pv, Hid (deedB x = pv) := ⟨_, rfl⟩
   rw [HPV.out]
   cases pv with
   | true =>
    go_wp2_with fail
    go_roundg (ds.length - (k + 1))
    case measure => have := HK.out; omega
    case rel => exact ⟨k + 1, by omega, rfl, all_take HA.out HX.out HPV.out, HB3.out⟩
   | false =>
    have HP : Hid (playedA ds = (firstA, 2)) := by
     show _ = _
     unfold playedA
     have hl := HLN.out
     have h9 : ds.all deedB = false := by
      cases hq : ds.all deedB with
      | false => rfl
      | true =>
       have := List.all_eq_true.1 hq x (List.mem_of_getElem? HX.out)
       rw [HPV.out] at this
       cases this
     rw [if_neg (by omega), if_pos h9]
    go_wp2
    go_ret2
    exact ⟨.pointer none, by rw [HP.out]; rfl, fun h0 => (by rw [HP.out] at h0; cases h0), HB.out.trans (HB3.out.mono HB.out.size)⟩
  ·have hke : k = ds.length := by have := HK.out; omega
   have HALL : Hid (∀ d ∈ ds, deedB d = true) := fun d hd => HA.out d (by rw [hke, List.take_length]; exact hd)
   have HBL : Hid (Lo wr w.heap.size bl firstA m) := HL.out.below HBR.out
   have HBW : Hid (Below w.heap.size w wr) := HB.out.trans (HBR.out.mono HB.out.size)
   have HP : Hid (playedA ds = (ds.foldl doesA firstA, 0)) := by
    show _ = _
    unfold playedA
    have hl := HLN.out
    have h9 : ¬ ds.all deedB = false := by
     rw [List.all_eq_true.2 HALL.out]
     decide
    rw [if_neg (by omega), if_neg h9]
   clear hke HK HA HBR HL
   obtain ⟨w2, rfl⟩ : ∃ w2, w2 = wr := ⟨wr, rfl⟩
   go_wp2_with fail
   go_loopg [25] ds.length (fun g iv wr => ∃ (k : Nat) (M : Lm), k + g = ds.length ∧ iv = .int .i64 (k : Int) ∧ Lo wr w.heap.size bl ((ds.take k).foldl doesA firstA) M ∧ Below w.heap.size w wr)
   case atStart => exact ⟨0, m, Nat.zero_add _, rfl, HBL.out, HBW.out⟩
   case round =>
    obtain ⟨k, M, hk, rfl, hl, hBr⟩ := hrel
    have HK := Lib.hid hk
    have HLR := Lib.hid hl
    have HBR := Lib.hid hBr
    clear hk hl hBr hlt
    by_cases hlt : (k : Int) < (ds.length : Int)
    ·obtain ⟨x, b, o, hx, hb, hix, hc0, hc1, hc2, hc3⟩ := dd_at (c := c) (k := k) (HC.out.below HBR.out (Nat.le_refl _)) (by omega)
     have HX := Lib.hid hx
     have hw1 : IntKind.i64.wrap ((k : Int) + 1) = (k : Int) + 1 := wrap_ok ⟨by omega, by have := HLN.out; omega⟩
     have HKL : Hid (k < ds.length) := by show _ < _; omega
     clear hx
     go_wp2_with fail
     obtain ⟨X, hX⟩ : ∃ X, wr.alloc (.cells #[.int .i64 x.do_, .int .i64 x.end_, .int .i64 x.at_, .string x.t] 65) = X := ⟨_, rfl⟩
     have hBX : Below wr.heap.size wr X := by rw [← hX]; exact (Below.refl _ wr).alloc (Nat.le_refl _) _
     have HBX := Lib.hid hBX
     rw [hX]
     clear hX hc0 hc1 hc2 hc3 hix hb hBX
     have HLK : Hid (LineK ((ds.take k).foldl doesA firstA) (0 + 20 * (ds.take k).length)) := folds_k (ds.take k) firstA 0 (fun d hd => HALL.out d (List.mem_of_mem_take hd)) first_k
     refine (does_any w.heap.size bl ((ds.take k).foldl doesA firstA) M x X (0 + 20 * (ds.take k).length) (HLR.out.below HBX.out) HLK.out (by rw [List.length_take]; have := HLN.out; omega) (HALL.out x (List.mem_of_getElem? HX.out))).mono ?_
     rintro r w3 ⟨rfl, M3, hl3, hs3⟩
     have HL3 := Lib.hid hl3
     have HB3 : Hid (Below w.heap.size w w3) := (HBR.out.trans (HBX.out.mono HBR.out.size)).trans (hs3.below (HLR.out.below HBX.out))
     clear hl3 hs3
     go_wp2_with fail
     go_roundg (ds.length - (k + 1))
     case measure => have := HK.out; have := HKL.out; omega
     case rel => exact ⟨k + 1, M3, by have := HKL.out; omega, rfl, by rw [foldl_take HX.out]; exact HL3.out, HB3.out⟩
    ·have hke : k = ds.length := by have := HK.out; omega
     have HLE : Hid (Lo wr w.heap.size bl (ds.foldl doesA firstA) M) := by
      have h9 := HLR.out
      rw [hke, List.take_length] at h9
      exact h9
     clear hke
     go_wp2
     go_ret2
     exact ⟨.pointer (some ⟨bl, 0, none⟩), by rw [HP.out]; rfl, fun _ => ⟨bl, M, rfl, by rw [HP.out]; exact HLE.out⟩, HBR.out⟩
end Go.Proofs.YtejabnoidhlfaaaDoor

/- The quiet round: how long it is. -/
namespace Go.Proofs.YtejabnoidhlfaaaDoor

theorem end_life0 {l : Lp} {i : Int} (hi : i = 0 ∨ i = 1) {e : En} {n : Int} (h : e.life ≤ (l.end_ i).life + n) (h0 : 0 ≤ n) : (l.setEnd i e).e0.life ≤ l.e0.life + n ∧ (l.setEnd i e).e1.life ≤ l.e1.life + n := by
 rcases hi with rfl | rfl
 ·exact ⟨h, by show l.e1.life ≤ _; omega⟩
 ·exact ⟨by show l.e0.life ≤ _; omega, h⟩
theorem does_life {l : Lp} (h : LineOk l) {d : Dd} (hd : deedB d = true) : (doesA l d).e0.life ≤ l.e0.life + 1 ∧ (doesA l d).e1.life ≤ l.e1.life + 1 := by
 have hi := deed_end hd
 have hg := h.good d.end_
 have hself : l.e0.life ≤ l.e0.life + 1 ∧ l.e1.life ≤ l.e1.life + 1 := by omega
 have hw : ∀ (L : Lp) (i : Int) (ps : List Pk), (wayA L i ps).e0 = L.e0 ∧ (wayA L i ps).e1 = L.e1 := fun L i ps => by rw [way_eq]; exact ⟨rfl, rfl⟩
 unfold doesA
 simp only
 split
 ·split
  ·rename_i hs
   have hb := becomes_e l d.end_ (sendA (l.end_ d.end_) d.t).1
   rw [(hw _ _ _).1, (hw _ _ _).2, hb.1, hb.2.1]
   refine end_life0 hi ?_ (by omega)
   rw [(send_ok hg hs).1]
   show (l.end_ d.end_).life ≤ _
   omega
  ·exact hself
 ·split
  ·rw [(hw _ _ _).1, (hw _ _ _).2]
   exact hself
  ·split
   ·split
    ·rename_i hs
     have hb := becomes_e l d.end_ (againA (l.end_ d.end_)).1
     rw [hb.1, hb.2.1]
     refine end_life0 hi ?_ (by omega)
     rw [(again_ok hg hs).1]
     exact Int.le_refl _
    ·exact hself
   ·split
    ·exact hself
    ·rename_i hwn
     have hklt : (d.at_ % (l.wire.length : Int)).toNat < l.wire.length := by
      have h2 := Int.emod_lt_of_pos d.at_ (show (0 : Int) < (l.wire.length : Int) by omega)
      have h1 := Int.emod_nonneg d.at_ (show (l.wire.length : Int) ≠ 0 by omega)
      omega
     split
     ·obtain ⟨_, _, _, h4, h5⟩ := carry_less h hklt
      rw [h4, h5]
      exact hself
     ·split
      ·exact hself
      ·split
       ·exact hself
       ·rw [(hw _ _ _).1, (hw _ _ _).2]
        exact hself
theorem folds_life : ∀ (m : List Dd) (x : Lp), (∀ d ∈ m, deedB d = true) → LineOk x → (m.foldl doesA x).e0.life ≤ x.e0.life + m.length ∧ (m.foldl doesA x).e1.life ≤ x.e1.life + m.length
 | [], x, _, _ => by simp
 | d :: m, x, hm, hx => by
  have h1 := folds_life m (doesA x d) (fun y hy => hm y (List.mem_cons_of_mem _ hy)) (does_ok hx (hm d List.mem_cons_self))
  have h2 := does_life hx (hm d List.mem_cons_self)
  rw [List.foldl_cons, List.length_cons]
  omega
theorem quiet0_k {l : Lp} {n : Nat} (h : LineK l n) : LineK (quiet0 l) (n + 10) := by
 have hf : LineK { l with free := true } n := ⟨⟨h.ok.g0, h.ok.g1, h.ok.p0, h.ok.p1, h.ok.wire⟩, h.now, ⟨h.bulk.wire, h.bulk.tales, h.bulk.txt⟩⟩
 have t0 := tick_ok h.ok.g0
 have t1 := tick_ok h.ok.g1
 have p0 := tick_packets l.e0
 have p1 := tick_packets l.e1
 have k1 : LineK (wayA { l with free := true } 0 (tickA l.e0).1) (n + 5) := ⟨way_ok hf.ok (.inl rfl) (fun q hq => t0.2 q hq), hf.now.way _ _, (hf.bulk.way _ _).mono (by omega)⟩
 have he : (wayA { l with free := true } 0 (tickA l.e0).1).e1 = l.e1 := by rw [way_eq]
 unfold quiet0
 simp only
 rw [he]
 exact ⟨way_ok k1.ok (.inr rfl) (fun q hq => by
  have := t1.2 q hq
  refine ⟨this.1, ?_⟩
  show q.frm = (wayA { l with free := true } 0 (tickA l.e0).1).e1.life
  rw [he]
  exact this.2), k1.now.way _ _, (k1.bulk.way _ _).mono (by omega)⟩
theorem quiet0_e (l : Lp) : (quiet0 l).e0 = l.e0 ∧ (quiet0 l).e1 = l.e1 := by
 unfold quiet0
 simp only
 rw [way_eq, way_eq]
 exact ⟨rfl, rfl⟩
theorem pw_le (L L' : Int) (p : Pk) : pw L L' p ≤ 4 := by
 unfold pw wgt
 split <;> split <;> split <;> omega
theorem tws_le (L0 L1 : Int) : ∀ l : List Tp, tws L0 L1 l ≤ 4 * l.length
 | [] => by simp [tws]
 | x :: l => by
  have h1 := tws_le L0 L1 l
  have h2 : tw L0 L1 x ≤ 4 := by unfold tw; split <;> exact pw_le _ _ _
  have h3 : tws L0 L1 (x :: l) = tw L0 L1 x + tws L0 L1 l := rfl
  rw [List.length_cons]
  omega
theorem pot_le {L' : Int} {e : En} (h : GoodP e) {k : Nat} (hL : L' ≤ k) : pot L' e ≤ 39 + 6 * k := by
 have h1 := h.len
 have h2 := h.peer.1
 unfold pot
 split <;> omega
theorem mes_le {l : Lp} {n k : Nat} (h : LineK l n) (h0 : l.e0.life ≤ k) (h1 : l.e1.life ≤ k) : mes l ≤ 4 * n + 78 + 12 * k := by
 have a := tws_le l.e0.life l.e1.life l.wire
 have b := pot_le (good_iff.1 h.ok.g0) h1
 have c := pot_le (good_iff.1 h.ok.g1) h0
 have d := h.bulk.wire
 unfold mes
 omega
/-- What Quiet answers. -/
def quietA (ds : List Dd) (order : List Int) : Ln × Int × Int :=
 if 200 < order.length then (noLn, 0, 3) else if (playedA ds).2 ≠ 0 then (noLn, 0, (playedA ds).2) else
  match quietN order (mes (quiet0 (playedA ds).1)) 0 (quiet0 (playedA ds).1) with
  | none => (noLn, 0, 0)
  | some r => (showA r.1, r.2, 0)
theorem played_k {ds : List Dd} (h : (playedA ds).2 = 0) : ds.length ≤ 200 ∧ LineK (playedA ds).1 4000 ∧ (playedA ds).1.e0.life ≤ 201 ∧ (playedA ds).1.e1.life ≤ 201 ∧ (∀ d ∈ ds, deedB d = true) ∧ (playedA ds).1 = ds.foldl doesA firstA := by
 unfold playedA at h ⊢
 split
 ·rename_i h1
  rw [if_pos h1] at h
  cases h
 ·rename_i h1
  rw [if_neg h1] at h
  split
  ·rename_i h2
   rw [if_pos h2] at h
   cases h
  ·rename_i h2
   have hall : ∀ d ∈ ds, deedB d = true := by
    have : ds.all deedB = true := by
     cases hq : ds.all deedB with
     | true => rfl
     | false => exact absurd hq h2
    exact List.all_eq_true.1 this
   have hk := folds_k ds firstA 0 hall first_k
   have hl := folds_life ds firstA hall first_ok
   have e0 : firstA.e0.life = 1 := rfl
   have e1 : firstA.e1.life = 1 := rfl
   exact ⟨by omega, ⟨hk.ok, hk.now, hk.bulk.mono (by omega)⟩, by show (ds.foldl doesA firstA).e0.life ≤ _; omega, by show (ds.foldl doesA firstA).e1.life ≤ _; omega, hall, rfl⟩
theorem quiet_mes {ds : List Dd} (h : (playedA ds).2 = 0) : mes (quiet0 (playedA ds).1) ≤ 20000 := by
 obtain ⟨_, hk, h0, h1, _⟩ := played_k h
 have hq := quiet0_k hk
 have he := quiet0_e (playedA ds).1
 have := mes_le hq (k := 201) (by rw [he.1]; omega) (by rw [he.2]; omega)
 omega
theorem next_lt (order : List Int) (n : Nat) {len : Nat} (h0 : 0 < len) : nextK order n len < len := by
 unfold nextK
 split
 ·omega
 ·rename_i o _
  have h1 := Int.emod_nonneg (o % 18446744073709551616) (show (len : Int) ≠ 0 by omega)
  have h2 := Int.emod_lt_of_pos (o % 18446744073709551616) (show (0 : Int) < (len : Int) by omega)
  omega
theorem quietN_step (order : List Int) {f n : Nat} {l : Lp} (h0 : ¬ l.wire.length = 0) : quietN order (f + 1) n l = quietN order f (n + 1) (carryA l (nextK order n l.wire.length)) := by
 rw [quietN, if_neg h0]
theorem quietN_end (order : List Int) {f n : Nat} {l : Lp} (h0 : l.wire.length = 0) : quietN order f n l = some (l, n) := by
 unfold quietN
 rw [if_pos h0]
end Go.Proofs.YtejabnoidhlfaaaDoor

/- Contract: Play. -/
namespace Go.Proofs.YtejabnoidhlfaaaDoor
open Go.RowKit Go.Maps

theorem lnAt_no (w : World) (B : Nat) : LnAt w B noLn none none none [] [] :=
 ⟨Cells.nil _ _, rfl, fun z hz => (by cases hz), Cells.nil _ _, Cells.nil _ _, rfl, fun z hz => (by cases hz), ⟨fun a ha => (by cases ha), fun a ha => (by cases ha), fun a ha => (by cases ha), fun z hz => (by cases hz)⟩, fun z hz => (by cases hz)⟩
def PyPost (ds : List Dd) (w : World) (r : Ending) (w' : World) : Prop := ∃ EA ce WA cw TA ct es zs, r = .returned (.tuple #[lnV (playA ds).1 EA ce WA cw TA ct, .int .i64 (playA ds).2]) ∧ LnAt w' w.heap.size (playA ds).1 EA WA TA es zs ∧ Below w.heap.size w w' ∧ (playA ds).1.tales.length ≤ ct
set_option maxRecDepth 100000 in
set_option maxHeartbeats 8000000 in
theorem play_any (A : Option Addr) (c : Nat) (ds : List Dd) (w : World) (h : Cells w A (dds ds)) : Calls Tryd.prog 12 #[.slice A ds.length c] w (PyPost ds w) := by
 have HC := Lib.hid h
 clear h
 go_enter Tryd.func12, Tryd.ntmps12
 go_wp2_with fail
 obtain ⟨W, hW⟩ : ∃ W, w.alloc (.cells #[.slice none 0 0, .slice none 0 0, .slice none 0 0] 28) = W := ⟨_, rfl⟩
 have HBW : Hid (Below w.heap.size w W) := by rw [← hW]; exact (Below.refl _ w).alloc (Nat.le_refl _) _
 have HKW : Hid (Blk W w.heap.size (.cells #[.slice none 0 0, .slice none 0 0, .slice none 0 0] 28)) := by rw [← hW]; exact Blk.new _ _
 rw [hW]
 clear hW
 refine (played_any A c ds W (HC.out.below HBW.out (Nat.le_refl _))).mono ?_
 rintro r w1 ⟨v, rfl, hok, hB1⟩
 have HOK := Lib.hid hok
 have HB1 := Lib.hid hB1
 have hk1 := HKW.out.below hB1 HKW.out.lt
 have HK1 := Lib.hid hk1
 have hsw := HKW.out.lt
 have z0 := hk1.cell 0 (v := .slice none 0 0) rfl
 have z1 := hk1.cell 1 (v := .slice none 0 0) rfl
 have z2 := hk1.cell 2 (v := .slice none 0 0) rfl
 have y0 := hk1.free 0
 have y1 := hk1.free 1
 have y2 := hk1.free 2
 have yl := hk1.lt
 clear hok hB1 hk1
 obtain ⟨e, HE⟩ : ∃ e, Hid ((playedA ds).2 = e) := ⟨_, rfl⟩
 rw [HE.out]
 have HBW1 : Hid (Below w.heap.size w w1) := HBW.out.trans (HB1.out.mono (by omega))
 cases q : (e != 0) with
 | true =>
  have HP : Hid (playA ds = (noLn, e)) := by
   show _ = _
   unfold playA
   rw [HE.out, if_neg (by simpa using q)]
  go_wp2
  obtain ⟨W3, hW3⟩ : ∃ W3, ((w1.setCell ⟨w.heap.size, 0, none⟩ (.slice none 0 0)).setCell ⟨w.heap.size, 1, none⟩ (.slice none 0 0)).setCell ⟨w.heap.size, 2, none⟩ (.slice none 0 0) = W3 := ⟨_, rfl⟩
  have HK3 : Hid (Blk W3 w.heap.size (.cells #[.slice none 0 0, .slice none 0 0, .slice none 0 0] 28)) := by rw [← hW3]; exact ((HK1.out.set 0 _).set 1 _).set 2 _
  have HB3 : Hid (Below w.heap.size w W3) := by rw [← hW3]; exact ((HBW1.out.setCell (Nat.le_refl _) _).setCell (Nat.le_refl _) _).setCell (Nat.le_refl _) _
  rw [hW3]
  have c0 := HK3.out.cell 0 (v := .slice none 0 0) rfl
  have c1 := HK3.out.cell 1 (v := .slice none 0 0) rfl
  have c2 := HK3.out.cell 2 (v := .slice none 0 0) rfl
  clear hW3 z0 z1 z2 y0 y1 y2 yl
  have hl : (loadVar 28 ⟨w.heap.size, 0, none⟩).run Tryd.prog W3 = .ok (.agg #[.slice none 0 0, .slice none 0 0, .slice none 0 0]) W3 := by go_simp
  refine bodyPost_ret (v := .tuple #[.agg #[.slice none 0 0, .slice none 0 0, .slice none 0 0], .int .i64 e]) (results_ct rfl rfl rfl hl) rfl ⟨none, 0, none, 0, none, 0, [], [], by rw [HP.out]; rfl, by rw [HP.out]; exact lnAt_no _ _, HB3.out, by rw [HP.out]; exact Nat.zero_le _⟩
 | false =>
  have he : e = 0 := by simpa using q
  have HE0 : Hid ((playedA ds).2 = 0) := by show _ = _; rw [HE.out]; exact he
  have HP : Hid (playA ds = (showA (playedA ds).1, 0)) := by
   show _ = _
   unfold playA
   rw [if_pos HE0.out]
  obtain ⟨bl, m, rfl, hl⟩ := HOK.out HE0.out
  have HL := Lib.hid hl
  clear hl HOK he
  go_wp2_with fail
  refine (show_any W.heap.size bl (playedA ds).1 m w1 4000 HL.out (played_k HE0.out).2.1.bulk (by omega)).mono ?_
  rintro r w2 ⟨EA, ce, WA, cw, TA, ct, es, zs, rfl, hln, hB2, hct⟩
  have HCT := Lib.hid hct
  have HLN := Lib.hid hln
  have hb1s := HB1.out.size
  have HB2 : Hid (Below W.heap.size w1 w2) := hB2.mono hb1s
  have hk2 := HK1.out.below HB2.out hsw
  have HK2 := Lib.hid hk2
  have HBW2 : Hid (Below w.heap.size w w2) := HBW1.out.trans (HB2.out.mono (by omega))
  clear z0 z1 z2 y0 y1 y2 yl hln hB2 hct
  have z0 := hk2.cell 0 (v := .slice none 0 0) rfl
  have z1 := hk2.cell 1 (v := .slice none 0 0) rfl
  have z2 := hk2.cell 2 (v := .slice none 0 0) rfl
  have y0 := hk2.free 0
  have y1 := hk2.free 1
  have y2 := hk2.free 2
  have yl := hk2.lt
  clear hk2
  unfold lnV
  obtain ⟨x, HX⟩ : ∃ x, Hid (showA (playedA ds).1 = x) := ⟨_, rfl⟩
  rw [HX.out] at HLN HP HCT ⊢
  go_wp2
  obtain ⟨W3, hW3⟩ : ∃ W3, ((w2.setCell ⟨w.heap.size, 0, none⟩ (.slice EA x.ends.length ce)).setCell ⟨w.heap.size, 1, none⟩ (.slice WA x.wire.length cw)).setCell ⟨w.heap.size, 2, none⟩ (.slice TA x.tales.length ct) = W3 := ⟨_, rfl⟩
  have HK3 : Hid (Blk W3 w.heap.size (.cells #[.slice EA x.ends.length ce, .slice WA x.wire.length cw, .slice TA x.tales.length ct] 28)) := by rw [← hW3]; exact ((HK2.out.set 0 _).set 1 _).set 2 _
  have HB3 : Hid (Below w.heap.size w W3) := by rw [← hW3]; exact ((HBW2.out.setCell (Nat.le_refl _) _).setCell (Nat.le_refl _) _).setCell (Nat.le_refl _) _
  have HF3 : Hid (Frame (fun b => b = w.heap.size) w2 W3) := by
   rw [← hW3]
   exact (((Frame.refl (fun b => b = w.heap.size) w2).setCell (p := ⟨w.heap.size, 0, none⟩) (.inl rfl) _).setCell (p := ⟨w.heap.size, 1, none⟩) (.inl rfl) _).setCell (p := ⟨w.heap.size, 2, none⟩) (.inl rfl) _
  rw [hW3]
  have c0 := HK3.out.cell 0 (v := .slice EA x.ends.length ce) rfl
  have c1 := HK3.out.cell 1 (v := .slice WA x.wire.length cw) rfl
  have c2 := HK3.out.cell 2 (v := .slice TA x.tales.length ct) rfl
  clear hW3 z0 z1 z2 y0 y1 y2 yl
  have hl : (loadVar 28 ⟨w.heap.size, 0, none⟩).run Tryd.prog W3 = .ok (.agg #[.slice EA x.ends.length ce, .slice WA x.wire.length cw, .slice TA x.tales.length ct]) W3 := by go_simp
  have hln3 := HLN.out.frame HF3.out (fun b e => by omega) (fun b cur hb e => by rw [e] at hb; exact blk_ne hb HK2.out (by decide) rfl) (fun b cur hb e => by rw [e] at hb; exact blk_ne hb HK2.out (by decide) rfl)
  refine bodyPost_ret (v := .tuple #[.agg #[.slice EA x.ends.length ce, .slice WA x.wire.length cw, .slice TA x.tales.length ct], .int .i64 0]) (results_ct rfl rfl rfl hl) rfl ⟨EA, ce, WA, cw, TA, ct, es, zs, by rw [HP.out]; rfl, by rw [HP.out]; exact hln3.mono (by omega), HB3.out, by rw [HP.out]; exact HCT.out⟩
end Go.Proofs.YtejabnoidhlfaaaDoor
