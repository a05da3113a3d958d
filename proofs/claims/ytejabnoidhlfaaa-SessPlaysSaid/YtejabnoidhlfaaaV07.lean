/- Contracts and lemmas that the claim uses. -/
import Derived.Test.YtejabnoidhlfaaaV06
set_option maxRecDepth 100000
set_option maxHeartbeats 16000000
namespace Go.Proofs.Ytejabnoidhlfaaa
open Go.RowKit Go.Maps
def bitAt (held : Int) (j : Nat) : Bool := decide (held / 2 ^ j % 2 = 1)
def ackTo (held : Int) (m : Nat) (l : List Ou) : Nat → List Ou
 | 0 => l
 | j + 1 => if bitAt held j = true ∧ 1 + j < m then setH (ackTo held m l j) (1 + j) true else ackTo held m l j
theorem ackTo_len (held : Int) (m : Nat) (l : List Ou) : ∀ j, (ackTo held m l j).length = l.length
 | 0 => rfl
 | j + 1 => by
  rw [ackTo]; split
  ·rw [setH_len, ackTo_len held m l j]
  ·exact ackTo_len held m l j
theorem ackTo_get (held : Int) (m : Nat) (l : List Ou) : ∀ (j i : Nat), (ackTo held m l j)[i]? = (l[i]?).map fun x => ⟨x.t, x.h || (decide (1 ≤ i) && decide (i ≤ j) && decide (i < m) && bitAt held (i - 1))⟩
 | 0, i => by
  have e : (decide (1 ≤ i) && decide (i ≤ 0)) = false := by
   cases i with
   | zero => rfl
   | succ i => simp
  rw [ackTo]; simp only [e, Bool.false_and, Bool.or_false]; cases l[i]? <;> rfl
 | j + 1, i => by
  have ih := ackTo_get held m l j i; rw [ackTo]; by_cases hc : bitAt held j = true ∧ 1 + j < m
  ·rw [if_pos hc, setH_get]; by_cases hi : i = 1 + j
   ·rw [if_pos hi, ih, Option.map_map]; congr 1; funext x; subst hi; simp only [Function.comp]; have e1 : bitAt held (1 + j - 1) = true := by rw [show 1 + j - 1 = j by omega]; exact hc.1
    rw [e1, decide_eq_true (show 1 ≤ 1 + j by omega), decide_eq_true (show 1 + j ≤ j + 1 by omega), decide_eq_true hc.2]; simp
   ·rw [if_neg hi, ih]; congr 1; funext x; have e1 : decide (i ≤ j) = decide (i ≤ j + 1) := by
     rw [decide_eq_decide]; omega
    rw [e1]
  ·rw [if_neg hc, ih]; congr 1; funext x; by_cases hi : i = j + 1
   ·subst hi; have e1 : (decide (j + 1 < m) && bitAt held (j + 1 - 1)) = false := by
     rw [show j + 1 - 1 = j by omega]; cases h1 : bitAt held j with
     | false => simp
     | true =>
      have : ¬ 1 + j < m := fun h => hc ⟨h1, h⟩; rw [decide_eq_false (by omega)]; rfl
    simp only [Bool.and_assoc, e1, Bool.and_false]
   ·have e1 : decide (i ≤ j) = decide (i ≤ j + 1) := by
     rw [decide_eq_decide]; omega
    rw [e1]
def ackFin (held : Int) (m : Nat) (l : List Ou) : List Ou := if 0 < l.length then setH (ackTo held m l 3) 0 false else ackTo held m l 3
theorem ackFin_mark (held : Int) (m : Nat) (l : List Ou) : ackFin held m l = markA held m 0 l := by
 apply List.ext_getElem?; intro i; rw [markA_get, Nat.zero_add]; unfold ackFin; by_cases h0 : 0 < l.length
 ·rw [if_pos h0, setH_get, ackTo_get]; by_cases hi : i = 0
  ·rw [if_pos hi, Option.map_map]; congr 1; funext x; simp [hi]
  ·rw [if_neg hi]; congr 1; funext x; rw [if_neg hi, decide_eq_true (show 1 ≤ i by omega)]; unfold bitAt; simp only [Bool.true_and]; congr 2; rw [Bool.and_comm (decide (i ≤ 3))]
 ·rw [if_neg h0]; have : l = [] := List.eq_nil_of_length_eq_zero (by omega); subst this; rw [ackTo_get]; rfl
theorem bit_all : ((List.range 8).all fun h => (List.range 3).all fun j => (bits BinOp.and .i64 ((h : Int) / 2 ^ j) 1 == 1) == bitAt (h : Int) j) = true := by kernel_rfl
theorem bit_is {held : Int} {k : Nat} (h : 0 ≤ held ∧ held ≤ 7) (hk : k < 3) : (bits BinOp.and .i64 (held / 2 ^ k) 1 == 1) = bitAt held k := by
 obtain ⟨x, rfl⟩ := Int.eq_ofNat_of_zero_le h.1; have h1 := List.all_eq_true.1 bit_all x (List.mem_range.2 (by omega)); have h2 := List.all_eq_true.1 h1 k (List.mem_range.2 hk); simpa using h2
theorem acked_yes (B bx bm : Nat) (e : En) (A : Option Addr) (c : Nat) (vi : Value) (p : Pk) (n : Nat) (w : World) (h : Xs w bx bm e A c vi) (hr : RowAt w B A e.out) (hg : GoodP e) (hn : n ≤ flyN e) (hheld : 0 ≤ p.held ∧ p.held ≤ 7) (hb1 : B ≤ bx) (hBw : B ≤ w.heap.size) (hc1 : ¬ p.ack < e.base) (hc2 : ¬ e.base + n < p.ack) :
  Calls Try.prog 55 #[.pointer (some ⟨bx, 0, none⟩), pkV p, .int .i64 n] w fun r w' => r = .returned (.int .i64 (goneA e p n)) ∧ ∃ A' c', Xs w' bx bm (ackedA e p n) A' c' vi ∧ RowAt w' B A' (ackedA e p n).out ∧ Below B w w' ∧ Frame (fun b => b = bx ∨ ∃ cur, Blk w b (.cells cur 71)) w w' := by
 have hw := hg.want; have hbs := hg.base; have hrm := hg.room; have hlen := hg.len; have hfl := fly_le e; unfold most at hw hrm; obtain ⟨g, hgn⟩ : ∃ g : Nat, p.ack = e.base + g := ⟨(p.ack - e.base).toNat, by omega⟩; have hgn1 : g ≤ n := by omega
 have HAK : Hid (ackedA e p n = { e with out := markA p.held (n - g) 0 (e.out.drop g), base := p.ack }) := by
  show _ = _; unfold ackedA; rw [if_neg (by omega)]; have : (p.ack - e.base).toNat = g := by omega
  simp only [this]
 have HGO : Hid (goneA e p n = g) := by
  show _ = _; unfold goneA; rw [if_neg (by omega)]; omega
 have HX := Lib.hid h; have hcap := h.cap; have HR := Lib.hid hr; have HB0 : Hid (Below w.heap.size w (w.alloc (.cells #[.int .i64 p.kind, .int .i64 p.frm, .int .i64 p.to, .int .i64 p.num, .string p.t, .int .i64 p.ack, .int .i64 p.held] 44))) := (Below.refl _ w).alloc (Nat.le_refl _) _; have hX1 := h.below HB0.out; have hb4 := Blk.new w (.cells #[.int .i64 p.kind, .int .i64 p.frm, .int .i64 p.to, .int .i64 p.num, .string p.t, .int .i64 p.ack, .int .i64 p.held] 44); obtain ⟨W, hW⟩ : ∃ W, w.alloc (.cells #[.int .i64 p.kind, .int .i64 p.frm, .int .i64 p.to, .int .i64 p.num, .string p.t, .int .i64 p.ack, .int .i64 p.held] 44) = W := ⟨_, rfl⟩; rw [hW] at HB0 hX1 hb4; have HX1 := Lib.hid hX1; have HB4 := Lib.hid hb4; have x3 := hX1.box.cell 3 (v := .int .i64 e.base) rfl; have x4 := hX1.box.cell 4 (v := .slice A e.out.length c) rfl; have y3 := hX1.box.free 3; have y4 := hX1.box.free 4; have xl := hX1.box.lt; have p5 := hb4.cell 5 (v := .int .i64 p.ack) rfl; have p6 := hb4.cell 6 (v := .int .i64 p.held) rfl; have pl := hb4.lt; have hbxw := h.box.lt; have q1 : decide (p.ack < e.base) = false := decide_eq_false hc1; have q2 : decide (e.base + (n : Int) < p.ack) = false := decide_eq_false hc2; have hw1 : IntKind.i64.wrap (e.base + (n : Int)) = e.base + n := wrap_ok ⟨by omega, by omega⟩; have hw2 : IntKind.i64.wrap (p.ack - e.base) = (g : Int) := by rw [hgn, show e.base + (g : Int) - e.base = g by omega]; exact wrap_ok ⟨by omega, by omega⟩
 have hcut := cut_run (A := A) (n := e.out.length) (c := c) (g := g) (by omega) hcap; have HGN := Lib.hid hgn; unfold pkV; clear h hr hg hX1 hb4 hc1 hc2 hgn; go_enter Try.func55, Try.ntmps55
 go_wp2; refine sall (by kernel_rfl) (by kernel_rfl) (fun Kq hKq => ?_); repeat still_step
 refine wpStill_nil (hKq _ ?_); clear hKq Kq; go_wp2; refine sall (by kernel_rfl) (by kernel_rfl) (fun Kq hKq => ?_); repeat still_step
 refine wpStill_nil (hKq _ ?_); clear hKq Kq; go_wp2; have hnb : ¬ w.heap.size = bx := by omega
 refine draw (fun w' => Frame (fun b => b = bx) W w') 19 rfl (by kernel_rfl) (fun Qd hQd => ?_); iterate 9 (first | apply sI 0 (by rfl) rfl (by kernel_rfl) | apply sI 1 (by rfl) rfl (by kernel_rfl) | apply sI 2 (by rfl) rfl (by kernel_rfl) | apply sI 7 (by rfl) rfl (by kernel_rfl) | apply sI 9 (by rfl) rfl (by kernel_rfl) | apply sI 3 (by rfl) rfl (by kernel_rfl) | apply sI 10 (by rfl) rfl (by kernel_rfl) | apply sI 4 (by rfl) rfl (by kernel_rfl) | apply sI 5 (by rfl) rfl (by kernel_rfl)); (focus intro wI hI Kv hKv; have t5 := cell_frame hI pl hnb p5; go_simp; exact hKv); intro Kd hKd; go_simp; refine hKd _ ?_; clear hKd Kd
 refine anyI_one' 6 rfl (by kernel_rfl) ((Frame.refl (fun b => b = bx) W).drew.drew.drew) (fun Kd hKd => ?_); go_wp2; iterate 4 (first | apply sI 8 (by rfl) rfl (by kernel_rfl) | apply sI 11 (by rfl) rfl (by kernel_rfl) | apply sI 12 (by rfl) rfl (by kernel_rfl) | apply sI 13 (by rfl) rfl (by kernel_rfl)); (focus intro wI hI Kv hKv; go_simp; exact hKv); intro Kd hKd; go_simp; refine hKd _ ?_; clear hKd Kd
 refine anyI_one' 14 rfl (by kernel_rfl) ((Frame.refl (fun b => b = bx) W).drew.drew.drew) (fun Kd hKd => ?_); go_wp2; have F1 := (Frame.refl (fun b => b = bx) W).setCell (p := ⟨bx, 4, none⟩) (.inl rfl) (.slice (cutA A c g) (e.out.length - g) (c - g)); iterate 3 (first | apply sI 15 (by rfl) rfl (by kernel_rfl) | apply sI 16 (by rfl) rfl (by kernel_rfl) | apply sI 17 (by rfl) rfl (by kernel_rfl)); (focus intro wI hI Kv hKv; go_simp; exact hKv); intro Kd hKd; go_simp; refine hKd _ ?_; clear hKd Kd
 refine anyI_one' 18 rfl (by kernel_rfl) (F1.drew.drew.drew) (fun Kd hKd => ?_); go_wp2; have F2 := F1.setCell (p := ⟨bx, 3, none⟩) (.inl rfl) (.int .i64 p.ack); refine anyI_end (by kernel_rfl) (F2.drew.drew.drew) (hQd _ _ ?_); clear hQd Qd; obtain ⟨V, hV⟩ : ∃ V, ((W.setCell ⟨bx, 4, none⟩ (.slice (cutA A c g) (e.out.length - g) (c - g))).setCell ⟨bx, 3, none⟩ (.int .i64 p.ack)).drew.drew.drew = V := ⟨_, rfl⟩; rw [hV]; have hFV : Frame (fun b => b = bx) W V := by rw [← hV]; exact F2.drew.drew.drew
 obtain ⟨l0, hl0⟩ : ∃ l0, e.out.drop g = l0 := ⟨_, rfl⟩; have hl0n : l0.length = e.out.length - g := by rw [← hl0]; simp
 have hbV : Blk V bx (.cells #[.int .i64 e.life, .int .i64 e.peer, .int .i64 e.phase, .int .i64 p.ack, .slice (cutA A c g) l0.length (c - g), .int .i64 e.want, vi, .map (some bm)] 84) := by
  rw [← hV, hl0n]; exact ((HX1.out.box.set 4 _).set 3 _).drew.drew.drew
 have hmx := HX1.out.map.not_blk HX1.out.box; have hoV : Cells V (cutA A c g) (ous l0) := by
  rw [← hl0]; exact cut_cells (HX1.out.out.frame hFV (fun hn a ha e2 => by
   obtain ⟨b, off, cur, hA, hb, hk⟩ := HR.out (by rintro h0; exact hn (by rw [h0]; rfl)); rw [hA] at ha; injection ha with ha; rw [← ha] at e2; exact blk_ne hk HX.out.box (by decide) e2)) (by omega) hcap
 have hrV : RowAt V B (cutA A c g) l0 := by
  rw [← hl0]; refine cut_row (fun hn => ?_) hcap; obtain ⟨b, off, cur, hA, hb, hk⟩ := HR.out hn; exact ⟨b, off, cur, hA, hb, (hk.below HB0.out hk.lt).frame hFV (fun e2 => blk_ne hk HX.out.box (by decide) e2)⟩
 have HBV := Lib.hid hbV; have HOV := Lib.hid hoV; have HRV := Lib.hid hrV; have HFV := Lib.hid hFV; have HMV := Lib.hid (HX1.out.map.frame hFV hmx); have HB4V := Lib.hid (HB4.out.frame hFV hnb); have HL0 := Lib.hid hl0; have hm : g ≤ n := hgn1; rw [← hl0n]; have hl0s : l0.length + g = e.out.length := by omega
 clear hl0n x3 x4 y3 y4 xl p5 p6 pl q1 q2 hw1 hcut F1 F2 hV hFV hbV hoV hrV hl0; go_wp2; go_loopw [54] (fun i wr => ∃ k : Nat, k ≤ 3 ∧ i = .int .i64 k ∧ Blk wr bx (.cells #[.int .i64 e.life, .int .i64 e.peer, .int .i64 e.phase, .int .i64 p.ack, .slice (cutA A c g) l0.length (c - g), .int .i64 e.want, vi, .map (some bm)] 84) ∧
   Cells wr (cutA A c g) (ous (ackTo p.held (n - g) l0 k)) ∧ RowAt wr B (cutA A c g) (ackTo p.held (n - g) l0 k) ∧ Frame (fun b => B ≤ b ∧ ∃ cur, Blk V b (.cells cur 71)) V wr) (fun i _ => 3 - (intOf i).toNat)
 case atStart => exact ⟨0, by omega, rfl, HBV.out, HOV.out, HRV.out, Frame.refl _ _⟩
 case round =>
  obtain ⟨k, hk, hik, hbx, hou, hro, hF⟩ := hrel; have HBX := Lib.hid hbx; have HOU := Lib.hid hou; have HRO := Lib.hid hro; have HF := Lib.hid hF; have hsz := hF.size; have hal := ackTo_len p.held (n - g) l0 k; have hb4 := HB4V.out.frame hF (fun ⟨_, cur, hcur⟩ => blk_ne HB4V.out hcur (by decide) rfl); have p6 := hb4.cell 6 (v := .int .i64 p.held) rfl; have pl := hb4.lt; have x4 := hbx.cell 4 (v := .slice (cutA A c g) l0.length (c - g)) rfl; have xl := hbx.lt; clear hbx hou hro hF hb4; by_cases hlt : k < 3
  ·obtain ⟨jj, hjj⟩ : ∃ jj : Int, (k : Int) = jj := ⟨_, rfl⟩; rw [hjj] at hik; subst hik; have hj3 : jj < 3 := by omega
   have hj0 : 0 ≤ jj := by omega
   have HJ := Lib.hid hjj; have hjn : jj.toNat = k := by omega
   obtain ⟨b1, hb1'⟩ : ∃ b, bitAt p.held k = b := ⟨_, rfl⟩; have hbit : (bits BinOp.and .i64 (p.held / 2 ^ jj.toNat) 1 == 1) = b1 := by rw [hjn, bit_is hheld hlt, hb1']
   have hwj : IntKind.i64.wrap (1 + jj) = 1 + jj := wrap_ok ⟨by omega, by omega⟩; have hwg : IntKind.i64.wrap ((n : Int) - (g : Int)) = (n : Int) - g := wrap_ok ⟨by omega, by omega⟩; have HB1' := Lib.hid hb1'; clear hjj hjn hb1'; cases b1 with
   | false =>
    have HST : Hid (ackTo p.held (n - g) l0 (k + 1) = ackTo p.held (n - g) l0 k) := by
     show _ = _; rw [ackTo, if_neg]; rw [HB1'.out]; simp
    go_wp2; go_roundw
    case rel => exact ⟨k + 1, by omega, by (rw [← HJ.out]; go_num), HBX.out, by rw [HST.out]; exact HOU.out, by rw [HST.out]; exact HRO.out, HF.out⟩
    case measure => simp [intOf]; omega
   | true =>
    by_cases g1 : 1 + jj < (n : Int) - (g : Int); rotate_left
    ·have q1 : decide (1 + jj < (n : Int) - (g : Int)) = false := decide_eq_false g1; have HST : Hid (ackTo p.held (n - g) l0 (k + 1) = ackTo p.held (n - g) l0 k) := by
      show _ = _; rw [ackTo, if_neg]; rintro ⟨_, h2⟩; have := HJ.out; omega
     go_wp2; go_roundw
     case rel => exact ⟨k + 1, by omega, by (rw [← HJ.out]; go_num), HBX.out, by rw [HST.out]; exact HOU.out, by rw [HST.out]; exact HRO.out, HF.out⟩
     case measure => simp [intOf]; omega
    have HST : Hid (ackTo p.held (n - g) l0 (k + 1) = setH (ackTo p.held (n - g) l0 k) (1 + k) true) := by
     show _ = _; rw [ackTo, if_pos]; have := HJ.out; exact ⟨HB1'.out, by omega⟩
    have hk1 : 1 + k < (ackTo p.held (n - g) l0 k).length := by have := HJ.out; rw [hal]; omega
    obtain ⟨x, b, o, cur, hx, hb, hBb, hbk, hix, hcx, hfx, hcs, hrs⟩ := ou_store (c := c - g) HOU.out HRO.out hk1 true; rw [hal] at hix; have hix' : ∀ w', (Instr.indexAt 23 (.slice (cutA A c g) l0.length (c - g)) (.int .i64 (1 + jj))).run Try.prog w' = .ok (.pointer (some ⟨b, o, none⟩)) w' := by
     have e1 : ((1 + k : Nat) : Int) = 1 + jj := by have := HJ.out; push_cast; omega
     rw [← e1]; exact hix
    have HCS := Lib.hid hcs; have HRS := Lib.hid hrs; have HBK := Lib.hid hbk; have hnx : bx ≠ b := fun e2 => by
     rw [← e2] at hbk; exact blk_ne hbk HBX.out (by decide) rfl
    clear hx hix hcs hrs hbk hk1; go_wp2; go_roundw
    case rel =>
     refine ⟨k + 1, by omega, by (rw [← HJ.out]; go_num), HBX.out.far hnx _, by rw [HST.out]; exact HCS.out, by rw [HST.out]; exact HRS.out, HF.out.setCell (p := ⟨b, o + 1, none⟩) ?_ _⟩; rcases Nat.lt_or_ge b V.heap.size with hlt2 | hge
     ·refine .inl ⟨hBb, ?_⟩; by_cases hs : ∃ cur, Blk V b (.cells cur 71)
      ·exact hs
      ·have h1 := HF.out.block b hlt2 (fun h => hs h.2); exact ⟨cur, h1.symm.trans HBK.out⟩
     ·exact .inr hge
    case measure => simp [intOf]; omega
  ·obtain rfl : k = 3 := by omega
   subst hik; have HFIN : Hid (markA p.held (n - g) 0 l0 = ackFin p.held (n - g) l0) := (ackFin_mark _ _ _).symm; have hBV : Below B w V := (HB0.out.mono hBw).trans (HFV.out.below (B := B) (fun b e => by omega) (by have := HB0.out.size; omega)); have hFw : ∀ w', Frame (fun b => B ≤ b ∧ ∃ cur, Blk V b (.cells cur 71)) V w' → Frame (fun b => b = bx ∨ ∃ cur, Blk w b (.cells cur 71)) w w' := fun w' hf =>
    ((Frame.of_all (S := fun b => b = bx ∨ ∃ cur, Blk w b (.cells cur 71)) HB0.out).trans HFV.out (fun b _ e => .inl e)).trans hf (fun b hb ⟨_, cur, hc⟩ => by
     by_cases hbb : b = bx
     ·exact .inl hbb
     ·refine .inr ⟨cur, ?_⟩; have h1 : W.heap[b]? = w.heap[b]? := HB0.out.block b hb; have h2 : V.heap[b]? = W.heap[b]? := HFV.out.block b (by have := HB0.out.size; omega) hbb; exact (h1.symm.trans h2.symm).trans hc)
   have HFW := Lib.hid hFw; have HBV' := Lib.hid hBV; have hsV := hBV.size; have HMF := Lib.hid (HMV.out.frame HF.out (fun ⟨_, cur, hcur⟩ => HMV.out.not_blk hcur rfl)); have hml : (markA p.held (n - g) 0 l0).length = l0.length := markA_len _ _ _ _; have HML := Lib.hid hml; have hcap' : l0.length ≤ c - g := by omega
   clear hFw hBV hml; by_cases hpos : 0 < l0.length
   ·have q0 : (0 : Int) < (l0.length : Int) := by omega
    have hk1 : 0 < (ackTo p.held (n - g) l0 3).length := by rw [hal]; exact hpos
    obtain ⟨x, b, o, cur, hx, hb, hBb, hbk, hix, hcx, hfx, hcs, hrs⟩ := ou_store (c := c - g) HOU.out HRO.out hk1 false; rw [hal] at hix; have hix' : ∀ w', (Instr.indexAt 23 (.slice (cutA A c g) l0.length (c - g)) (.int .i64 0)).run Try.prog w' = .ok (.pointer (some ⟨b, o, none⟩)) w' := hix; have HST : Hid (ackFin p.held (n - g) l0 = setH (ackTo p.held (n - g) l0 3) 0 false) := by show _ = _; unfold ackFin; rw [if_pos hpos]
    have HCS := Lib.hid hcs; have HRS := Lib.hid hrs; have HBK := Lib.hid hbk; have hnx : bx ≠ b := fun e2 => by
     rw [← e2] at hbk; exact blk_ne hbk HBX.out (by decide) rfl
    have HF3 : Hid (Frame (fun b => B ≤ b ∧ ∃ cur, Blk V b (.cells cur 71)) V (wr.setCell ⟨b, o + 1, none⟩ (.bool false))) := by
     refine HF.out.setCell (p := ⟨b, o + 1, none⟩) ?_ _; rcases Nat.lt_or_ge b V.heap.size with hlt2 | hge
     ·refine .inl ⟨hBb, ?_⟩; by_cases hs : ∃ cur, Blk V b (.cells cur 71)
      ·exact hs
      ·have h1 := HF.out.block b hlt2 (fun h => hs h.2); exact ⟨cur, h1.symm.trans HBK.out⟩
     ·exact .inr hge
    have hmb : bm ≠ b := fun e2 => by
     rw [← e2] at hbk; exact HMF.out.not_blk hbk rfl
    clear hx hix hcs hrs hbk hk1 hpos; go_wp2; go_ret; refine ⟨by rw [HGO.out]; rfl, cutA A c g, c - g, ?_, ?_, HBV'.out.trans (HF3.out.below (B := B) (fun b e => e.1) (by omega)), HFW.out _ HF3.out⟩
    ·rw [HAK.out, HL0.out]; refine ⟨?_, ?_, HMF.out.frame ((Frame.refl (fun y => y = b) wr).setCell (p := ⟨b, o + 1, none⟩) (.inl rfl) _) hmb, ?_, cut_nil HX.out.nil⟩
     ·show Blk _ _ _; simp only [HML.out]; exact HBX.out.far hnx _
     ·show Cells _ _ _; simp only; rw [HFIN.out, HST.out]; exact HCS.out
     ·show (markA _ _ _ _).length ≤ _; rw [HML.out]; exact hcap'
    ·rw [HAK.out, HL0.out]; show RowAt _ _ _ _; simp only; rw [HFIN.out, HST.out]; exact HRS.out
   ·have q0 : decide ((0 : Int) < (l0.length : Int)) = false := decide_eq_false (by omega); have HST : Hid (ackFin p.held (n - g) l0 = ackTo p.held (n - g) l0 3) := by show _ = _; unfold ackFin; rw [if_neg hpos]
    have HNIL : Hid (l0 = []) := List.eq_nil_of_length_eq_zero (by omega); have hp3 : l0.length = 0 := by omega
    clear hpos q0; go_wp2; go_ret; refine ⟨by rw [HGO.out]; rfl, cutA A c g, c - g, ?_, ?_, HBV'.out.trans (HF.out.below (B := B) (fun b e => e.1) (by omega)), HFW.out _ HF.out⟩
    ·rw [HAK.out, HL0.out]; refine ⟨?_, ?_, HMF.out, ?_, cut_nil HX.out.nil⟩
     ·show Blk _ _ _; simp only [HML.out]; exact HBX.out
     ·show Cells _ _ _; simp only; rw [HFIN.out, HST.out]; exact HOU.out
     ·show (markA _ _ _ _).length ≤ _; rw [HML.out]; exact hcap'
    ·rw [HAK.out, HL0.out]; show RowAt _ _ _ _; simp only; rw [HFIN.out, HST.out]; exact HRO.out
theorem acked_no (B bx bm : Nat) (e : En) (A : Option Addr) (c : Nat) (vi : Value) (p : Pk) (n : Nat) (w : World) (h : Xs w bx bm e A c vi) (hr : RowAt w B A e.out) (hg : GoodP e) (hn : n ≤ flyN e) (hBw : B ≤ w.heap.size) (hno : p.ack < e.base ∨ e.base + n < p.ack) :
  Calls Try.prog 55 #[.pointer (some ⟨bx, 0, none⟩), pkV p, .int .i64 n] w fun r w' => r = .returned (.int .i64 (goneA e p n)) ∧ ∃ A' c', Xs w' bx bm (ackedA e p n) A' c' vi ∧ RowAt w' B A' (ackedA e p n).out ∧ Below B w w' ∧ Frame (fun b => b = bx ∨ ∃ cur, Blk w b (.cells cur 71)) w w' := by
 have hbs := hg.base; have hrm := hg.room; have hlen := hg.len; have hfl := fly_le e; unfold most at hrm; have HAK : Hid (ackedA e p n = e) := by show _ = _; unfold ackedA; rw [if_pos hno]
 have HGO : Hid (goneA e p n = 0) := by show _ = _; unfold goneA; rw [if_pos hno]
 have HB0 : Hid (Below w.heap.size w (w.alloc (.cells #[.int .i64 p.kind, .int .i64 p.frm, .int .i64 p.to, .int .i64 p.num, .string p.t, .int .i64 p.ack, .int .i64 p.held] 44))) := (Below.refl _ w).alloc (Nat.le_refl _) _; have hX1 := h.below HB0.out; have hb4 := Blk.new w (.cells #[.int .i64 p.kind, .int .i64 p.frm, .int .i64 p.to, .int .i64 p.num, .string p.t, .int .i64 p.ack, .int .i64 p.held] 44); have hr1 : RowAt (w.alloc (.cells #[.int .i64 p.kind, .int .i64 p.frm, .int .i64 p.to, .int .i64 p.num, .string p.t, .int .i64 p.ack, .int .i64 p.held] 44)) B A e.out := fun hn => by
  obtain ⟨b, off, cur, h1, h2, h3⟩ := hr hn; exact ⟨b, off, cur, h1, h2, h3.alloc _⟩
 obtain ⟨W, hW⟩ : ∃ W, w.alloc (.cells #[.int .i64 p.kind, .int .i64 p.frm, .int .i64 p.to, .int .i64 p.num, .string p.t, .int .i64 p.ack, .int .i64 p.held] 44) = W := ⟨_, rfl⟩; rw [hW] at HB0 hX1 hb4 hr1; have HX1 := Lib.hid hX1; have HR1 := Lib.hid hr1; have x3 := hX1.box.cell 3 (v := .int .i64 e.base) rfl; have xl := hX1.box.lt; have p5 := hb4.cell 5 (v := .int .i64 p.ack) rfl; have pl := hb4.lt; have hw1 : IntKind.i64.wrap (e.base + (n : Int)) = e.base + n := wrap_ok ⟨by omega, by omega⟩; unfold pkV; clear h hr hg hX1 hb4 hr1; by_cases g1 : p.ack < e.base
 ·skip
  go_enter Try.func55, Try.ntmps55
  go_wp2; refine sall (by kernel_rfl) (by kernel_rfl) (fun Kq hKq => hs_go ?_); repeat (first | (refine hs_on rfl (fun K hK => ?_); go_simp; refine hK.out _ ?_; clear hK K) | (refine hs_off rfl ?_; go_simp))
  refine hs_nil (hKq _ ?_); clear hKq Kq; go_wp2; go_ret; exact ⟨by rw [HGO.out]; rfl, A, c, by rw [HAK.out]; exact HX1.out.drew, by rw [HAK.out]; exact HR1.out, (HB0.out.mono hBw).drew, (Frame.of_all HB0.out).drew⟩
 ·have q1 : decide (p.ack < e.base) = false := decide_eq_false g1; have g2 : e.base + (n : Int) < p.ack := by omega
  go_enter Try.func55, Try.ntmps55
  go_wp2; refine sall (by kernel_rfl) (by kernel_rfl) (fun Kq hKq => hs_go ?_); repeat (first | (refine hs_on rfl (fun K hK => ?_); go_simp; refine hK.out _ ?_; clear hK K) | (refine hs_off rfl ?_; go_simp))
  refine hs_nil (hKq _ ?_); clear hKq Kq; go_wp2; go_ret; exact ⟨by rw [HGO.out]; rfl, A, c, by rw [HAK.out]; exact HX1.out.drew, by rw [HAK.out]; exact HR1.out, (HB0.out.mono hBw).drew, (Frame.of_all HB0.out).drew⟩
theorem acked_any (B bx bm : Nat) (e : En) (A : Option Addr) (c : Nat) (vi : Value) (p : Pk) (n : Nat) (w : World) (h : Xs w bx bm e A c vi) (hr : RowAt w B A e.out) (hg : GoodP e) (hn : n ≤ flyN e) (hheld : 0 ≤ p.held ∧ p.held ≤ 7) (hb1 : B ≤ bx) (hBw : B ≤ w.heap.size) :
  Calls Try.prog 55 #[.pointer (some ⟨bx, 0, none⟩), pkV p, .int .i64 n] w fun r w' => r = .returned (.int .i64 (goneA e p n)) ∧ ∃ A' c', Xs w' bx bm (ackedA e p n) A' c' vi ∧ RowAt w' B A' (ackedA e p n).out ∧ Below B w w' ∧ Frame (fun b => b = bx ∨ ∃ cur, Blk w b (.cells cur 71)) w w' := by
 by_cases h1 : p.ack < e.base
 ·exact acked_no B bx bm e A c vi p n w h hr hg hn hBw (.inl h1)
 ·by_cases h2 : e.base + n < p.ack
  ·exact acked_no B bx bm e A c vi p n w h hr hg hn hBw (.inr h2)
  ·exact acked_yes B bx bm e A c vi p n w h hr hg hn hheld hb1 hBw h1 h2
theorem text_any (t : ByteArray) (h : Bool) (w : World) : Calls Try.prog 75 #[.agg #[.string t, .bool h]] w fun r w' => r = .returned (.string t) ∧ Below w.heap.size w w' := by
 go_enter Try.func75, Try.ntmps75
 go_wp2; go_ret; exact ⟨rfl, (Below.refl _ _).alloc (Nat.le_refl _) _⟩
theorem each_text (L : Option Addr) (d : Nat) (l : List Ou) (w : World) (hL : Cells w L (ous l)) (hl : l.length ≤ 1000) :
  Calls Try.prog 76 #[.slice L l.length d, .func (.func 75) #[] #[]] w fun r w' => ∃ v, r = .returned v ∧ w'.ownsRow w.heap.size 9 1 v l.length (strs (l.map (·.t))) ∧ Below w.heap.size w w' := by
 have HL := Lib.hid hL; clear hL; go_enter Try.func76, Try.ntmps76
 go_wp2; go_loopw [5, 10] (fun vo i wr => ∃ k : Nat, k ≤ l.length ∧ i = .int .i64 k ∧ wr.ownsRow w.heap.size 9 1 vo k (strs ((l.take k).map (·.t))) ∧ Below w.heap.size w wr) (fun _ i _ => l.length - (intOf i).toNat)
 case atStart => exact ⟨0, Nat.zero_le _, rfl, World.ownsRow_nil _ _ _ _, Below.refl _ _⟩
 case round =>
  obtain ⟨k, hk, rfl, hown, hB⟩ := hrel; have HO := Lib.hid hown; have HB := Lib.hid hB; have hsr := hB.size; clear hown hB; by_cases hlt : k < l.length
  ·obtain ⟨x, b, o, hx, hbx, hix, hc0, hc1⟩ := ou_at (c := d) (HL.out.below HB.out (Nat.le_refl _)) hlt; have HT : Hid (strs ((l.take (k + 1)).map (·.t)) = strs ((l.take k).map (·.t)) ++ [.string x.t]) := by
    show _ = _; rw [take_succ_of hx, List.map_append, List.map_cons, List.map_nil, strs_snoc]
   obtain ⟨xt, xh⟩ := x; have hBX : Below wr.heap.size wr (wr.alloc (.cells #[.string xt, .bool xh] 71)) := (Below.refl _ wr).alloc (Nat.le_refl _) _; have HBX := Lib.hid hBX; have HOX := Lib.hid (own_frame HO.out (Frame.of_all (S := fun _ => False) hBX) (fun _ _ h => h)); clear hx hBX; simp only at hc0 hc1 HT; go_wp2_with (first
    | (go_at_call 75; go_must (refine (text_any xt xh _).mono ?_); rintro r w1 ⟨rfl, hB1⟩; have HB1 := Lib.hid hB1; have HO1 := Lib.hid (own_frame HOX.out (Frame.of_all (S := fun _ => False) hB1) (fun _ _ h => h)); have hs1 := hB1.size; have hs0 := HBX.out.size; clear hB1)
    | (at_builtin; go_must (refine wpList_app1' rSt _ rfl _ _ rfl HO1.out rfl [_] 1 rfl rfl (by simp [Value.oneCell']) (by omega) (by omega) ?_); intro v' w2 hown2 hB2 hg2 hloc2))
   go_roundw
   case rel =>
    refine ⟨k + 1, by omega, by go_num, by rw [HT.out]; exact hown2, ((HB.out.trans (HBX.out.mono (by omega))).trans (HB1.out.mono (by omega))).trans hB2⟩
   case measure => simp [intOf]; omega
  ·obtain rfl : k = l.length := by omega
   go_wp2; go_ret; have ho := HO.out; rw [List.take_length] at ho; exact ⟨_, rfl, ho, HB.out⟩
theorem sent_any (bx bm : Nat) (e : En) (A : Option Addr) (c : Nat) (vi : Value) (w : World) (h : Xs w bx bm e A c vi) (_hA0 : A = none → e.out.length = 0) (hl : e.out.length ≤ 1000) :
  Calls Try.prog 41 #[.pointer (some ⟨bx, 0, none⟩)] w fun r w' => (∃ A', r = .returned (.slice A' (flyN e) (flyN e)) ∧ Cells w A' (ous (e.out.take (flyN e)))) ∧ w = w' := by
 have HX := Lib.hid h; have c2 := h.box.cell 2 (v := .int .i64 e.phase) rfl; have c4 := h.box.cell 4 (v := .slice A e.out.length c) rfl; have lb := h.box.lt; have hcap := h.cap; cases hp : (e.phase != 3) with
 | true =>
  have HF : Hid (flyN e = 0) := by show _ = _; unfold flyN; rw [if_neg (by simpa using hp)]
  clear h; go_enter Try.func41, Try.ntmps41
  go_wp2; go_ret; exact ⟨⟨none, by rw [HF.out]; rfl, by rw [HF.out]; exact Cells.nil _ _⟩, rfl⟩
 | false =>
  have hp3 : e.phase = 3 := by simpa using hp
  have HF : Hid (flyN e = min e.out.length 4) := by show _ = _; unfold flyN; rw [if_pos hp3]
  have htk : ∀ k : Nat, k ≤ e.out.length → Cells w A (ous (e.out.take k)) := fun k hk => by
   obtain ⟨hcl, b, off, hb0, hA, hc⟩ := h.out; have hpre : ous (e.out.take k) = (ous e.out).take (k * 2) := by
    have e1 : ous e.out = ous (e.out.take k) ++ ous (e.out.drop k) := by unfold ous; rw [← List.flatMap_append, List.take_append_drop]
    rw [e1, List.take_left' (by rw [ous_len, List.length_take]; omega)]
   refine ⟨by rw [hpre, List.length_take]; omega, b, off, hb0, fun hn => hA (fun h0 => hn (by rw [hpre, h0]; simp)), fun j v hj => hc j v ?_⟩; rw [hpre, List.getElem?_take] at hj; split at hj
   ·exact hj
   ·cases hj
  have HTK := Lib.hid htk; clear h htk; by_cases h4 : 4 < e.out.length
  ·have HF' : Hid (flyN e = 4) := by show _ = _; rw [HF.out]; omega
   have q1 : (4 : Int) < (e.out.length : Int) := by omega
   have q2 : ¬ ((e.out.length : Int) < 4) := by omega
   go_enter Try.func41, Try.ntmps41
   go_wp2; go_ret; exact ⟨⟨A, by rw [HF'.out]; rfl, by rw [HF'.out]; exact HTK.out 4 (by omega)⟩, rfl⟩
  ·have HF' : Hid (flyN e = e.out.length) := by show _ = _; rw [HF.out]; omega
   have q1 : ¬ (4 : Int) < (e.out.length : Int) := by omega
   have HTK' : Hid (Cells w A (ous (e.out.take e.out.length))) := HTK.out _ (Nat.le_refl _); by_cases h5 : (e.out.length : Int) < 4
   ·go_enter Try.func41, Try.ntmps41
    go_wp2; go_ret; exact ⟨⟨A, by rw [HF'.out]; rfl, by rw [HF'.out]; exact HTK'.out⟩, rfl⟩
   ·have h6 : e.out.length = 4 := by omega
    have HTK4 : Hid (Cells w A (ous (e.out.take 4))) := HTK.out _ (by omega); have HF4 : Hid (flyN e = 4) := by show _ = _; rw [HF'.out, h6]
    clear HTK HTK' HF' HF q1 h4 h5; go_enter Try.func41, Try.ntmps41
    go_wp2; go_ret; exact ⟨⟨A, by rw [HF4.out]; rfl, by rw [HF4.out]; exact HTK4.out⟩, rfl⟩
end Go.Proofs.Ytejabnoidhlfaaa
