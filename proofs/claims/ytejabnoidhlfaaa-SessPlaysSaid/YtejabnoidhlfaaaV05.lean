/- Contracts and lemmas that the claim uses. -/
import Derived.Test.YtejabnoidhlfaaaV04
set_option maxRecDepth 100000
set_option maxHeartbeats 16000000
namespace Go.Proofs.Ytejabnoidhlfaaa
open Go.RowKit Go.Maps
def bitsTo (e : En) : Nat → Int
 | 0 => 0
 | k + 1 => bitsTo e k + (if (getN e.inn (e.want + 1 + k)).isSome then 2 ^ k else 0)
theorem bitsTo_3 (e : En) : bitsTo e 3 = bitsA e := by
 rw [bits_get]; simp only [bitsTo]; have e1 : e.want + 1 + ((0 : Nat) : Int) = e.want + 1 := by omega
 have e2 : e.want + 1 + ((1 : Nat) : Int) = e.want + 2 := by omega
 have e3 : e.want + 1 + ((2 : Nat) : Int) = e.want + 3 := by omega
 rw [e1, e2, e3]; simp
theorem bitsTo_bd (e : En) : ∀ k : Nat, 0 ≤ bitsTo e k ∧ bitsTo e k < 2 ^ k
 | 0 => by simp [bitsTo]
 | k + 1 => by
  have ih := bitsTo_bd e k; rw [bitsTo]; have h2 : (2 : Int) ^ (k + 1) = 2 * 2 ^ k := by rw [Int.pow_succ]; omega
  split <;> omega
theorem wrap_ok {x : Int} (h : -9223372036854775808 ≤ x ∧ x ≤ 9223372036854775807) : IntKind.i64.wrap x = x := by rw [IntKind.wrap_i64]; omega
theorem bits_any (bx bm : Nat) (e : En) (A : Option Addr) (c : Nat) (vi : Value) (w : World) (h : Xs w bx bm e A c vi) (hw : 0 ≤ e.want ∧ e.want ≤ most) :
  Calls Try.prog 73 #[.pointer (some ⟨bx, 0, none⟩)] w fun r w' => r = .returned (.int .i64 (bitsA e)) ∧ Below w.heap.size w w' := by
 unfold most at hw; have HX := Lib.hid h; clear h; go_enter Try.func73, Try.ntmps73
 go_wp2; go_loopw [3, 7] (fun n i wr => ∃ k : Nat, k ≤ 3 ∧ i = .int .i64 k ∧ n = .int .i64 (bitsTo e k) ∧ Below w.heap.size w wr) (fun _ i _ => 3 - (intOf i).toNat)
 case atStart => exact ⟨0, by omega, rfl, rfl, Below.refl _ _⟩
 case round =>
  obtain ⟨k, hk, hik, rfl, hB⟩ := hrel; have HB := Lib.hid hB; have hXr := HX.out.below hB; have hbd := bitsTo_bd e k; obtain ⟨N1, HN1⟩ : ∃ x, Hid (bitsTo e k = x) := ⟨_, rfl⟩; rw [HN1.out] at hbd ⊢; clear hB; by_cases hlt : k < 3
  ·have hp2 : (2 : Int) ^ k ≤ 4 := by
    have : (2 : Nat) ^ k ≤ 2 ^ 2 := Nat.pow_le_pow_right (by decide) (by omega); exact_mod_cast this
   obtain ⟨jj, hjj⟩ : ∃ jj : Int, (k : Int) = jj := ⟨_, rfl⟩; obtain ⟨G, HG⟩ : ∃ x, Hid (getN e.inn (e.want + 1 + jj) = x) := ⟨_, rfl⟩; have hlook := hXr.drew.map.look (k := e.want + 1 + jj) ⟨by omega, by omega⟩; rw [HG.out] at hlook; have c5 := hXr.box.cell 5 (v := .int .i64 e.want) rfl; have c7 := hXr.box.cell 7 (v := .map (some bm)) rfl; have hw1 : IntKind.i64.wrap (e.want + 1) = e.want + 1 := wrap_ok ⟨by omega, by omega⟩; have hw2 : IntKind.i64.wrap (e.want + 1 + jj) = e.want + 1 + jj := wrap_ok ⟨by omega, by omega⟩; have hp := p2_wrap (n := jj) (by omega) (by omega); rw [hjj] at hik; subst hik; have hj3 : jj < 3 := by omega
   have hj0 : 0 ≤ jj := by omega
   have HJ := Lib.hid hjj; have hpk : (2 : Int) ^ jj.toNat = 2 ^ k := by rw [← hjj]; simp
   have HST : Hid (bitsTo e (k + 1) = N1 + (if G.isSome then 2 ^ jj.toNat else 0)) := by show _ = _; rw [bitsTo, HN1.out, HJ.out, HG.out, hpk]
   rw [← hpk] at hbd hp2; clear hXr hpk hjj; cases G with
   | none =>
    have HST' : Hid (bitsTo e (k + 1) = N1) := by show _ = _; rw [HST.out]; simp
    simp only [Option.getD, Option.isSome] at hlook; go_wp2; refine sall (by kernel_rfl) (by kernel_rfl) (fun Kq hKq => ?_); repeat still_step
    refine wpStill_nil (hKq _ ?_); clear hKq Kq; go_wp2; go_roundw
    case rel => exact ⟨k + 1, by omega, by (rw [← HJ.out]; go_num), by rw [HST'.out], HB.out.drew⟩
    case measure => simp [intOf]; omega
   | some s =>
    have HST' : Hid (bitsTo e (k + 1) = N1 + 2 ^ jj.toNat) := by show _ = _; rw [HST.out]; simp
    simp only [Option.getD, Option.isSome] at hlook; go_wp2; refine sall (by kernel_rfl) (by kernel_rfl) (fun Kq hKq => ?_); repeat still_step
    refine wpStill_nil (hKq _ ?_); clear hKq Kq; go_wp2; go_roundw
    case rel => exact ⟨k + 1, by omega, by (rw [← HJ.out]; go_num), by rw [HST'.out], HB.out.drew⟩
    case measure => simp [intOf]; omega
  ·obtain rfl : k = 3 := by omega
   subst hik; go_wp2; go_ret; exact ⟨by rw [← bitsTo_3, HN1.out]; rfl, HB.out⟩
def pkB (p : Pk) : Array Value := #[.int .i64 p.kind, .int .i64 p.frm, .int .i64 p.to, .int .i64 p.num, .string p.t, .int .i64 p.ack, .int .i64 p.held]
theorem load44 {w : World} {b : Nat} {p : Pk} (h : Blk w b (.cells (pkB p) 44)) : (loadVar 44 ⟨b, 0, none⟩).run Try.prog w = .ok (pkV p) w := by
 obtain ⟨h0, h1, h2, h3, h4, h5, h6⟩ := Blk.c7 h; unfold pkV; go_simp
def pk0 : Array Value := #[.int .i64 0, .int .i64 0, .int .i64 0, .int .i64 0, .string ⟨#[]⟩, .int .i64 0, .int .i64 0]
theorem report_any (bx bm : Nat) (e : En) (A : Option Addr) (c : Nat) (vi : Value) (w : World) (h : Xs w bx bm e A c vi) (hw : 0 ≤ e.want ∧ e.want ≤ most) :
  Calls Try.prog 50 #[.pointer (some ⟨bx, 0, none⟩)] w fun r w' => r = .returned (pkV (reportA e)) ∧ Below w.heap.size w w' := by
 have HX := Lib.hid h; clear h; go_enter Try.func50, Try.ntmps50
 go_wp2; obtain ⟨W, hW⟩ : ∃ W, w.alloc (.cells #[.int .i64 0, .int .i64 0, .int .i64 0, .int .i64 0, .string ⟨#[]⟩, .int .i64 0, .int .i64 0] 44) = W := ⟨_, rfl⟩; rw [hW]; have HB0 : Hid (Below w.heap.size w W) := by rw [← hW]; exact (Below.refl _ w).alloc (Nat.le_refl _) _
 have hbn : Blk W w.heap.size (.cells pk0 44) := by rw [← hW]; exact Blk.new _ _
 have HBN := Lib.hid hbn; have hX1 := HX.out.below HB0.out; have HX1 := Lib.hid hX1; have hbx1 : bx ≠ w.heap.size := by have := HX.out.box.lt; omega
 have hsW := HB0.out.size; have hlW := hbn.lt; have lbx := hX1.box.lt; have lbxw := HX.out.box.lt; have c0 := hX1.box.cell 0 (v := .int .i64 e.life) rfl; have c1 := hX1.box.cell 1 (v := .int .i64 e.peer) rfl; have c5 := hX1.box.cell 5 (v := .int .i64 e.want) rfl; clear hW hbn hX1; refine draw (fun w' => Below w.heap.size W w') 19 rfl (by kernel_rfl) (fun Qd hQd => ?_); iterate 16 (first | apply sI 0 (by rfl) rfl (by kernel_rfl) | apply sI 5 (by rfl) rfl (by kernel_rfl) | apply sI 10 (by rfl) rfl (by kernel_rfl) | apply sI 15 (by rfl) rfl (by kernel_rfl) | apply sI 1 (by rfl) rfl (by kernel_rfl) | apply sI 6 (by rfl) rfl (by kernel_rfl) | apply sI 11 (by rfl) rfl (by kernel_rfl) | apply sI 2 (by rfl) rfl (by kernel_rfl) | apply sI 7 (by rfl) rfl (by kernel_rfl) | apply sI 12 (by rfl) rfl (by kernel_rfl) | apply sI 3 (by rfl) rfl (by kernel_rfl) | apply sI 8 (by rfl) rfl (by kernel_rfl) | apply sI 13 (by rfl) rfl (by kernel_rfl) | apply sI 4 (by rfl) rfl (by kernel_rfl) | apply sI 9 (by rfl) rfl (by kernel_rfl) | apply sI 14 (by rfl) rfl (by kernel_rfl)); (focus intro wI hI Kv hKv; have t0 := cell_chain hI lbxw c0; have t1 := cell_chain hI lbxw c1; have t5 := cell_chain hI lbxw c5; go_simp; exact hKv); intro Kd hKd; go_simp; refine hKd _ ?_; clear hKd Kd
 refine anyI_one' 16 rfl (by kernel_rfl) ((Below.refl _ _).drew) (fun Kd hKd => ?_); go_wp2_with (go_at_call 73; go_must (refine (bits_any bx bm e A c vi _ HX1.out.drew hw).mono ?_); rintro r w2 ⟨rfl, hB2⟩; have HB2 : Hid (Below W.heap.size W w2) := (Below.refl _ W).drew.trans hB2; have hb2 := HBN.out.below HB2.out hlW; have HBN2 := Lib.hid hb2; have z0 := hb2.cell 0 (v := .int .i64 0) rfl; have z1 := hb2.cell 1 (v := .int .i64 0) rfl; have z2 := hb2.cell 2 (v := .int .i64 0) rfl; have z3 := hb2.cell 3 (v := .int .i64 0) rfl; have z4 := hb2.cell 4 (v := .string ⟨#[]⟩) rfl; have z5 := hb2.cell 5 (v := .int .i64 0) rfl; have z6 := hb2.cell 6 (v := .int .i64 0) rfl; have y0 := hb2.free 0; have y1 := hb2.free 1; have y2 := hb2.free 2; have y3 := hb2.free 3; have y4 := hb2.free 4; have y5 := hb2.free 5; have y6 := hb2.free 6; have l2 := hb2.lt; clear hb2 hB2)
 apply anyI_step 17 rfl (by kernel_rfl); (focus intro wI hI Kv hKv; go_simp; exact hKv); intro Kd hKd; go_simp; refine hKd _ ?_; clear hKd Kd
 refine anyI_one' 18 rfl (by kernel_rfl) ((HB2.out.mono hsW)) (fun Kd hKd => ?_); go_wp2; obtain ⟨WF, hWF⟩ : ∃ WF, (((((((w2.setCell ⟨w.heap.size, 0, none⟩ (.int .i64 3)).setCell ⟨w.heap.size, 1, none⟩ (.int .i64 e.life)).setCell ⟨w.heap.size, 2, none⟩ (.int .i64 e.peer)).setCell ⟨w.heap.size, 3, none⟩ (.int .i64 0)).setCell ⟨w.heap.size, 4, none⟩ (.string ⟨#[]⟩)).setCell ⟨w.heap.size, 5, none⟩ (.int .i64 e.want)).setCell ⟨w.heap.size, 6, none⟩ (.int .i64 (bitsA e))) = WF := ⟨_, rfl⟩; rw [hWF]; have HBF2 : Hid (Blk WF w.heap.size (.cells (pkB (reportA e)) 44)) := by
  rw [← hWF]; exact ((((((HBN2.out.set 0 (.int .i64 3)).set 1 (.int .i64 e.life)).set 2 (.int .i64 e.peer)).set 3 (.int .i64 0)).set 4 (.string ⟨#[]⟩)).set 5 (.int .i64 e.want)).set 6 (.int .i64 (bitsA e))
 have HBF : Hid (Below w.heap.size W WF) := by
  rw [← hWF]; exact (((((((HB2.out.mono hsW).setCell (by simp) _).setCell (by simp) _).setCell (by simp) _).setCell (by simp) _).setCell (by simp) _).setCell (by simp) _).setCell (by simp) _
 refine anyI_end (by kernel_rfl) (HBF.out) (hQd _ _ ?_); clear hQd Qd; go_wp2; have hl := load44 (p := reportA e) HBF2.out; exact bodyPost_ret (v := pkV (reportA e)) (results_c rfl rfl hl) rfl ⟨rfl, HB0.out.trans HBF.out⟩
theorem getN_snoc (l : List Im) (x : Im) (h : getN l x.n = none) : getN (l ++ [x]) = updG (getN l) x.n (some x.t) := by
 induction l with
 | nil =>
  funext k; rw [List.nil_append, getN_cons]; unfold updG; by_cases e : k = x.n
  ·rw [if_pos e.symm, if_pos e]
  ·rw [if_neg (fun h => e h.symm), if_neg e]
 | cons y l ih =>
  rw [getN_cons] at h; have hy : y.n ≠ x.n := by
   intro e; rw [if_pos e] at h; cases h
  rw [if_neg hy] at h; have ih := ih h; funext k; rw [List.cons_append, getN_cons, ih]; unfold updG; rw [getN_cons]; by_cases e : y.n = k
  ·rw [if_pos e, if_pos e, if_neg (by rintro rfl; exact hy e)]
  ·rw [if_neg e, if_neg e]
theorem srt_take : ∀ {l : List Im} {lo : Int} {k : Nat} {x : Im}, srt lo l → l[k]? = some x → ∀ y ∈ l.take k, y.n < x.n
 | [], _, _, _, _, h, _, _ => by simp at h
 | z :: l, lo, 0, x, _, _, y, hy => by simp at hy
 | z :: l, lo, k + 1, x, hs, hx, y, hy => by
  rw [List.take_succ_cons] at hy; have hx' : l[k]? = some x := by simpa using hx
  rcases List.mem_cons.1 hy with e | hy
  ·subst e; exact hs.2.gt x (List.mem_of_getElem? hx')
  ·exact srt_take hs.2 hx' y hy
theorem own_mono {w : World} {B B' : Nat} {e : TypeId} {size n : Nat} {v : Value} {xs : List Value} (h : w.ownsRow B e size v n xs) (hB : B' ≤ B) : w.ownsRow B' e size v n xs := by
 refine ⟨h.1, ?_⟩; rcases h.2 with h0 | ⟨g, cap, cur, hv, hb, r⟩
 ·exact .inl h0
 ·exact .inr ⟨g, cap, cur, hv, Nat.le_trans hB hb, r⟩
theorem open_any (e : En) (A : Option Addr) (c : Nat) (B : Option Addr) (d : Nat) (w : World) (h : EnAt w e A B) (hg : GoodP e) (hA0 : A = none → e.out.length = 0 ∧ c = 0) :
  Calls Try.prog 40 #[enV e A c B d] w fun r w' => ∃ bx bm A' c', r = .returned (.pointer (some ⟨bx, 0, none⟩)) ∧ Xs w' bx bm e A' c' (.slice B e.inn.length d) ∧ w'.ownsRow w.heap.size 71 2 (.slice A' e.out.length c') e.out.length (ous e.out) ∧
   w.heap.size ≤ bx ∧ w.heap.size ≤ bm ∧ Below w.heap.size w w' := by
 have hlen := hg.len; have hil := hg.ins_len; have hins := hg.ins; have HG := Lib.hid hg; have HE := Lib.hid h; have HI := Lib.hid hins; have hmm := @run_makeMap Try.prog; unfold enV; clear h hg hins; go_enter Try.func40, Try.ntmps40
 go_wp2_with fail
 obtain ⟨W, hW⟩ : ∃ W, ((w.alloc (.cells #[.int .i64 e.life, .int .i64 e.peer, .int .i64 e.phase, .int .i64 e.base, .slice A e.out.length c, .int .i64 e.want, .slice B e.inn.length d] 26)).alloc (.map #[] 0)).alloc (.cells #[.int .i64 e.life, .int .i64 e.peer, .int .i64 e.phase, .int .i64 e.base, .slice A e.out.length c, .int .i64 e.want, .slice B e.inn.length d, .map (some (w.heap.size + 1))] 84) = W := ⟨_, rfl⟩; rw [hW]; have HB0 : Hid (Below w.heap.size w W) := by rw [← hW]; exact (((Below.refl _ w).alloc (Nat.le_refl _) _).alloc (by simp) _).alloc (by simp; omega) _
 have hsW : W.heap.size = w.heap.size + 3 := by rw [← hW]; simp
 have h26 : Blk W w.heap.size (.cells #[.int .i64 e.life, .int .i64 e.peer, .int .i64 e.phase, .int .i64 e.base, .slice A e.out.length c, .int .i64 e.want, .slice B e.inn.length d] 26) := by rw [← hW]; exact ((Blk.new _ _).alloc _).alloc _
 have h84 : Blk W (w.heap.size + 1 + 1) (.cells #[.int .i64 e.life, .int .i64 e.peer, .int .i64 e.phase, .int .i64 e.base, .slice A e.out.length c, .int .i64 e.want, .slice B e.inn.length d, .map (some (w.heap.size + 1))] 84) := by
  rw [← hW]; have e1 := Blk.new ((w.alloc (.cells #[.int .i64 e.life, .int .i64 e.peer, .int .i64 e.phase, .int .i64 e.base, .slice A e.out.length c, .int .i64 e.want, .slice B e.inn.length d] 26)).alloc (.map #[] 0)) (.cells #[.int .i64 e.life, .int .i64 e.peer, .int .i64 e.phase, .int .i64 e.base, .slice A e.out.length c, .int .i64 e.want, .slice B e.inn.length d, .map (some (w.heap.size + 1))] 84); rw [World.size_alloc, World.size_alloc] at e1; exact e1
 have hmp : Early W (w.heap.size + 1) (fun _ => none) := by
  rw [← hW]; have e1 := Early.new (w.alloc (.cells #[.int .i64 e.life, .int .i64 e.peer, .int .i64 e.phase, .int .i64 e.base, .slice A e.out.length c, .int .i64 e.want, .slice B e.inn.length d] 26)); rw [World.size_alloc] at e1; exact e1.frame (S := fun _ => False) ((Frame.refl _ _).alloc _) (fun h => h)
 clear hW; refine (clone_ou A c e.out W (HE.out.out.below HB0.out (Nat.le_refl _)) hA0 (by omega)).mono ?_; rintro r w1 ⟨v1, rfl, ho1, hB1⟩; obtain ⟨A1, c1, rfl⟩ := own_fits ho1; have hs1 := hB1.size; have h26b := h26.below hB1 (by omega); have h84b := h84.below hB1 (by omega); have hmpb : Early w1 (w.heap.size + 1) (fun _ => none) := hmp.frame (S := fun _ => False) (Frame.of_all hB1) (fun h => h); have z4 := h84b.cell 4 (v := .slice A e.out.length c) rfl; have y4 := h84b.free 4; have yl := h84b.lt; have x6 := h26b.cell 6 (v := .slice B e.inn.length d) rfl; have xl := h26b.lt; have HO1 := Lib.hid ho1; have HB1 := Lib.hid hB1; have H84 := Lib.hid h84b; have H26 := Lib.hid h26b; have HMP := Lib.hid hmpb; clear h26 h84 hmp ho1 hB1 h26b h84b hmpb; have n1 : ¬ w.heap.size = w.heap.size + 1 + 1 := by omega
 go_wp2; obtain ⟨W2, hW2⟩ : ∃ W2, w1.setCell ⟨w.heap.size + 1 + 1, 4, none⟩ (.slice A1 e.out.length c1) = W2 := ⟨_, rfl⟩; rw [hW2]; have hF2 : Frame (fun b => b = w.heap.size + 1 + 1) w1 W2 := by rw [← hW2]; exact (Frame.refl (fun b => b = w.heap.size + 1 + 1) w1).setCell (p := ⟨_, _, none⟩) (.inl rfl) _
 have H84b : Hid (Blk W2 (w.heap.size + 1 + 1) (.cells #[.int .i64 e.life, .int .i64 e.peer, .int .i64 e.phase, .int .i64 e.base, .slice A1 e.out.length c1, .int .i64 e.want, .slice B e.inn.length d, .map (some (w.heap.size + 1))] 84)) := by rw [← hW2]; exact H84.out.set 4 _
 have HMP2 : Hid (Early W2 (w.heap.size + 1) (fun _ => none)) := HMP.out.frame hF2 (by omega); have HO2 : Hid (W2.ownsRow W.heap.size 71 2 (.slice A1 e.out.length c1) e.out.length (ous e.out)) := own_frame HO1.out hF2 (fun g hg e => by have := (HO1.out.lt _ hg).1; omega); have HBW2 : Hid (Below w.heap.size w W2) := (HB0.out.trans (HB1.out.mono (by omega))).trans (hF2.below (B := w.heap.size) (fun b e => by omega) (by omega)); have hIn2 := HE.out.inn.below HBW2.out (Nat.le_refl _); have HIN := Lib.hid hIn2; have hs2 := hF2.size; clear z4 y4 yl x6 xl hW2 hIn2; go_loopw [20] (fun i wr => ∃ k : Nat, k ≤ e.inn.length ∧ i = .int .i64 k ∧ Early wr (w.heap.size + 1) (getN (e.inn.take k)) ∧ Frame (fun b => b = w.heap.size + 1) W2 wr) (fun i _ => e.inn.length - (intOf i).toNat)
 case atStart => exact ⟨0, Nat.zero_le _, rfl, by rw [List.take_zero]; exact HMP2.out, Frame.refl _ _⟩
 case round =>
  obtain ⟨k, hk, rfl, hE, hF⟩ := hrel; have HEk := Lib.hid hE; have HFk := Lib.hid hF; have hsr := hF.size; clear hE hF; by_cases hlt : k < e.inn.length
  ·have hInr := HIN.out.frame HFk.out (fun hn a ha e => by have := HE.out.inn.lt hn ha; omega); obtain ⟨x, b, o, hx, hb, hix, hc0, hc1⟩ := im_at (c := d) hInr hlt; have hxm := List.mem_of_getElem? hx; have hxb := (HI.out.2 x hxm); have hxl := HI.out.1.gt x hxm; have hgw := HG.out.want; unfold most at hgw hxb; have hnone : getN (e.inn.take k) x.n = none := getN_none.2 fun y hy e => by have := srt_take HI.out.1 hx y hy; omega
   have HT : Hid (getN (e.inn.take (k + 1)) = updG (getN (e.inn.take k)) x.n (some x.t)) := by
    show _ = _; rw [take_succ_of hx, getN_snoc _ _ hnone]
   obtain ⟨WX, hWX⟩ : ∃ WX, wr.alloc (.cells #[.int .i64 x.n, .string x.t] 73) = WX := ⟨_, rfl⟩; have hBX : Below wr.heap.size wr WX := by rw [← hWX]; exact (Below.refl _ wr).alloc (Nat.le_refl _) _
   have bX : Blk WX wr.heap.size (.cells #[.int .i64 x.n, .string x.t] 73) := by rw [← hWX]; exact Blk.new _ _
   have e0 := bX.cell 0 (v := .int .i64 x.n) rfl; have e1 := bX.cell 1 (v := .string x.t) rfl; have el := bX.lt; have h84X := (H84b.out.frame HFk.out (by omega)).below hBX (by omega); have e7 := h84X.cell 7 (v := .map (some (w.heap.size + 1))) rfl; have e7l := h84X.lt; have hmX : Early WX.drew (w.heap.size + 1) (getN (e.inn.take k)) := (HEk.out.frame (S := fun _ => False) (Frame.of_all hBX) (fun h => h)).frame (S := fun _ => False) (Frame.refl _ _).drew (fun h => h); obtain ⟨w5, hput, hE5, hg5⟩ := hmX.put (k := x.n) ⟨by omega, by omega⟩ hnone x.t; have HE5 := Lib.hid hE5; have HF5 : Hid (Frame (fun b => b = w.heap.size + 1) wr w5) := (Frame.of_all hBX).trans ((Frame.refl (fun b => b = w.heap.size + 1) WX).drew.trans (Frame.of_grown hg5) (fun b _ e => by injection e with e; exact e.symm)) (fun _ _ h => h); clear hx hxm hnone bX h84X hmX hE5 hg5 hBX hInr; go_wp2; refine stail 8 (by kernel_rfl) (by kernel_rfl) (fun Kq hKq => ?_); simp only [List.take_succ_cons, List.take_zero, List.drop_succ_cons, List.drop_zero] at hKq ⊢; repeat still_step
   refine wpStill_nil (hKq _ ?_); clear hKq Kq; go_wp2; go_roundw
   case rel => exact ⟨k + 1, by omega, by go_num, by rw [HT.out]; exact HE5.out, HFk.out.trans HF5.out (fun _ _ h => h)⟩
   case measure => simp [intOf]; omega
  ·obtain rfl : k = e.inn.length := by omega
   go_wp2; go_ret; have hB : Below w.heap.size w wr := HBW2.out.trans (HFk.out.below (B := w.heap.size) (fun b e => by omega) (by omega)); have hE := HEk.out; rw [List.take_length] at hE; have ho := own_frame HO2.out HFk.out (fun g hg e => by have := (HO2.out.lt _ hg).1; omega); refine ⟨_, _, A1, c1, rfl, ⟨H84b.out.frame HFk.out (by omega), (Cells.of_own ho (by rw [ous_len]; omega)).1, hE, own_cap ho, own_nil ho⟩, ?_, by omega, by omega, hB⟩; exact own_mono ho (by omega)
end Go.Proofs.Ytejabnoidhlfaaa
namespace Go.Proofs.Ytejabnoidhlfaaa
open Go.RowKit
structure Boxed (p : Prop) : Prop where
 out : p
section
variable {P : Program} {ops : Array Oper} {w : World} {Q : Act → Prop} {a : Act} {o : Oper} {rest : List Oper}
theorem hs_go (h : Boxed (wpStill P ops w Q rest a)) : wpStill P ops w Q rest a := h.out
theorem hs_nil (h : Q a) : Boxed (wpStill P ops w Q [] a) := ⟨wpStill_nil h⟩
theorem hs_off (h : Region.wanted o (yielded ops a.tmps) = false) (hr : Boxed (wpStill P ops w Q rest (a.put o.dst undef))) : Boxed (wpStill P ops w Q (o :: rest) a) := ⟨still_off h hr.out⟩
theorem hs_on (h : Region.wanted o (yielded ops a.tmps) = true) (hr : ∀ K : Act → Prop, Boxed (∀ a, Boxed (wpStill P ops w Q rest a) → K a) → o.still P a w K) : Boxed (wpStill P ops w Q (o :: rest) a) :=
 ⟨still_on h fun K hK => hr K ⟨fun a ha => hK a ha.out⟩⟩
end
end Go.Proofs.Ytejabnoidhlfaaa
namespace Go.Proofs.Ytejabnoidhlfaaa
open Go.RowKit Go.Maps
def slLen : Value → Nat
 | .slice _ n _ => n
 | _ => 0
def OutFar (e : En) (A : Option Addr) (bx bm : Nat) : Prop := ous e.out ≠ [] → ∀ a, A = some a → a.block ≠ bx ∧ a.block ≠ bm
theorem takes_no (bx bm : Nat) (e : En) (A : Option Addr) (c : Nat) (vi : Value) (p : Pk) (w : World) (h : Xs w bx bm e A c vi) (hg : GoodP e) (hnum : 0 ≤ p.num ∧ p.num < 1000000000) (hno : p.num < e.want ∨ e.want + 4 ≤ p.num ∨ (getN e.inn p.num).isSome = true) :
  Calls Try.prog 56 #[.pointer (some ⟨bx, 0, none⟩), pkV p] w fun r w' => ∃ T d, r = .returned (.slice T (cameA e p).2.length d) ∧ w'.ownsRow w.heap.size 9 1 (.slice T (cameA e p).2.length d) (cameA e p).2.length (strs (cameA e p).2) ∧ Xs w' bx bm (cameA e p).1 A c vi ∧ Frame (fun b => b = bx ∨ b = bm) w w' := by
 have HX := Lib.hid h; have HG := Lib.hid hg; have hw := hg.want; unfold most at hw; have HB0 : Hid (Below w.heap.size w (w.alloc (.cells #[.int .i64 p.kind, .int .i64 p.frm, .int .i64 p.to, .int .i64 p.num, .string p.t, .int .i64 p.ack, .int .i64 p.held] 44))) := (Below.refl _ w).alloc (Nat.le_refl _) _; have hX1 := h.below HB0.out; have hb4 := Blk.new w (.cells #[.int .i64 p.kind, .int .i64 p.frm, .int .i64 p.to, .int .i64 p.num, .string p.t, .int .i64 p.ack, .int .i64 p.held] 44); obtain ⟨W, hW⟩ : ∃ W, w.alloc (.cells #[.int .i64 p.kind, .int .i64 p.frm, .int .i64 p.to, .int .i64 p.num, .string p.t, .int .i64 p.ack, .int .i64 p.held] 44) = W := ⟨_, rfl⟩; rw [hW] at HB0 hX1 hb4; have HX1 := Lib.hid hX1; have hlook := hX1.drew.map.look (k := p.num) ⟨by omega, by omega⟩; have x5 := hX1.box.cell 5 (v := .int .i64 e.want) rfl; have x7 := hX1.box.cell 7 (v := .map (some bm)) rfl; have xl := hX1.box.lt; have p3 := hb4.cell 3 (v := .int .i64 p.num) rfl; have p4 := hb4.cell 4 (v := .string p.t) rfl; have pl := hb4.lt; have hw4 : IntKind.i64.wrap (e.want + 4) = e.want + 4 := wrap_ok ⟨by omega, by omega⟩; unfold pkV; cases hG : getN e.inn p.num with
 | some s =>
  rw [hG] at hlook; simp only [Option.getD, Option.isSome] at hlook; clear h hg hX1 hb4 hG; have HN : Hid (cameA e p = (e, [])) := came_no hno; go_enter Try.func56, Try.ntmps56
  go_wp2; refine sall (by kernel_rfl) (by kernel_rfl) (fun Kq hKq => ?_); repeat still_step
  refine wpStill_nil (hKq _ ?_); clear hKq Kq; go_wp2; refine sall (by kernel_rfl) (by kernel_rfl) (fun Kq hKq => hs_go ?_); repeat (first | (refine hs_on rfl (fun K hK => ?_); go_simp; refine hK.out _ ?_; clear hK K) | (refine hs_off rfl ?_; go_simp))
  refine hs_nil (hKq _ ?_); clear hKq Kq; go_wp2; go_ret; refine ⟨none, 0, by rw [HN.out]; rfl, by rw [HN.out]; exact World.ownsRow_nil _ _ _ _, by rw [HN.out]; exact (HX1.out.drew).drew, ?_⟩; exact (Frame.of_all HB0.out).drew.drew
 | none =>
  rw [hG] at hlook; simp only [Option.getD, Option.isSome] at hlook; by_cases g1 : p.num < e.want
  ·clear h hg hX1 hb4 hG; have HN : Hid (cameA e p = (e, [])) := came_no hno; go_enter Try.func56, Try.ntmps56
   go_wp2; refine sall (by kernel_rfl) (by kernel_rfl) (fun Kq hKq => ?_); repeat still_step
   refine wpStill_nil (hKq _ ?_); clear hKq Kq; go_wp2; refine sall (by kernel_rfl) (by kernel_rfl) (fun Kq hKq => hs_go ?_); repeat (first | (refine hs_on rfl (fun K hK => ?_); go_simp; refine hK.out _ ?_; clear hK K) | (refine hs_off rfl ?_; go_simp))
   refine hs_nil (hKq _ ?_); clear hKq Kq; go_wp2; go_ret; refine ⟨none, 0, by rw [HN.out]; rfl, by rw [HN.out]; exact World.ownsRow_nil _ _ _ _, by rw [HN.out]; exact (HX1.out.drew).drew, ?_⟩; exact (Frame.of_all HB0.out).drew.drew
  ·have q1 : decide (p.num < e.want) = false := decide_eq_false g1; have g2 : e.want + 4 ≤ p.num := by
    rcases hno with h | h | h
    ·omega
    ·exact h
    ·rw [hG] at h; cases h
   clear h hg hX1 hb4 hG; have HN : Hid (cameA e p = (e, [])) := came_no hno; go_enter Try.func56, Try.ntmps56
   go_wp2; refine sall (by kernel_rfl) (by kernel_rfl) (fun Kq hKq => ?_); repeat still_step
   refine wpStill_nil (hKq _ ?_); clear hKq Kq; go_wp2; refine sall (by kernel_rfl) (by kernel_rfl) (fun Kq hKq => hs_go ?_); repeat (first | (refine hs_on rfl (fun K hK => ?_); go_simp; refine hK.out _ ?_; clear hK K) | (refine hs_off rfl ?_; go_simp))
   refine hs_nil (hKq _ ?_); clear hKq Kq; go_wp2; go_ret; refine ⟨none, 0, by rw [HN.out]; rfl, by rw [HN.out]; exact World.ownsRow_nil _ _ _ _, by rw [HN.out]; exact (HX1.out.drew).drew, ?_⟩; exact (Frame.of_all HB0.out).drew.drew
end Go.Proofs.Ytejabnoidhlfaaa
