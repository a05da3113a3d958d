/- Contracts and lemmas that the claim uses. -/
import Derived.Test.YtejabnoidhlfaaaV20
import Derived.Deep.CutBlock
set_option maxRecDepth 100000
set_option maxHeartbeats 16000000
namespace Go.Proofs.Ytejabnoidhlfaaa
open Go.RowKit Go.Maps
def ddV (d : Dd) : Value := .agg #[.int .i64 d.do_, .int .i64 d.end_, .int .i64 d.at_, .string d.t]
def ddB (d : Dd) : Array Value := #[.int .i64 d.do_, .int .i64 d.end_, .int .i64 d.at_, .string d.t]
theorem stood77 : Try.prog.stoodInHeld 77 = false := by kernel_rfl
theorem eql77 (p q : Dd) (w : World) : (binOp .eql 77 (ddV p) (ddV q)).run Try.prog w = .ok (.bool (decide (p = q))) w := by
 have hst := stood77; obtain ⟨a0, a1, a2, a3⟩ := p; obtain ⟨b0, b1, b2, b3⟩ := q; unfold ddV; by_cases e0 : a0 = b0
 ·by_cases e1 : a1 = b1
  ·by_cases e2 : a2 = b2
   ·by_cases e3 : a3 = b3
    ·subst e0 e1 e2 e3; go_simp
    ·have e3' : ¬ a3.toList = b3.toList := fun h => e3 (toList_inj h); go_simp
   ·go_simp
  ·go_simp
 ·go_simp
def leastD (d : Dd) : Dd := if d.do_ = 1 then ⟨d.do_, d.end_, 0, d.t⟩ else if d.do_ = 2 ∨ d.do_ = 3 then ⟨d.do_, d.end_, 0, emptyT⟩ else ⟨d.do_, 0, d.at_, emptyT⟩
theorem deedB_eq {d : Dd} (h : d.do_ = 1 ∨ d.do_ = 2 ∨ d.do_ = 3 ∨ d.do_ = 4 ∨ d.do_ = 5 ∨ d.do_ = 6) :
  deedB d = (decide (d = leastD d) && (d.end_ == 0 || d.end_ == 1) && decide (0 ≤ d.at_) && decide (d.t.size ≤ 20)) := by
 obtain ⟨k, e, a, t⟩ := d; simp only at h; have hz : emptyT.size = 0 := rfl; have iff : ∀ a b : Bool, (a = true ↔ b = true) → a = b := by decide
 apply iff; unfold deedB leastD; simp only [Bool.and_eq_true, decide_eq_true_eq, Bool.or_eq_true, beq_iff_eq]; rcases h with rfl | rfl | rfl | rfl | rfl | rfl
 ·simp only [if_true, Bool.and_eq_true, decide_eq_true_eq, Dd.mk.injEq, true_and, and_true]; constructor
  ·rintro ⟨⟨h1, h2⟩, h3⟩; exact ⟨⟨⟨h2, h1⟩, by omega⟩, h3⟩
  ·rintro ⟨⟨⟨h2, h1⟩, _⟩, h3⟩; exact ⟨⟨h1, h2⟩, h3⟩
 ·rw [if_neg (by omega), if_pos (.inl rfl), if_neg (by omega), if_pos (.inl rfl)]; simp only [Bool.and_eq_true, decide_eq_true_eq, Dd.mk.injEq, true_and]; constructor
  ·rintro ⟨⟨h1, h2⟩, h3⟩; exact ⟨⟨⟨⟨h2, h3⟩, h1⟩, by omega⟩, by rw [h3, hz]; omega⟩
  ·rintro ⟨⟨⟨⟨h2, h3⟩, h1⟩, _⟩, _⟩; exact ⟨⟨h1, h2⟩, h3⟩
 ·rw [if_neg (by omega), if_pos (.inr rfl), if_neg (by omega), if_pos (.inr rfl)]; simp only [Bool.and_eq_true, decide_eq_true_eq, Dd.mk.injEq, true_and]; constructor
  ·rintro ⟨⟨h1, h2⟩, h3⟩; exact ⟨⟨⟨⟨h2, h3⟩, h1⟩, by omega⟩, by rw [h3, hz]; omega⟩
  ·rintro ⟨⟨⟨⟨h2, h3⟩, h1⟩, _⟩, _⟩; exact ⟨⟨h1, h2⟩, h3⟩
 all_goals
  rw [if_neg (by omega), if_neg (by omega), if_pos (by omega), if_neg (by omega), if_neg (by omega)]; simp only [Bool.and_eq_true, decide_eq_true_eq, Dd.mk.injEq, true_and]; constructor
  ·rintro ⟨⟨h1, h2⟩, h3⟩; exact ⟨⟨⟨⟨h1, h3⟩, .inl h1⟩, h2⟩, by rw [h3, hz]; omega⟩
  ·rintro ⟨⟨⟨⟨h1, h3⟩, _⟩, h2⟩, _⟩; exact ⟨⟨h1, h2⟩, h3⟩
theorem deedB_no {d : Dd} (h : ¬ (d.do_ = 1 ∨ d.do_ = 2 ∨ d.do_ = 3 ∨ d.do_ = 4 ∨ d.do_ = 5 ∨ d.do_ = 6)) : deedB d = false := by
 unfold deedB; rw [if_neg (by omega), if_neg (by omega), if_neg (by omega)]
theorem proves_any (d : Dd) (w : World) : Calls Try.prog 80 #[ddV d] w fun r w' => r = .returned (.bool (deedB d)) ∧ Below w.heap.size w w' := by
 have hst := stood77; unfold ddV; go_enter Try.func80, Try.ntmps80
 go_upto_block 0 with fail
 obtain ⟨W, hW⟩ : ∃ W, (w.alloc (.cells #[.int .i64 d.do_, .int .i64 d.end_, .int .i64 d.at_, .string d.t] 77)).alloc (.cells #[.int .i64 d.do_, .int .i64 0, .int .i64 0, .string ⟨#[]⟩] 77) = W := ⟨_, rfl⟩; have HBW : Hid (Below w.heap.size w W) := by rw [← hW]; exact ((Below.refl _ w).alloc (Nat.le_refl _) _).alloc (by simp) _
 have HB1 : Hid (Blk W w.heap.size (.cells (ddB d) 77)) := by rw [← hW]; exact (Blk.new _ _).alloc _
 have HB3 : Hid (Blk W (w.heap.size + 1) (.cells #[.int .i64 d.do_, .int .i64 0, .int .i64 0, .string ⟨#[]⟩] 77)) := by
  rw [← hW]; have e1 := Blk.new (w.alloc (.cells #[.int .i64 d.do_, .int .i64 d.end_, .int .i64 d.at_, .string d.t] 77)) (.cells #[.int .i64 d.do_, .int .i64 0, .int .i64 0, .string ⟨#[]⟩] 77); rw [World.size_alloc] at e1; exact e1
 rw [hW]; clear hW; have c1 := HB1.out.cell 1 (v := .int .i64 d.end_) rfl; have c2 := HB1.out.cell 2 (v := .int .i64 d.at_) rfl; have c3 := HB1.out.cell 3 (v := .string d.t) rfl; have z1 := HB3.out.cell 1 (v := .int .i64 0) rfl; have z2 := HB3.out.cell 2 (v := .int .i64 0) rfl; have z3 := HB3.out.cell 3 (v := .string ⟨#[]⟩) rfl; have y1 := HB3.out.free 1; have y2 := HB3.out.free 2; have y3 := HB3.out.free 3; have l1 := HB1.out.lt; have l3 := HB3.out.lt; have hn1 : ¬ w.heap.size = w.heap.size + 1 := by omega
 go_cut [] from 4 (fun wx => (d.do_ = 1 ∨ d.do_ = 2 ∨ d.do_ = 3 ∨ d.do_ = 4 ∨ d.do_ = 5 ∨ d.do_ = 6) ∧ Blk wx w.heap.size (.cells (ddB d) 77) ∧ Blk wx (w.heap.size + 1) (.cells (ddB (leastD d)) 77) ∧ Below w.heap.size w wx)
 case first =>
  by_cases k1 : d.do_ = 1
  ·have q1 : (d.do_ == 1) = true := beq_iff_eq.2 k1; have HLS : Hid (leastD d = ⟨d.do_, d.end_, 0, d.t⟩) := by show _ = _; unfold leastD; rw [if_pos k1]
   have HK1 := Lib.hid k1; clear k1; go_upto_region 5 with fail
   refine draw (fun w' => Frame (fun b => b = w.heap.size + 1) W w') 8 rfl (by kernel_rfl) (fun Qd hQd => ?_); iterate 5 (first | apply sI 0 (by rfl) rfl (by kernel_rfl) | apply sI 2 (by rfl) rfl (by kernel_rfl) | apply sI 1 (by rfl) rfl (by kernel_rfl) | apply sI 3 (by rfl) rfl (by kernel_rfl) | apply sI 4 (by rfl) rfl (by kernel_rfl)); (focus intro wI hI Kv hKv; have t5 := cell_frame hI l1 hn1 c1; have t6 := cell_frame hI l1 hn1 c3; go_simp; exact hKv); intro Kd hKd; go_simp; refine hKd _ ?_; clear hKd Kd
   refine anyI_one' 5 rfl (by kernel_rfl) ((Frame.refl _ _).drew) (fun Kd hKd => ?_); go_wp2; have F1 := ((Frame.refl (fun b => b = w.heap.size + 1) W).setCell (p := ⟨w.heap.size + 1, 1, none⟩) (.inl rfl) (.int .i64 d.end_)); apply anyI_step 6 rfl (by kernel_rfl); (focus intro wI hI Kv hKv; go_simp; exact hKv); intro Kd hKd; go_simp; refine hKd _ ?_; clear hKd Kd
   refine anyI_one' 7 rfl (by kernel_rfl) (F1.drew) (fun Kd hKd => ?_); go_wp2; have F2 := F1.setCell (p := ⟨w.heap.size + 1, 3, none⟩) (.inl rfl) (.string d.t); refine anyI_end (by kernel_rfl) (F2.drew) (hQd _ _ ?_); clear hQd Qd; go_wp2_with fail
   go_meet; refine ⟨.inl HK1.out, ((HB1.out.far (by exact hn1) _).far (by exact hn1) _).drew, ?_, ((HBW.out.setCell (by simp) _).setCell (by simp) _).drew⟩; rw [HLS.out]; exact ((HB3.out.set 1 _).set 3 _).drew
  have q1 : (d.do_ == 1) = false := beq_eq_false_iff_ne.2 k1; by_cases k2 : d.do_ = 2 ∨ d.do_ = 3
  ·have HLS : Hid (leastD d = ⟨d.do_, d.end_, 0, emptyT⟩) := by show _ = _; unfold leastD; rw [if_neg k1, if_pos k2]
   have HK2 := Lib.hid k2; have hk : ((d.do_ == 2) = true) ∨ ((d.do_ == 2) = false ∧ (d.do_ == 3) = true) := by
    rcases k2 with k2 | k2
    ·exact .inl (beq_iff_eq.2 k2)
    ·exact .inr ⟨beq_eq_false_iff_ne.2 (by omega), beq_iff_eq.2 k2⟩
   clear k1 k2; rcases hk with q2 | ⟨q2, q3⟩
   ·go_wp2_with fail
    go_meet; refine ⟨by rcases HK2.out with h | h; exact .inr (.inl h); exact .inr (.inr (.inl h)), HB1.out.far (by exact hn1) _, ?_, HBW.out.setCell (by simp) _⟩; rw [HLS.out]; exact HB3.out.set 1 _
   ·go_wp2_with fail
    go_meet; refine ⟨by rcases HK2.out with h | h; exact .inr (.inl h); exact .inr (.inr (.inl h)), HB1.out.far (by exact hn1) _, ?_, HBW.out.setCell (by simp) _⟩; rw [HLS.out]; exact HB3.out.set 1 _
  have q2 : (d.do_ == 2) = false := beq_eq_false_iff_ne.2 (by omega); have q3 : (d.do_ == 3) = false := beq_eq_false_iff_ne.2 (by omega); by_cases k3 : d.do_ = 4 ∨ d.do_ = 5 ∨ d.do_ = 6
  ·have HLS : Hid (leastD d = ⟨d.do_, 0, d.at_, emptyT⟩) := by show _ = _; unfold leastD; rw [if_neg k1, if_neg k2]
   have HK3 := Lib.hid k3; have hk : ((d.do_ == 4) = true) ∨ ((d.do_ == 4) = false ∧ (d.do_ == 5) = true) ∨ ((d.do_ == 4) = false ∧ (d.do_ == 5) = false ∧ (d.do_ == 6) = true) := by
    rcases k3 with k3 | k3 | k3
    ·exact .inl (beq_iff_eq.2 k3)
    ·exact .inr (.inl ⟨beq_eq_false_iff_ne.2 (by omega), beq_iff_eq.2 k3⟩)
    ·exact .inr (.inr ⟨beq_eq_false_iff_ne.2 (by omega), beq_eq_false_iff_ne.2 (by omega), beq_iff_eq.2 k3⟩)
   clear k1 k2 k3; rcases hk with q4 | ⟨q4, q5⟩ | ⟨q4, q5, q6⟩; all_goals
    go_wp2_with fail
    go_meet; refine ⟨.inr (.inr (.inr HK3.out)), HB1.out.far (by exact hn1) _, ?_, HBW.out.setCell (by simp) _⟩; rw [HLS.out]; exact HB3.out.set 2 _
  ·have q4 : (d.do_ == 4) = false := beq_eq_false_iff_ne.2 (by omega); have q5 : (d.do_ == 5) = false := beq_eq_false_iff_ne.2 (by omega); have q6 : (d.do_ == 6) = false := beq_eq_false_iff_ne.2 (by omega); have HDB := Lib.hid (deedB_no (d := d) (by omega)); clear k1 k2 k3; go_wp2; go_ret; exact ⟨by rw [HDB.out]; rfl, HBW.out⟩
 case rest =>
  obtain ⟨hdo, hb1, hb3, hbc⟩ := hcut; have HBC := Lib.hid hbc; have HDB := Lib.hid (deedB_eq hdo); clear c1 c2 c3 z1 z2 z3 y1 y2 y3 l1 l3 hdo hbc hst; obtain ⟨le, hle⟩ : ∃ le, Hid (leastD d = le) := ⟨_, rfl⟩; rw [hle.out] at hb3 HDB; obtain ⟨c0, c1, c2, c3⟩ := Blk.c4 hb1; obtain ⟨z0, z1, z2, z3⟩ := Blk.c4 hb3; have l1 := hb1.lt; have l3 := hb3.lt; have heq : ∀ w : World, (binOp .eql 77 (.agg #[.int .i64 d.do_, .int .i64 d.end_, .int .i64 d.at_, .string d.t]) (.agg #[.int .i64 le.do_, .int .i64 le.end_, .int .i64 le.at_, .string le.t])).run Try.prog w = .ok (.bool (decide (d = le))) w := fun w => eql77 d le w; clear hb1 hb3; obtain ⟨b, hb⟩ : ∃ b, decide (d = le) = b := ⟨_, rfl⟩; cases b with
  | false =>
   have hn : ¬ d = le := of_decide_eq_false hb; have HNL := Lib.hid hn; clear hn; go_wp2; go_ret; have h9 : deedB d = false := by
    rw [HDB.out]; simp [HNL.out]
   exact ⟨by rw [h9]; rfl, HBC.out⟩
  | true =>
   have HYL : Hid (decide (d = le) = true) := hb; by_cases f0 : 0 ≤ d.at_
   ·have HF := Lib.hid f0; have f1 : decide (0 ≤ d.at_) = true := decide_eq_true f0; clear f0; by_cases g0 : (d.t.size : Int) ≤ 20
    ·have HG : Hid (d.t.size ≤ 20) := by show _ ≤ _; omega
     have g1 : decide ((d.t.size : Int) ≤ 20) = true := decide_eq_true g0; clear g0; cases e0 : (d.end_ == 0) with
     | true =>
      have HE := Lib.hid e0; go_wp2; go_ret; have h9 : deedB d = true := by
       rw [HDB.out]; simp [HYL.out, HE.out, HF.out, HG.out]
      exact ⟨by rw [h9]; rfl, HBC.out⟩
     | false =>
      have HE := Lib.hid e0; cases e1 : (d.end_ == 1) with
      | true =>
       have HE1 := Lib.hid e1; go_wp2; go_ret; have h9 : deedB d = true := by
        rw [HDB.out]; simp [HYL.out, HE.out, HE1.out, HF.out, HG.out]
       exact ⟨by rw [h9]; rfl, HBC.out⟩
      | false =>
       have HE1 := Lib.hid e1; go_wp2; go_ret; have h9 : deedB d = false := by
        rw [HDB.out]; simp [HYL.out, HE.out, HE1.out]
       exact ⟨by rw [h9]; rfl, HBC.out⟩
    ·have HG : Hid (¬ d.t.size ≤ 20) := by show ¬ _; omega
     have g1 : decide ((d.t.size : Int) ≤ 20) = false := decide_eq_false g0; clear g0; cases e0 : (d.end_ == 0) with
     | true =>
      have HE := Lib.hid e0; go_wp2; go_ret; have h9 : deedB d = false := by
       rw [HDB.out]; simp [HYL.out, HE.out, (show ¬ d.t.size ≤ 20 by have := HG.out; omega)]
      exact ⟨by rw [h9]; rfl, HBC.out⟩
     | false =>
      have HE := Lib.hid e0; cases e1 : (d.end_ == 1) with
      | true =>
       have HE1 := Lib.hid e1; go_wp2; go_ret; have h9 : deedB d = false := by
        rw [HDB.out]; simp [HYL.out, HE.out, HE1.out, (show ¬ d.t.size ≤ 20 by have := HG.out; omega)]
       exact ⟨by rw [h9]; rfl, HBC.out⟩
      | false =>
       have HE1 := Lib.hid e1; go_wp2; go_ret; have h9 : deedB d = false := by
        rw [HDB.out]; simp [HYL.out, HE.out, HE1.out]
       exact ⟨by rw [h9]; rfl, HBC.out⟩
   ·have HF := Lib.hid f0; have f1 : decide (0 ≤ d.at_) = false := decide_eq_false f0; clear f0; cases e0 : (d.end_ == 0) with
    | true =>
     have HE := Lib.hid e0; go_wp2; go_ret; have h9 : deedB d = false := by
      rw [HDB.out]; simp [HYL.out, HE.out, (show ¬ 0 ≤ d.at_ by have := HF.out; omega)]
     exact ⟨by rw [h9]; rfl, HBC.out⟩
    | false =>
     have HE := Lib.hid e0; cases e1 : (d.end_ == 1) with
     | true =>
      have HE1 := Lib.hid e1; go_wp2; go_ret; have h9 : deedB d = false := by
       rw [HDB.out]; simp [HYL.out, HE.out, HE1.out, (show ¬ 0 ≤ d.at_ by have := HF.out; omega)]
      exact ⟨by rw [h9]; rfl, HBC.out⟩
     | false =>
      have HE1 := Lib.hid e1; go_wp2; go_ret; have h9 : deedB d = false := by
       rw [HDB.out]; simp [HYL.out, HE.out, HE1.out]
      exact ⟨by rw [h9]; rfl, HBC.out⟩
end Go.Proofs.Ytejabnoidhlfaaa
