/- Contracts and lemmas that the claim uses. -/
import Derived.Test.YtejabnoidhlfaaaV48
set_option maxRecDepth 100000
set_option maxHeartbeats 16000000
namespace Go.Proofs.Ytejabnoidhlfaaa
open Go.RowKit Go.Maps
theorem deedR_eq (k e a : Int) (t : ByteArray) : deedB ⟨k, e, a, t⟩ = (if k = 1 then (decide (0 ≤ e) && decide (e ≤ 1)) && (decide (a = 0) && decide (t.size ≤ 20))
  else if k = 2 ∨ k = 3 then (decide (0 ≤ e) && decide (e ≤ 1)) && (decide (a = 0) && decide (t.toList = []))
  else if k = 4 ∨ k = 5 ∨ k = 6 then decide (e = 0) && (decide (0 ≤ a) && decide (t.toList = [])) else false) := by
 have ht : decide (t = emptyT) = decide (t.toList = []) := by
  rw [decide_eq_decide]; exact ⟨fun h => by rw [h]; exact nil_list, fun h => size0 h⟩
 have he : decide (e = 0 ∨ e = 1) = (decide (0 ≤ e) && decide (e ≤ 1)) := by
  rw [← Bool.decide_and, decide_eq_decide]; omega
 unfold deedB; simp only [ht, he, Bool.and_assoc]
theorem done65_any (d : Dd) (w : World) : Calls Try.prog 65 #[ddV d] w fun r w' => r = .returned (.bool (deedB d)) ∧ Below w.heap.size w w' := by
 obtain ⟨k, e, a, t⟩ := d; obtain ⟨b1, Q1⟩ : ∃ b, Hid ((decide (0 ≤ e) && decide (e ≤ 1)) = b) := ⟨_, rfl⟩; have HPB := Lib.hid (deedR_eq k e a t); unfold ddV; go_enter Try.func65, Try.ntmps65
 obtain ⟨W, hW⟩ : ∃ W, w.alloc (.cells #[.int .i64 k, .int .i64 e, .int .i64 a, .string t] 77) = W := ⟨_, rfl⟩; have HBW : Hid (Below w.heap.size w W) := by rw [← hW]; exact (Below.refl _ w).alloc (Nat.le_refl _) _
 have q9 : Blk W w.heap.size (.cells #[.int .i64 k, .int .i64 e, .int .i64 a, .string t] 77) := by rw [← hW]; exact Blk.new _ _
 obtain ⟨x0, x1, x2, x3, xl⟩ := Blk.d4 q9; clear q9; go_upto_region 1 with fail
 clear hW; by_cases k1 : k = 1
 ·have s1 : (k == 1) = true := beq_iff_eq.2 k1; have K1 := Lib.hid k1; clear k1; go_upto_region 3 with fail
  go_wp2_with fail
  refine (in_any e _ _ _).mono ?_; rintro r w9 ⟨rfl, hw9⟩; obtain rfl := hw9.symm; rw [Q1.out]; cases b1 with
  | false =>
   have HNP : Hid (deedB ⟨k, e, a, t⟩ = false) := by show _ = _; rw [HPB.out, if_pos K1.out]; simp only [Q1.out, Bool.false_and]
   go_wp2; go_ret; exact ⟨by rw [HNP.out]; rfl, HBW.out⟩
  | true =>
   by_cases n1 : a = 0
   ·have dn1 : decide (a = 0) = true := decide_eq_true n1; have qn1 : (a == 0) = true := beq_iff_eq.2 n1; have Dn1 := Lib.hid dn1; clear n1; by_cases n2 : t.size ≤ 20
    ·have dn2 : decide (t.size ≤ 20) = true := decide_eq_true n2; have en2 : decide ((t.size : Int) ≤ 20) = true := by rw [← dn2, decide_eq_decide]; omega
     have Dn2 := Lib.hid dn2; clear n2; have HNP : Hid (deedB ⟨k, e, a, t⟩ = true) := by show _ = _; rw [HPB.out, if_pos K1.out]; simp only [Q1.out, Dn1.out, Dn2.out, Bool.true_and]
     go_wp2; go_ret; exact ⟨by rw [HNP.out]; rfl, HBW.out⟩
    ·have dn2 : decide (t.size ≤ 20) = false := decide_eq_false n2; have en2 : decide ((t.size : Int) ≤ 20) = false := by rw [← dn2, decide_eq_decide]; omega
     have Dn2 := Lib.hid dn2; clear n2; have HNP : Hid (deedB ⟨k, e, a, t⟩ = false) := by show _ = _; rw [HPB.out, if_pos K1.out]; simp only [Q1.out, Dn1.out, Dn2.out, Bool.true_and]
     go_wp2; go_ret; exact ⟨by rw [HNP.out]; rfl, HBW.out⟩
   ·have dn1 : decide (a = 0) = false := decide_eq_false n1; have qn1 : (a == 0) = false := beq_eq_false_iff_ne.2 n1; have Dn1 := Lib.hid dn1; clear n1; have HNP : Hid (deedB ⟨k, e, a, t⟩ = false) := by show _ = _; rw [HPB.out, if_pos K1.out]; simp only [Q1.out, Dn1.out, Bool.true_and, Bool.false_and]
    go_wp2; go_ret; exact ⟨by rw [HNP.out]; rfl, HBW.out⟩
 have s1 : (k == 1) = false := beq_eq_false_iff_ne.2 k1; have K1 : Hid (¬ k = 1) := k1; clear k1; by_cases k2 : k = 2
 ·have s2 : (k == 2) = true := beq_iff_eq.2 k2; have K2 := Lib.hid k2; clear k2; go_upto_region 6 with fail
  go_wp2_with fail
  refine (in_any e _ _ _).mono ?_; rintro r w9 ⟨rfl, hw9⟩; obtain rfl := hw9.symm; rw [Q1.out]; cases b1 with
  | false =>
   have HNP : Hid (deedB ⟨k, e, a, t⟩ = false) := by show _ = _; rw [HPB.out, if_neg K1.out, if_pos (.inl K2.out)]; simp only [Q1.out, Bool.false_and]
   go_wp2; go_ret; exact ⟨by rw [HNP.out]; rfl, HBW.out⟩
  | true =>
   by_cases n1 : a = 0
   ·have dn1 : decide (a = 0) = true := decide_eq_true n1; have qn1 : (a == 0) = true := beq_iff_eq.2 n1; have Dn1 := Lib.hid dn1; clear n1; by_cases n3 : t.toList = []
    ·have dn3 : decide (t.toList = []) = true := decide_eq_true n3; have Dn3 := Lib.hid dn3; have HNP : Hid (deedB ⟨k, e, a, t⟩ = true) := by show _ = _; rw [HPB.out, if_neg K1.out, if_pos (.inl K2.out)]; simp only [Q1.out, Dn1.out, Dn3.out, Bool.true_and]
     go_wp2; go_ret; exact ⟨by rw [HNP.out]; rfl, HBW.out⟩
    ·have dn3 : decide (t.toList = []) = false := decide_eq_false n3; have zn3 : t.toList.isEmpty = false := by cases hz : t.toList with | nil => exact absurd hz n3 | cons _ _ => rfl
     have Dn3 := Lib.hid dn3; have HNP : Hid (deedB ⟨k, e, a, t⟩ = false) := by show _ = _; rw [HPB.out, if_neg K1.out, if_pos (.inl K2.out)]; simp only [Q1.out, Dn1.out, Dn3.out, Bool.true_and]
     go_wp2; go_ret; exact ⟨by rw [HNP.out]; rfl, HBW.out⟩
   ·have dn1 : decide (a = 0) = false := decide_eq_false n1; have qn1 : (a == 0) = false := beq_eq_false_iff_ne.2 n1; have Dn1 := Lib.hid dn1; clear n1; have HNP : Hid (deedB ⟨k, e, a, t⟩ = false) := by show _ = _; rw [HPB.out, if_neg K1.out, if_pos (.inl K2.out)]; simp only [Q1.out, Dn1.out, Bool.true_and, Bool.false_and]
    go_wp2; go_ret; exact ⟨by rw [HNP.out]; rfl, HBW.out⟩
 have s2 : (k == 2) = false := beq_eq_false_iff_ne.2 k2; have K2 : Hid (¬ k = 2) := k2; clear k2; by_cases k3 : k = 3
 ·have s3 : (k == 3) = true := beq_iff_eq.2 k3; have K3 := Lib.hid k3; clear k3; go_upto_region 6 with fail
  go_wp2_with fail
  refine (in_any e _ _ _).mono ?_; rintro r w9 ⟨rfl, hw9⟩; obtain rfl := hw9.symm; rw [Q1.out]; cases b1 with
  | false =>
   have HNP : Hid (deedB ⟨k, e, a, t⟩ = false) := by show _ = _; rw [HPB.out, if_neg K1.out, if_pos (.inr K3.out)]; simp only [Q1.out, Bool.false_and]
   go_wp2; go_ret; exact ⟨by rw [HNP.out]; rfl, HBW.out⟩
  | true =>
   by_cases n1 : a = 0
   ·have dn1 : decide (a = 0) = true := decide_eq_true n1; have qn1 : (a == 0) = true := beq_iff_eq.2 n1; have Dn1 := Lib.hid dn1; clear n1; by_cases n3 : t.toList = []
    ·have dn3 : decide (t.toList = []) = true := decide_eq_true n3; have Dn3 := Lib.hid dn3; have HNP : Hid (deedB ⟨k, e, a, t⟩ = true) := by show _ = _; rw [HPB.out, if_neg K1.out, if_pos (.inr K3.out)]; simp only [Q1.out, Dn1.out, Dn3.out, Bool.true_and]
     go_wp2; go_ret; exact ⟨by rw [HNP.out]; rfl, HBW.out⟩
    ·have dn3 : decide (t.toList = []) = false := decide_eq_false n3; have zn3 : t.toList.isEmpty = false := by cases hz : t.toList with | nil => exact absurd hz n3 | cons _ _ => rfl
     have Dn3 := Lib.hid dn3; have HNP : Hid (deedB ⟨k, e, a, t⟩ = false) := by show _ = _; rw [HPB.out, if_neg K1.out, if_pos (.inr K3.out)]; simp only [Q1.out, Dn1.out, Dn3.out, Bool.true_and]
     go_wp2; go_ret; exact ⟨by rw [HNP.out]; rfl, HBW.out⟩
   ·have dn1 : decide (a = 0) = false := decide_eq_false n1; have qn1 : (a == 0) = false := beq_eq_false_iff_ne.2 n1; have Dn1 := Lib.hid dn1; clear n1; have HNP : Hid (deedB ⟨k, e, a, t⟩ = false) := by show _ = _; rw [HPB.out, if_neg K1.out, if_pos (.inr K3.out)]; simp only [Q1.out, Dn1.out, Bool.true_and, Bool.false_and]
    go_wp2; go_ret; exact ⟨by rw [HNP.out]; rfl, HBW.out⟩
 have s3 : (k == 3) = false := beq_eq_false_iff_ne.2 k3; have K3 : Hid (¬ k = 3) := k3; clear k3; by_cases k4 : k = 4
 ·have s4 : (k == 4) = true := beq_iff_eq.2 k4; have K4 := Lib.hid k4; clear k4; go_upto_region 10 with fail
  by_cases n4 : e = 0
  ·have dn4 : decide (e = 0) = true := decide_eq_true n4; have qn4 : (e == 0) = true := beq_iff_eq.2 n4; have Dn4 := Lib.hid dn4; clear n4; by_cases n5 : 0 ≤ a
   ·have dn5 : decide (0 ≤ a) = true := decide_eq_true n5; have Dn5 := Lib.hid dn5; clear n5; by_cases n3 : t.toList = []
    ·have dn3 : decide (t.toList = []) = true := decide_eq_true n3; have Dn3 := Lib.hid dn3; have HNP : Hid (deedB ⟨k, e, a, t⟩ = true) := by show _ = _; rw [HPB.out, if_neg K1.out, if_neg (fun h9 => by rcases h9 with h9 | h9; exact K2.out h9; exact K3.out h9), if_pos (.inl K4.out)]; simp only [Dn4.out, Dn5.out, Dn3.out, Bool.true_and]
     go_wp2; go_ret; exact ⟨by rw [HNP.out]; rfl, HBW.out⟩
    ·have dn3 : decide (t.toList = []) = false := decide_eq_false n3; have zn3 : t.toList.isEmpty = false := by cases hz : t.toList with | nil => exact absurd hz n3 | cons _ _ => rfl
     have Dn3 := Lib.hid dn3; have HNP : Hid (deedB ⟨k, e, a, t⟩ = false) := by show _ = _; rw [HPB.out, if_neg K1.out, if_neg (fun h9 => by rcases h9 with h9 | h9; exact K2.out h9; exact K3.out h9), if_pos (.inl K4.out)]; simp only [Dn4.out, Dn5.out, Dn3.out, Bool.true_and]
     go_wp2; go_ret; exact ⟨by rw [HNP.out]; rfl, HBW.out⟩
   ·have dn5 : decide (0 ≤ a) = false := decide_eq_false n5; have Dn5 := Lib.hid dn5; clear n5; have HNP : Hid (deedB ⟨k, e, a, t⟩ = false) := by show _ = _; rw [HPB.out, if_neg K1.out, if_neg (fun h9 => by rcases h9 with h9 | h9; exact K2.out h9; exact K3.out h9), if_pos (.inl K4.out)]; simp only [Dn4.out, Dn5.out, Bool.true_and, Bool.false_and]
    go_wp2; go_ret; exact ⟨by rw [HNP.out]; rfl, HBW.out⟩
  ·have dn4 : decide (e = 0) = false := decide_eq_false n4; have qn4 : (e == 0) = false := beq_eq_false_iff_ne.2 n4; have Dn4 := Lib.hid dn4; clear n4; have HNP : Hid (deedB ⟨k, e, a, t⟩ = false) := by show _ = _; rw [HPB.out, if_neg K1.out, if_neg (fun h9 => by rcases h9 with h9 | h9; exact K2.out h9; exact K3.out h9), if_pos (.inl K4.out)]; simp only [Dn4.out, Bool.false_and]
   go_wp2; go_ret; exact ⟨by rw [HNP.out]; rfl, HBW.out⟩
 have s4 : (k == 4) = false := beq_eq_false_iff_ne.2 k4; have K4 : Hid (¬ k = 4) := k4; clear k4; by_cases k5 : k = 5
 ·have s5 : (k == 5) = true := beq_iff_eq.2 k5; have K5 := Lib.hid k5; clear k5; go_upto_region 10 with fail
  by_cases n4 : e = 0
  ·have dn4 : decide (e = 0) = true := decide_eq_true n4; have qn4 : (e == 0) = true := beq_iff_eq.2 n4; have Dn4 := Lib.hid dn4; clear n4; by_cases n5 : 0 ≤ a
   ·have dn5 : decide (0 ≤ a) = true := decide_eq_true n5; have Dn5 := Lib.hid dn5; clear n5; by_cases n3 : t.toList = []
    ·have dn3 : decide (t.toList = []) = true := decide_eq_true n3; have Dn3 := Lib.hid dn3; have HNP : Hid (deedB ⟨k, e, a, t⟩ = true) := by show _ = _; rw [HPB.out, if_neg K1.out, if_neg (fun h9 => by rcases h9 with h9 | h9; exact K2.out h9; exact K3.out h9), if_pos (.inr (.inl K5.out))]; simp only [Dn4.out, Dn5.out, Dn3.out, Bool.true_and]
     go_wp2; go_ret; exact ⟨by rw [HNP.out]; rfl, HBW.out⟩
    ·have dn3 : decide (t.toList = []) = false := decide_eq_false n3; have zn3 : t.toList.isEmpty = false := by cases hz : t.toList with | nil => exact absurd hz n3 | cons _ _ => rfl
     have Dn3 := Lib.hid dn3; have HNP : Hid (deedB ⟨k, e, a, t⟩ = false) := by show _ = _; rw [HPB.out, if_neg K1.out, if_neg (fun h9 => by rcases h9 with h9 | h9; exact K2.out h9; exact K3.out h9), if_pos (.inr (.inl K5.out))]; simp only [Dn4.out, Dn5.out, Dn3.out, Bool.true_and]
     go_wp2; go_ret; exact ⟨by rw [HNP.out]; rfl, HBW.out⟩
   ·have dn5 : decide (0 ≤ a) = false := decide_eq_false n5; have Dn5 := Lib.hid dn5; clear n5; have HNP : Hid (deedB ⟨k, e, a, t⟩ = false) := by show _ = _; rw [HPB.out, if_neg K1.out, if_neg (fun h9 => by rcases h9 with h9 | h9; exact K2.out h9; exact K3.out h9), if_pos (.inr (.inl K5.out))]; simp only [Dn4.out, Dn5.out, Bool.true_and, Bool.false_and]
    go_wp2; go_ret; exact ⟨by rw [HNP.out]; rfl, HBW.out⟩
  ·have dn4 : decide (e = 0) = false := decide_eq_false n4; have qn4 : (e == 0) = false := beq_eq_false_iff_ne.2 n4; have Dn4 := Lib.hid dn4; clear n4; have HNP : Hid (deedB ⟨k, e, a, t⟩ = false) := by show _ = _; rw [HPB.out, if_neg K1.out, if_neg (fun h9 => by rcases h9 with h9 | h9; exact K2.out h9; exact K3.out h9), if_pos (.inr (.inl K5.out))]; simp only [Dn4.out, Bool.false_and]
   go_wp2; go_ret; exact ⟨by rw [HNP.out]; rfl, HBW.out⟩
 have s5 : (k == 5) = false := beq_eq_false_iff_ne.2 k5; have K5 : Hid (¬ k = 5) := k5; clear k5; by_cases k6 : k = 6
 ·have s6 : (k == 6) = true := beq_iff_eq.2 k6; have K6 := Lib.hid k6; clear k6; go_upto_region 10 with fail
  by_cases n4 : e = 0
  ·have dn4 : decide (e = 0) = true := decide_eq_true n4; have qn4 : (e == 0) = true := beq_iff_eq.2 n4; have Dn4 := Lib.hid dn4; clear n4; by_cases n5 : 0 ≤ a
   ·have dn5 : decide (0 ≤ a) = true := decide_eq_true n5; have Dn5 := Lib.hid dn5; clear n5; by_cases n3 : t.toList = []
    ·have dn3 : decide (t.toList = []) = true := decide_eq_true n3; have Dn3 := Lib.hid dn3; have HNP : Hid (deedB ⟨k, e, a, t⟩ = true) := by show _ = _; rw [HPB.out, if_neg K1.out, if_neg (fun h9 => by rcases h9 with h9 | h9; exact K2.out h9; exact K3.out h9), if_pos (.inr (.inr K6.out))]; simp only [Dn4.out, Dn5.out, Dn3.out, Bool.true_and]
     go_wp2; go_ret; exact ⟨by rw [HNP.out]; rfl, HBW.out⟩
    ·have dn3 : decide (t.toList = []) = false := decide_eq_false n3; have zn3 : t.toList.isEmpty = false := by cases hz : t.toList with | nil => exact absurd hz n3 | cons _ _ => rfl
     have Dn3 := Lib.hid dn3; have HNP : Hid (deedB ⟨k, e, a, t⟩ = false) := by show _ = _; rw [HPB.out, if_neg K1.out, if_neg (fun h9 => by rcases h9 with h9 | h9; exact K2.out h9; exact K3.out h9), if_pos (.inr (.inr K6.out))]; simp only [Dn4.out, Dn5.out, Dn3.out, Bool.true_and]
     go_wp2; go_ret; exact ⟨by rw [HNP.out]; rfl, HBW.out⟩
   ·have dn5 : decide (0 ≤ a) = false := decide_eq_false n5; have Dn5 := Lib.hid dn5; clear n5; have HNP : Hid (deedB ⟨k, e, a, t⟩ = false) := by show _ = _; rw [HPB.out, if_neg K1.out, if_neg (fun h9 => by rcases h9 with h9 | h9; exact K2.out h9; exact K3.out h9), if_pos (.inr (.inr K6.out))]; simp only [Dn4.out, Dn5.out, Bool.true_and, Bool.false_and]
    go_wp2; go_ret; exact ⟨by rw [HNP.out]; rfl, HBW.out⟩
  ·have dn4 : decide (e = 0) = false := decide_eq_false n4; have qn4 : (e == 0) = false := beq_eq_false_iff_ne.2 n4; have Dn4 := Lib.hid dn4; clear n4; have HNP : Hid (deedB ⟨k, e, a, t⟩ = false) := by show _ = _; rw [HPB.out, if_neg K1.out, if_neg (fun h9 => by rcases h9 with h9 | h9; exact K2.out h9; exact K3.out h9), if_pos (.inr (.inr K6.out))]; simp only [Dn4.out, Bool.false_and]
   go_wp2; go_ret; exact ⟨by rw [HNP.out]; rfl, HBW.out⟩
 have s6 : (k == 6) = false := beq_eq_false_iff_ne.2 k6; have K6 : Hid (¬ k = 6) := k6; clear k6; have HNP : Hid (deedB ⟨k, e, a, t⟩ = false) := by show _ = _; rw [HPB.out, if_neg K1.out, if_neg (fun h9 => by rcases h9 with h9 | h9; exact K2.out h9; exact K3.out h9), if_neg (fun h9 => by rcases h9 with h9 | h9 | h9; exact K4.out h9; exact K5.out h9; exact K6.out h9)]
 go_wp2; go_ret; exact ⟨by rw [HNP.out]; rfl, HBW.out⟩
def m0 : Lm := ⟨none, 0, none, 0, none, 0, none, 0, none, 0, none, 0, []⟩
theorem first_lv {w : World} {B eb : Nat} (hb : Blk w eb (.cells (lvB firstA m0) 26)) (hB : B ≤ eb) : Lv w B eb firstA m0 :=
 ⟨hb, enT_nil w rfl rfl, enT_nil w rfl rfl, World.ownsRow_nil _ _ _ _, World.ownsRow_nil _ _ _ _, rfl, ⟨fun x hx => (by cases hx), fun i j x y hi => (by simp [txs, m0] at hi)⟩, hB, ⟨fun _ => rfl, fun _ => rfl⟩⟩
theorem rfold_take {ds : List Dd} {k : Nat} {x : Dd} (h : ds[k]? = some x) : (ds.take (k + 1)).foldl rDoes firstA = rDoes ((ds.take k).foldl rDoes firstA) x := by
 rw [take_succ_of h, List.foldl_append]; rfl
def RpPost (ds : List Dd) (w : World) (r : Ending) (w' : World) : Prop := Below w.heap.size w w' ∧ (((rPlayed ds).2 ≠ 0 ∧ r = .returned (.tuple #[.agg #[.slice none 0 0, .slice none 0 0, .slice none 0 0], .int .i64 (rPlayed ds).2])) ∨
 ((rPlayed ds).2 = 0 ∧ ∃ eb m, r = .returned (.tuple #[lvV eb (rPlayed ds).1 m, .int .i64 0]) ∧ Lv w' w.heap.size eb (rPlayed ds).1 m))
theorem rplay_any (A : Option Addr) (c : Nat) (ds : List Dd) (w : World) (h : Cells w A (dds ds)) : Calls Try.prog 26 #[.slice A ds.length c] w (RpPost ds w) := by
 have HC := Lib.hid h; clear h; go_enter Try.func26, Try.ntmps26
 by_cases h2 : (200 : Int) < (ds.length : Int)
 ·have HP : Hid (rPlayed ds = (firstA, 3)) := by show _ = _; unfold rPlayed; rw [if_pos (by omega)]
  go_wp2; have hk : Blk (w.alloc (.cells #[.slice none 0 0, .slice none 0 0, .slice none 0 0] 59)) w.heap.size (.cells #[.slice none 0 0, .slice none 0 0, .slice none 0 0] 59) := Blk.new _ _; refine bodyPost_ret (v := .tuple #[.agg #[.slice none 0 0, .slice none 0 0, .slice none 0 0], .int .i64 3]) (results_ct rfl rfl rfl (load59 hk)) rfl ⟨(Below.refl _ w).alloc (Nat.le_refl _) _, .inl ⟨by rw [HP.out]; decide, by rw [HP.out]⟩⟩
 ·have HLN : Hid (ds.length ≤ 200) := by show _ ≤ _; omega
  have b2 : decide ((200 : Int) < (ds.length : Int)) = false := decide_eq_false h2; clear h2; go_upto_region 3 with fail
  obtain ⟨W, hW⟩ : ∃ W, w.alloc (.cells #[.slice none 0 0, .slice none 0 0, .slice none 0 0] 59) = W := ⟨_, rfl⟩; have HBW : Hid (Below w.heap.size w W) := by rw [← hW]; exact (Below.refl _ w).alloc (Nat.le_refl _) _
  have HYW : Hid (Blk W w.heap.size (.cells z59 59)) := by rw [← hW]; exact Blk.new _ _
  rw [hW]; clear hW b2; go_wp2_with fail
  go_loopg [4] ds.length (fun g iv wr => ∃ k : Nat, k + g = ds.length ∧ iv = .int .i64 (k : Int) ∧ (∀ d ∈ ds.take k, deedB d = true) ∧ Below w.heap.size w wr ∧ Blk wr w.heap.size (.cells z59 59))
  case atStart => exact ⟨0, Nat.zero_add _, rfl, fun d hd => (by simp at hd), HBW.out, HYW.out⟩
  case round =>
   obtain ⟨k, hk, rfl, hall, hB, hY⟩ := hrel; have HK := Lib.hid hk; have HA := Lib.hid hall; have HBR := Lib.hid hB; have HYR := Lib.hid hY; clear hk hall hB hY; by_cases hlt : (k : Int) < (ds.length : Int)
   ·obtain ⟨x, b, o, hx, hb, hix, hc0, hc1, hc2, hc3⟩ := dd_at (c := c) (k := k) (HC.out.below HBR.out (Nat.le_refl _)) (by omega); have HX := Lib.hid hx; have hw1 : IntKind.i64.wrap ((k : Int) + 1) = (k : Int) + 1 := wrap_ok ⟨by omega, by have := HLN.out; omega⟩; clear hx; go_wp2_with fail
    refine (done65_any x wr).mono ?_; rintro r w1 ⟨rfl, hB1⟩; have HB1 : Hid (Below w.heap.size w w1) := HBR.out.trans (hB1.mono HBR.out.size); have HY1 := Lib.hid (HYR.out.below hB1 HYR.out.lt); clear hB1 hc0 hc1 hc2 hc3 hix hb; cases hd : deedB x with
    | true =>
     have HD := Lib.hid hd; clear hd; go_wp2_with fail
     go_roundg (ds.length - (k + 1))
     case measure => have := HK.out; omega
     case rel => exact ⟨k + 1, by have := HK.out; omega, rfl, all_take HA.out HX.out HD.out, HB1.out, HY1.out⟩
    | false =>
     have HP : Hid (rPlayed ds = (firstA, 2)) := by
      show _ = _; unfold rPlayed; have h9 : ds.all deedB = false := by
       cases hq : ds.all deedB with
       | false => rfl
       | true => rw [List.all_eq_true.1 hq x (List.mem_of_getElem? HX.out)] at hd; cases hd
      rw [if_neg (by have := HLN.out; omega), if_pos h9]
     clear hd; obtain ⟨y0, y1, y2⟩ := Blk.c3 HY1.out; obtain ⟨z0, z1, z2, yl⟩ := Blk.g3 HY1.out; go_wp2; have hk3 := ((HY1.out.set 0 (.slice none 0 0)).set 1 (.slice none 0 0)).set 2 (.slice none 0 0); refine bodyPost_ret (v := .tuple #[.agg #[.slice none 0 0, .slice none 0 0, .slice none 0 0], .int .i64 2]) (results_ct rfl rfl rfl (load59 hk3)) rfl ⟨((HB1.out.setCell (Nat.le_refl _) _).setCell (Nat.le_refl _) _).setCell (Nat.le_refl _) _, .inl ⟨by rw [HP.out]; decide, by rw [HP.out]⟩⟩
   ·have HALL : Hid (∀ d ∈ ds, deedB d = true) := fun d hd => HA.out d (by rw [List.take_of_length_le (by have := HK.out; omega)]; exact hd); have hs1 : startA 1 = (⟨1, 0, 1, 0, [], 0, []⟩, 0) := rfl; have HS1 := Lib.hid hs1; obtain ⟨W2, rfl⟩ : ∃ W2, W2 = wr := ⟨_, rfl⟩; clear hs1 HK HA; go_wp2_with fail
    refine (rstart_any 1 W2).mono ?_; rintro r w1 ⟨rfl, hB1⟩; have HB1 : Hid (Below w.heap.size w w1) := HBR.out.trans (hB1.mono HBR.out.size); have HY1 := Lib.hid (HYR.out.below hB1 HYR.out.lt); rw [HS1.out]; unfold enV; clear hB1; go_upto_region 9 with fail
    obtain ⟨X1, hX1⟩ : ∃ X1, w1.alloc (.cells #[.int .i64 1, .int .i64 0, .int .i64 1, .int .i64 0, .slice none 0 0, .int .i64 0, .slice none 0 0] 26) = X1 := ⟨_, rfl⟩; have HBX1 : Hid (Below w.heap.size w X1) := by rw [← hX1]; exact HB1.out.alloc HB1.out.size _
    have HE1 : Hid (Blk X1 w1.heap.size (.cells #[.int .i64 1, .int .i64 0, .int .i64 1, .int .i64 0, .slice none 0 0, .int .i64 0, .slice none 0 0] 26)) := by rw [← hX1]; exact Blk.new _ _
    have HYX1 : Hid (Blk X1 w.heap.size (.cells z59 59)) := by rw [← hX1]; exact HY1.out.alloc _
    rw [hX1]; clear hX1; go_wp2_with fail
    refine (rstart_any 1 X1).mono ?_; rintro r w3 ⟨rfl, hB3⟩; have HB3 : Hid (Below w.heap.size w w3) := HBX1.out.trans (hB3.mono HBX1.out.size); have HE3 := Lib.hid (HE1.out.below hB3 HE1.out.lt); have HY3 := Lib.hid (HYX1.out.below hB3 HYX1.out.lt); rw [HS1.out]; unfold enV; clear hB3; go_upto_region 10 with fail
    obtain ⟨X2, hX2⟩ : ∃ X2, w3.alloc (.cells #[.int .i64 1, .int .i64 0, .int .i64 1, .int .i64 0, .slice none 0 0, .int .i64 0, .slice none 0 0] 26) = X2 := ⟨_, rfl⟩; have HBX2 : Hid (Below w.heap.size w X2) := by rw [← hX2]; exact HB3.out.alloc HB3.out.size _
    have HE4 : Hid (Blk X2 w1.heap.size (.cells #[.int .i64 1, .int .i64 0, .int .i64 1, .int .i64 0, .slice none 0 0, .int .i64 0, .slice none 0 0] 26)) := by rw [← hX2]; exact HE3.out.alloc _
    have HE5 : Hid (Blk X2 w3.heap.size (.cells #[.int .i64 1, .int .i64 0, .int .i64 1, .int .i64 0, .slice none 0 0, .int .i64 0, .slice none 0 0] 26)) := by rw [← hX2]; exact Blk.new _ _
    have HYX2 : Hid (Blk X2 w.heap.size (.cells z59 59)) := by rw [← hX2]; exact HY3.out.alloc _
    rw [hX2]; clear hX2; obtain ⟨c0, c1, c2, c3, c4, c5, c6, cl⟩ := Blk.d7 HE4.out; obtain ⟨e0, e1, e2, e3, e4, e5, e6, el⟩ := Blk.d7 HE5.out; go_upto_region 11 with fail
    obtain ⟨X3, hX3⟩ : ∃ X3, (X2.alloc (.cells #[.int .i64 1, .int .i64 0, .int .i64 1, .int .i64 0, .slice none 0 0, .int .i64 0, .slice none 0 0, .int .i64 1, .int .i64 0, .int .i64 1, .int .i64 0, .slice none 0 0, .int .i64 0, .slice none 0 0] 26)).alloc (.cells #[.slice (some ⟨X2.heap.size, 0, none⟩) 2 2, .slice none 0 0, .slice none 0 0] 59) = X3 := ⟨_, rfl⟩; have HBX3 : Hid (Below w.heap.size w X3) := by rw [← hX3]; exact (HBX2.out.alloc HBX2.out.size _).alloc (Nat.le_trans HBX2.out.size (by simp)) _
    have hbk : Blk X3 X2.heap.size (.cells (lvB firstA m0) 26) := by rw [← hX3]; exact (Blk.new X2 (.cells (lvB firstA m0) 26)).alloc _
    have HLX3 := Lib.hid (first_lv hbk HBX2.out.size); have HYX3 : Hid (Blk X3 w.heap.size (.cells z59 59)) := by rw [← hX3]; exact (HYX2.out.alloc _).alloc _
    rw [hX3]; have hxk : Blk X3 (X2.heap.size + 1) (.cells (lvX X2.heap.size firstA m0) 59) := by
     rw [← hX3]; have e9 := Blk.new (X2.alloc (.cells (lvB firstA m0) 26)) (.cells (lvX X2.heap.size firstA m0) 59); rw [World.size_alloc] at e9; exact e9
    have HXX3 := Lib.hid hxk; clear hxk hbk c0 c1 c2 c3 c4 c5 c6 cl e0 e1 e2 e3 e4 e5 e6 el hX3 HE4 HE5 HYX2 HE3 HY3 HE1 HYX1 HB3 HY1 HB1; go_wp2_with fail
    go_loopg [10] ds.length (fun g iv wr => ∃ (k : Nat) (M : Lm), k + g = ds.length ∧ iv = .int .i64 (k : Int) ∧ Lv wr w.heap.size X2.heap.size ((ds.take k).foldl rDoes firstA) M ∧ Blk wr (X2.heap.size + 1) (.cells (lvX X2.heap.size ((ds.take k).foldl rDoes firstA) M) 59) ∧ Blk wr w.heap.size (.cells z59 59) ∧ Below w.heap.size w wr)
    case atStart => exact ⟨0, m0, Nat.zero_add _, rfl, HLX3.out, HXX3.out, HYX3.out, HBX3.out⟩
    case round =>
     obtain ⟨k, M, hk, rfl, hl, hx, hy, hB⟩ := hrel; have HK := Lib.hid hk; have HLR := Lib.hid hl; have HXR := Lib.hid hx; have HYR := Lib.hid hy; have HBR := Lib.hid hB; have HRK := Lib.hid (folds_rk HALL.out HLN.out k).2; have HFR := Lib.hid (rfolds_free (ds.take k) firstA); clear hk hl hx hy hB; by_cases hlt : (k : Int) < (ds.length : Int)
     ·obtain ⟨x, b, o, hx, hb, hix, c0, c1, c2, c3⟩ := dd_at (c := c) (k := k) HC.out (by omega); have HX := Lib.hid hx; have HDX := Lib.hid (HALL.out x (List.mem_of_getElem? hx)); have HFS := Lib.hid (rfold_take hx); have hw1 : IntKind.i64.wrap ((k : Int) + 1) = (k : Int) + 1 := wrap_ok ⟨by omega, by have := HLN.out; omega⟩; obtain ⟨L, HL⟩ : ∃ L, Hid ((ds.take k).foldl rDoes firstA = L) := ⟨_, rfl⟩; rw [HL.out] at HLR HXR HRK HFR HFS; have NB : Hid (¬ LV X2.heap.size L M b) := fun h9 => by have := (HLR.out.lb h9).1; omega
      have NX : Hid (¬ LV X2.heap.size L M (X2.heap.size + 1)) := HLR.out.ne HXR.out (by decide) (by decide) (by decide) (by decide); have hbw : b < wr.heap.size := by have := HBR.out.size; omega
      have C0 := Lib.hid ((HBR.out.cell (p := ⟨b, o, none⟩) hb).trans c0); have C1 := Lib.hid ((HBR.out.cell (p := ⟨b, o + 1, none⟩) hb).trans c1); have C2 := Lib.hid ((HBR.out.cell (p := ⟨b, o + 2, none⟩) hb).trans c2); have C3 := Lib.hid ((HBR.out.cell (p := ⟨b, o + 3, none⟩) hb).trans c3); clear hx c0 c1 c2 c3; go_upto_region 14 with fail
      refine drawl (fun w' => Frame (LV X2.heap.size L M) wr w') 6 6 rfl (by kernel_rfl) (fun Qd hQd => ?_); iterate 5 (first | apply sL 0 (by rfl) (by kernel_rfl) rfl (by kernel_rfl) | apply sL 1 (by rfl) (by kernel_rfl) rfl (by kernel_rfl) | apply sL 2 (by rfl) (by kernel_rfl) rfl (by kernel_rfl) | apply sL 3 (by rfl) (by kernel_rfl) rfl (by kernel_rfl) | apply sL 4 (by rfl) (by kernel_rfl) rfl (by kernel_rfl)); (focus intro wI hI Kv hKv; obtain ⟨x0, x1, x2, xl⟩ := Blk.d3 (HXR.out.frame hI NX.out); have d0 := cell_frame hI hbw NB.out C0.out; have d1 := cell_frame hI hbw NB.out C1.out; have d2 := cell_frame hI hbw NB.out C2.out; have d3 := cell_frame hI hbw NB.out C3.out; go_simp; exact hKv); intro Kd hKd; go_simp; refine hKd _ ?_; clear hKd Kd
      refine anyL_one 5 rfl (by kernel_rfl) ((Frame.refl _ wr).drew) (fun Kd hKd => ?_); go_wp2_with (go_at_call 66; go_must (refine (does66_any w.heap.size X2.heap.size L M x _ HLR.out.drew HDX.out HRK.out HFR.out).mono ?_); rintro r w5 ⟨m5, rfl, hl5, hw5⟩)
      have hw5 : Lw X2.heap.size L M wr (rDoes L x) m5 w5 := (Lw.of_below (Below.refl _ wr).drew).trans hw5; have HW5 := Lib.hid hw5; have HL5 := Lib.hid hl5; have bx := HXR.out.frame hw5.fr NX.out; obtain ⟨y0, y1, y2⟩ := Blk.c3 bx; obtain ⟨z0, z1, z2, zl⟩ := Blk.g3 bx; have HBX := Lib.hid bx; clear hl5 hw5 bx; unfold lvV; refine anyL_end rfl (by kernel_rfl) (HW5.out.fr) (fun Kd hKd => ?_); go_wp2; have hs9 : Lv (set59 w5 (X2.heap.size + 1) X2.heap.size (rDoes L x) m5) w.heap.size X2.heap.size (rDoes L x) m5 := set59_lv HL5.out HBX.out; have hx9 : Blk (set59 w5 (X2.heap.size + 1) X2.heap.size (rDoes L x) m5) (X2.heap.size + 1) (.cells (lvX X2.heap.size (rDoes L x) m5) 59) := set59_blk HBX.out; have hw9 := HBX2.out.size; have hy5 := HYR.out.frame HW5.out.fr (fun e9 => HLR.out.ne HYR.out (by decide) (by decide) (by decide) (by decide) e9); have hne : w.heap.size ≠ X2.heap.size + 1 := by omega
      have hb5 : Below w.heap.size w w5 := HBR.out.trans (HW5.out.below HLR.out); go_roundg (ds.length - (k + 1))
      case measure => have := HK.out; omega
      case rel => exact ⟨k + 1, m5, by have := HK.out; omega, rfl, by rw [HFS.out]; exact hs9, by rw [HFS.out]; exact hx9, ((hy5.far (p := ⟨X2.heap.size + 1, 0, none⟩) hne _).far (p := ⟨X2.heap.size + 1, 1, none⟩) hne _).far (p := ⟨X2.heap.size + 1, 2, none⟩) hne _, ((hb5.setCell (p := ⟨X2.heap.size + 1, 0, none⟩) (by show w.heap.size ≤ X2.heap.size + 1; omega) _).setCell (p := ⟨X2.heap.size + 1, 1, none⟩) (by show w.heap.size ≤ X2.heap.size + 1; omega) _).setCell (p := ⟨X2.heap.size + 1, 2, none⟩) (by show w.heap.size ≤ X2.heap.size + 1; omega) _⟩
     ·have hke : k = ds.length := by have := HK.out; omega
      have HP : Hid (rPlayed ds = (ds.foldl rDoes firstA, 0)) := by
       show _ = _; unfold rPlayed; have h9 : ¬ ds.all deedB = false := by rw [List.all_eq_true.2 HALL.out]; decide
       rw [if_neg (by have := HLN.out; omega), if_neg h9]
      rw [hke, List.take_length] at HLR HXR; clear hke; obtain ⟨L, HL⟩ : ∃ L, Hid (ds.foldl rDoes firstA = L) := ⟨_, rfl⟩; rw [HL.out] at HLR HXR HP; obtain ⟨x0, x1, x2, xl⟩ := Blk.d3 HXR.out; obtain ⟨y0, y1, y2⟩ := Blk.c3 HYR.out; obtain ⟨z0, z1, z2, zl⟩ := Blk.g3 HYR.out; go_wp2; have hbk : Blk (set59 wr w.heap.size X2.heap.size L M) w.heap.size (.cells (lvX X2.heap.size L M) 59) := set59_blk HYR.out; refine bodyPost_ret (v := .tuple #[lvV X2.heap.size L M, .int .i64 0]) (results_ct rfl rfl rfl (load59 hbk)) rfl ⟨((HBR.out.setCell (p := ⟨w.heap.size, 0, none⟩) (Nat.le_refl _) _).setCell (p := ⟨w.heap.size, 1, none⟩) (Nat.le_refl _) _).setCell (p := ⟨w.heap.size, 2, none⟩) (Nat.le_refl _) _, .inr ⟨by rw [HP.out], X2.heap.size, M, by rw [HP.out], by rw [HP.out]; exact set59_lv HLR.out HYR.out⟩⟩
end Go.Proofs.Ytejabnoidhlfaaa
