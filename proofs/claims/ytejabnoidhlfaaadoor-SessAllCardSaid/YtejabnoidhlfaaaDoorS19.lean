/- Equality of values. -/
import Derived.Test.YtejabnoidhlfaaaDoorS6
import Derived.Laws.StructEq
import Derived.Test.YtejabnoidhlfaaaDoorS13

/- Equality of packets, messages. -/
namespace Go.Proofs.YtejabnoidhlfaaaDoor
open Go.RowKit Go.Maps

theorem stood44 : Tryd.prog.stoodInHeld 49 = false := by kernel_rfl
theorem guard44 : Tryd.prog.eqGuardType Tryd.prog.depth 49 = false := by kernel_rfl
theorem toList_inj {a b : ByteArray} (h2 : a.toList = b.toList) : a = b := by
 rw [ByteArray.toList_eq, ByteArray.toList_eq] at h2
 obtain ⟨⟨x⟩⟩ := a
 obtain ⟨⟨y⟩⟩ := b
 simp at h2
 rw [h2]
theorem toList_eq {a b : ByteArray} : (a.toList == b.toList) = decide (a = b) := by
 rw [← beq_toListBytes]
 by_cases h : a = b
 ·subst h
  rw [decide_eq_true rfl, beq_toListBytes]
  simp
 ·rw [decide_eq_false h, beq_toListBytes]
  cases e : (a.toList == b.toList) with
  | false => rfl
  | true =>
   exfalso
   apply h
   have h2 : a.toList = b.toList := by simpa using e
   rw [ByteArray.toList_eq, ByteArray.toList_eq] at h2
   obtain ⟨⟨x⟩⟩ := a
   obtain ⟨⟨y⟩⟩ := b
   simp at h2
   rw [h2]
set_option maxRecDepth 100000 in
set_option maxHeartbeats 4000000 in
theorem eql44 (p q : Pk) (w : World) : (binOp .eql 49 (pkV p) (pkV q)).run Tryd.prog w = .ok (.bool (decide (p = q))) w := by
 have hst := stood44
 obtain ⟨a0, a1, a2, a3, a4, a5, a6⟩ := p
 obtain ⟨b0, b1, b2, b3, b4, b5, b6⟩ := q
 unfold pkV
 by_cases e0 : a0 = b0
 ·by_cases e1 : a1 = b1
  ·by_cases e2 : a2 = b2
   ·by_cases e3 : a3 = b3
    ·by_cases e4 : a4 = b4
     ·by_cases e5 : a5 = b5
      ·by_cases e6 : a6 = b6
       ·subst e0 e1 e2 e3 e4 e5 e6
        go_simp
       ·go_simp
      ·go_simp
     ·have e4' : ¬ a4.toList = b4.toList := fun h => e4 (toList_inj h)
      go_simp
    ·go_simp
   ·go_simp
  ·go_simp
 ·go_simp
end Go.Proofs.YtejabnoidhlfaaaDoor

/- Contract: proper. -/
namespace Go.Proofs.YtejabnoidhlfaaaDoor
open Go.RowKit Go.Maps

theorem proper_iff {p : Pk} : properB p = true ↔ (1 ≤ p.frm ∧ p.frm ≤ 1000000000 ∧ 0 ≤ p.to ∧ p.to ≤ 1000000000) ∧ ((p.kind = 1 ∧ p.num = 0 ∧ p.t = emptyT ∧ p.ack = 0 ∧ p.held = 0) ∨ (p.kind = 2 ∧ 0 < p.to ∧ 0 ≤ p.num ∧ p.num < 1000000000 ∧ p.t.size ≤ 20 ∧ 0 ≤ p.ack ∧ p.ack ≤ 1000000000 ∧ 0 ≤ p.held ∧ p.held ≤ 7) ∨
  (p.kind = 3 ∧ 0 < p.to ∧ p.num = 0 ∧ p.t = emptyT ∧ 0 ≤ p.ack ∧ p.ack ≤ 1000000000 ∧ 0 ≤ p.held ∧ p.held ≤ 7)) := by
 unfold properB most
 by_cases h1 : p.kind = 1
 ·rw [if_pos h1]
  simp only [Bool.and_eq_true, decide_eq_true_eq]
  constructor
  ·rintro ⟨⟨⟨⟨a, b⟩, c⟩, d⟩, ⟨⟨e, f⟩, g⟩, h⟩
   exact ⟨⟨a, b, c, d⟩, .inl ⟨h1, e, f, g, h⟩⟩
  ·rintro ⟨⟨a, b, c, d⟩, h | h | h⟩
   ·exact ⟨⟨⟨⟨a, b⟩, c⟩, d⟩, ⟨⟨h.2.1, h.2.2.1⟩, h.2.2.2.1⟩, h.2.2.2.2⟩
   ·omega
   ·omega
 ·rw [if_neg h1]
  by_cases h2 : p.kind = 2
  ·rw [if_pos h2]
   simp only [Bool.and_eq_true, decide_eq_true_eq]
   constructor
   ·rintro ⟨⟨⟨⟨a, b⟩, c⟩, d⟩, ⟨⟨⟨⟨⟨⟨e, f⟩, g⟩, h⟩, i⟩, j⟩, k⟩, l⟩
    exact ⟨⟨a, b, c, d⟩, .inr (.inl ⟨h2, e, f, g, h, i, j, k, l⟩)⟩
   ·rintro ⟨⟨a, b, c, d⟩, h | h | h⟩
    ·omega
    ·obtain ⟨_, e, f, g, h, i, j, k, l⟩ := h
     exact ⟨⟨⟨⟨a, b⟩, c⟩, d⟩, ⟨⟨⟨⟨⟨⟨e, f⟩, g⟩, h⟩, i⟩, j⟩, k⟩, l⟩
    ·omega
  ·rw [if_neg h2]
   by_cases h3 : p.kind = 3
   ·rw [if_pos h3]
    simp only [Bool.and_eq_true, decide_eq_true_eq]
    constructor
    ·rintro ⟨⟨⟨⟨a, b⟩, c⟩, d⟩, ⟨⟨⟨⟨⟨e, f⟩, g⟩, h⟩, i⟩, j⟩, k⟩
     exact ⟨⟨a, b, c, d⟩, .inr (.inr ⟨h3, e, f, g, h, i, j, k⟩)⟩
    ·rintro ⟨⟨a, b, c, d⟩, h | h | h⟩
     ·omega
     ·omega
     ·obtain ⟨_, e, f, g, h, i, j, k⟩ := h
      exact ⟨⟨⟨⟨a, b⟩, c⟩, d⟩, ⟨⟨⟨⟨⟨e, f⟩, g⟩, h⟩, i⟩, j⟩, k⟩
   ·rw [if_neg h3]
    simp only [Bool.and_false, Bool.false_eq_true, false_iff]
    rintro ⟨_, h | h | h⟩ <;> omega
theorem not_proper {p : Pk} (h : properB p = true → False) : properB p = false := by
 cases hg : properB p with
 | false => rfl
 | true => exact (h hg).elim

set_option maxRecDepth 100000 in
set_option maxHeartbeats 16000000 in
theorem proper_head (p : Pk) (w : World) (hk : ¬ (p.kind = 1 ∨ p.kind = 2 ∨ p.kind = 3) ∨ ¬ (1 ≤ p.frm ∧ p.frm ≤ 1000000000 ∧ 0 ≤ p.to ∧ p.to ≤ 1000000000)) :
  Calls Tryd.prog 30 #[pkV p] w fun r w' => r = .returned (.bool (properB p)) ∧ Below w.heap.size w w' := by
 have HK := Lib.hid hk
 clear hk
 have hst := stood44
 have hgd := guard44
 unfold pkV
 have HBZ : Hid (Below w.heap.size w (w.alloc (.cells #[.int .i64 p.kind, .int .i64 p.frm, .int .i64 p.to, .int .i64 p.num, .string p.t, .int .i64 p.ack, .int .i64 p.held] 49))) := (Below.refl _ w).alloc (Nat.le_refl _) _
 by_cases g1 : p.frm < 1
 ·skip
  have HNP : Hid (properB p = false) := not_proper fun hp => by
   have := proper_iff.1 hp
   omega
  go_enter Tryd.func30, Tryd.ntmps30
  go_wp2
  go_ret
  exact ⟨by rw [HNP.out]; rfl, HBZ.out⟩
 have q1 : decide (p.frm < 1) = false := decide_eq_false g1
 by_cases g2 : 1000000000 < p.frm
 ·skip
  have HNP : Hid (properB p = false) := not_proper fun hp => by
   have := proper_iff.1 hp
   omega
  go_enter Tryd.func30, Tryd.ntmps30
  go_wp2
  go_ret
  exact ⟨by rw [HNP.out]; rfl, HBZ.out⟩
 have q2 : decide (1000000000 < p.frm) = false := decide_eq_false g2
 by_cases g3 : p.to < 0
 ·skip
  have HNP : Hid (properB p = false) := not_proper fun hp => by
   have := proper_iff.1 hp
   omega
  go_enter Tryd.func30, Tryd.ntmps30
  go_wp2
  go_ret
  exact ⟨by rw [HNP.out]; rfl, HBZ.out⟩
 have q3 : decide (p.to < 0) = false := decide_eq_false g3
 by_cases g4 : 1000000000 < p.to
 ·skip
  have HNP : Hid (properB p = false) := not_proper fun hp => by
   have := proper_iff.1 hp
   omega
  go_enter Tryd.func30, Tryd.ntmps30
  go_wp2
  go_ret
  exact ⟨by rw [HNP.out]; rfl, HBZ.out⟩
 have q4 : decide (1000000000 < p.to) = false := decide_eq_false g4
 have hk := HK.out
 have k1 : (p.kind == 1) = false := beq_eq_false_iff_ne.2 (by omega)
 have k2 : (p.kind == 2) = false := beq_eq_false_iff_ne.2 (by omega)
 have k3 : (p.kind == 3) = false := beq_eq_false_iff_ne.2 (by omega)
 have HNP : Hid (properB p = false) := not_proper fun hp => by
  have := proper_iff.1 hp
  omega
 clear hk
 go_enter Tryd.func30, Tryd.ntmps30
 go_wp2
 go_ret
 exact ⟨by rw [HNP.out]; rfl, ((Below.refl _ w).alloc (Nat.le_refl _) _).alloc (by simp) _⟩
end Go.Proofs.YtejabnoidhlfaaaDoor
