/- Contract: proper, first part. -/
import Derived.Test.YtejabnoidhlfaaaDoorS19

/- Contract: proper, a greeting and an acknowledgement. -/
namespace Go.Proofs.YtejabnoidhlfaaaDoor
open Go.RowKit Go.Maps

theorem nil_list : (⟨#[]⟩ : ByteArray).toList = [] := by simp [ByteArray.toList_eq]
theorem size0 {t : ByteArray} (h : t.toList = []) : t = ⟨#[]⟩ := toList_inj (h.trans nil_list.symm)
set_option maxRecDepth 100000 in
set_option maxHeartbeats 16000000 in
theorem proper_1 (fr to nu : Int) (t : ByteArray) (ac he : Int) (w : World) (h : 1 ≤ fr ∧ fr ≤ 1000000000 ∧ 0 ≤ to ∧ to ≤ 1000000000) :
  Calls Tryd.prog 30 #[pkV ⟨1, fr, to, nu, t, ac, he⟩] w fun r w' => r = .returned (.bool (properB ⟨1, fr, to, nu, t, ac, he⟩)) ∧ Below w.heap.size w w' := by
 obtain ⟨h1, h2, h3, h4⟩ := h
 have hst := stood44
 have hgd := guard44
 unfold pkV
 have q1 : decide (fr < 1) = false := decide_eq_false (by omega)
 have q2 : decide (1000000000 < fr) = false := decide_eq_false (by omega)
 have q3 : decide (to < 0) = false := decide_eq_false (by omega)
 have q4 : decide (1000000000 < to) = false := decide_eq_false (by omega)
 by_cases e1 : nu = 0
 ·subst e1
  by_cases e2 : t.toList = []
  ·have e2' := size0 e2
   subst e2'
   by_cases e3 : ac = 0
   ·subst e3
    by_cases e4 : he = 0
    ·subst e4
     have HNP : Hid (properB ⟨1, fr, to, 0, ⟨#[]⟩, 0, 0⟩ = true) := proper_iff.2 ⟨⟨h1, h2, h3, h4⟩, .inl ⟨rfl, rfl, rfl, rfl, rfl⟩⟩
     go_enter Tryd.func30, Tryd.ntmps30
     go_wp2
     go_ret
     exact ⟨by rw [HNP.out]; rfl, ((Below.refl _ w).alloc (Nat.le_refl _) _).alloc (by simp) _⟩
    ·have HNP : Hid (properB ⟨1, fr, to, 0, ⟨#[]⟩, 0, he⟩ = false) := not_proper fun hp => by
      rcases (proper_iff.1 hp).2 with h | h | h
      ·exact e4 h.2.2.2.2
      ·exact absurd h.1 (by show ¬ (1 : Int) = 2; omega)
      ·exact absurd h.1 (by show ¬ (1 : Int) = 3; omega)
     go_enter Tryd.func30, Tryd.ntmps30
     go_wp2
     go_ret
     exact ⟨by rw [HNP.out]; rfl, ((Below.refl _ w).alloc (Nat.le_refl _) _).alloc (by simp) _⟩
   ·have HNP : Hid (properB ⟨1, fr, to, 0, ⟨#[]⟩, ac, he⟩ = false) := not_proper fun hp => by
     rcases (proper_iff.1 hp).2 with h | h | h
     ·exact e3 h.2.2.2.1
     ·exact absurd h.1 (by show ¬ (1 : Int) = 2; omega)
     ·exact absurd h.1 (by show ¬ (1 : Int) = 3; omega)
    go_enter Tryd.func30, Tryd.ntmps30
    go_wp2
    go_ret
    exact ⟨by rw [HNP.out]; rfl, ((Below.refl _ w).alloc (Nat.le_refl _) _).alloc (by simp) _⟩
  ·have HNP : Hid (properB ⟨1, fr, to, 0, t, ac, he⟩ = false) := not_proper fun hp => by
    rcases (proper_iff.1 hp).2 with h | h | h
    ·exact e2 (by have := h.2.2.1; simp only at this; rw [this]; exact nil_list)
    ·exact absurd h.1 (by show ¬ (1 : Int) = 2; omega)
    ·exact absurd h.1 (by show ¬ (1 : Int) = 3; omega)
   go_enter Tryd.func30, Tryd.ntmps30
   go_wp2
   go_ret
   exact ⟨by rw [HNP.out]; rfl, ((Below.refl _ w).alloc (Nat.le_refl _) _).alloc (by simp) _⟩
 ·have HNP : Hid (properB ⟨1, fr, to, nu, t, ac, he⟩ = false) := not_proper fun hp => by
   rcases (proper_iff.1 hp).2 with h | h | h
   ·exact e1 h.2.1
   ·exact absurd h.1 (by show ¬ (1 : Int) = 2; omega)
   ·exact absurd h.1 (by show ¬ (1 : Int) = 3; omega)
  go_enter Tryd.func30, Tryd.ntmps30
  go_wp2
  go_ret
  exact ⟨by rw [HNP.out]; rfl, ((Below.refl _ w).alloc (Nat.le_refl _) _).alloc (by simp) _⟩

end Go.Proofs.YtejabnoidhlfaaaDoor
