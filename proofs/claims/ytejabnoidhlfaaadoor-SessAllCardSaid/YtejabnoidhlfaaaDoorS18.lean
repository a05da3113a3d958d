/- Contract: Start. -/
import Derived.Test.YtejabnoidhlfaaaDoorS16

/- Contracts: Start. -/
namespace Go.Proofs.YtejabnoidhlfaaaDoor
open Go.RowKit Go.Maps

set_option maxRecDepth 100000 in
set_option maxHeartbeats 4000000 in
theorem start_any (life : Int) (w : World) :
  Calls Tryd.prog 54 #[.int .i64 life] w fun r w' => r = .returned (.tuple #[enV (startA life).1 none 0 none 0, .int .i64 (startA life).2]) ∧ Below w.heap.size w w' := by
 by_cases g1 : life < 1
 ·have HS : Hid (startA life = (noEn, 2)) := by show _ = _; unfold startA; rw [if_neg (by omega)]
  go_enter Tryd.func54, Tryd.ntmps54
  go_wp2
  have hl := load26 (w := w.alloc (.cells (enB noEn none 0 none 0) 38)) (b := w.heap.size) (Blk.new w _)
  exact bodyPost_ret (v := .tuple #[enV noEn none 0 none 0, .int .i64 2]) (results_ct rfl rfl rfl hl) rfl ⟨by rw [HS.out], (Below.refl _ w).alloc (Nat.le_refl _) _⟩
 ·have q1 : decide (life < 1) = false := decide_eq_false g1
  by_cases g2 : 1000000000 < life
  ·have HS : Hid (startA life = (noEn, 2)) := by show _ = _; unfold startA most; rw [if_neg (by omega)]
   go_enter Tryd.func54, Tryd.ntmps54
   go_wp2
   have hl := load26 (w := w.alloc (.cells (enB noEn none 0 none 0) 38)) (b := w.heap.size) (Blk.new w _)
   exact bodyPost_ret (v := .tuple #[enV noEn none 0 none 0, .int .i64 2]) (results_ct rfl rfl rfl hl) rfl ⟨by rw [HS.out], (Below.refl _ w).alloc (Nat.le_refl _) _⟩
  ·have q2 : decide (1000000000 < life) = false := decide_eq_false g2
   have HS : Hid (startA life = (⟨life, 0, 1, 0, [], 0, []⟩, 0)) := by show _ = _; unfold startA most; rw [if_pos (by omega)]
   go_enter Tryd.func54, Tryd.ntmps54
   go_wp2
   have hl := load26 (w := w.alloc (.cells (enB ⟨life, 0, 1, 0, [], 0, []⟩ none 0 none 0) 38)) (b := w.heap.size) (Blk.new w _)
   exact bodyPost_ret (v := .tuple #[enV ⟨life, 0, 1, 0, [], 0, []⟩ none 0 none 0, .int .i64 0]) (results_ct rfl rfl rfl hl) rfl ⟨by rw [HS.out], (Below.refl _ w).alloc (Nat.le_refl _) _⟩
theorem enAt_noEn (w : World) : EnAt w noEn none none := ⟨Cells.nil _ _, Cells.nil _ _⟩
end Go.Proofs.YtejabnoidhlfaaaDoor
