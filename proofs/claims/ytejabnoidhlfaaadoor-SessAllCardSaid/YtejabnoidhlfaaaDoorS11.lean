/- Contract: sent. -/
import Derived.Test.YtejabnoidhlfaaaDoorS8

/- Contracts: sent. -/
namespace Go.Proofs.YtejabnoidhlfaaaDoor
open Go.RowKit Go.Maps

set_option maxRecDepth 100000 in
set_option maxHeartbeats 4000000 in
theorem sent_any (bx bm : Nat) (e : En) (A : Option Addr) (c : Nat) (vi : Value) (w : World) (h : Xs w bx bm e A c vi) (_hA0 : A = none → e.out.length = 0) (hl : e.out.length ≤ 1000) :
  Calls Tryd.prog 26 #[.pointer (some ⟨bx, 0, none⟩)] w fun r w' => (∃ A', r = .returned (.slice A' (flyN e) (flyN e)) ∧ Cells w A' (ous (e.out.take (flyN e)))) ∧ w = w' := by
 have HX := Lib.hid h
 have c2 := h.box.cell 2 (v := .int .i64 e.phase) rfl
 have c4 := h.box.cell 4 (v := .slice A e.out.length c) rfl
 have lb := h.box.lt
 have hcap := h.cap
 cases hp : (e.phase != 3) with
 | true =>
  have HF : Hid (flyN e = 0) := by show _ = _; unfold flyN; rw [if_neg (by simpa using hp)]
  clear h
  go_enter Tryd.func26, Tryd.ntmps26
  go_wp2
  go_ret
  exact ⟨⟨none, by rw [HF.out]; rfl, by rw [HF.out]; exact Cells.nil _ _⟩, rfl⟩
 | false =>
  have hp3 : e.phase = 3 := by simpa using hp
  have HF : Hid (flyN e = min e.out.length 4) := by show _ = _; unfold flyN; rw [if_pos hp3]
  have htk : ∀ k : Nat, k ≤ e.out.length → Cells w A (ous (e.out.take k)) := fun k hk => by
   obtain ⟨hcl, b, off, hb0, hA, hc⟩ := h.out
   have hpre : ous (e.out.take k) = (ous e.out).take (k * 2) := by
    have e1 : ous e.out = ous (e.out.take k) ++ ous (e.out.drop k) := by unfold ous; rw [← List.flatMap_append, List.take_append_drop]
    rw [e1, List.take_left' (by rw [ous_len, List.length_take]; omega)]
   refine ⟨by rw [hpre, List.length_take]; omega, b, off, hb0, fun hn => hA (fun h0 => hn (by rw [hpre, h0]; simp)), fun j v hj => hc j v ?_⟩
   rw [hpre, List.getElem?_take] at hj
   split at hj
   ·exact hj
   ·cases hj
  have HTK := Lib.hid htk
  clear h htk
  by_cases h4 : 4 < e.out.length
  ·have HF' : Hid (flyN e = 4) := by show _ = _; rw [HF.out]; omega
   have q1 : (4 : Int) < (e.out.length : Int) := by omega
   have q2 : ¬ ((e.out.length : Int) < 4) := by omega
   go_enter Tryd.func26, Tryd.ntmps26
   go_wp2
   go_ret
   exact ⟨⟨A, by rw [HF'.out]; rfl, by rw [HF'.out]; exact HTK.out 4 (by omega)⟩, rfl⟩
  ·have HF' : Hid (flyN e = e.out.length) := by show _ = _; rw [HF.out]; omega
   have q1 : ¬ (4 : Int) < (e.out.length : Int) := by omega
   have HTK' : Hid (Cells w A (ous (e.out.take e.out.length))) := HTK.out _ (Nat.le_refl _)
   by_cases h5 : (e.out.length : Int) < 4
   ·go_enter Tryd.func26, Tryd.ntmps26
    go_wp2
    go_ret
    exact ⟨⟨A, by rw [HF'.out]; rfl, by rw [HF'.out]; exact HTK'.out⟩, rfl⟩
   ·have h6 : e.out.length = 4 := by omega
    have HTK4 : Hid (Cells w A (ous (e.out.take 4))) := HTK.out _ (by omega)
    have HF4 : Hid (flyN e = 4) := by show _ = _; rw [HF'.out, h6]
    clear HTK HTK' HF' HF q1 h4 h5
    go_enter Tryd.func26, Tryd.ntmps26
    go_wp2
    go_ret
    exact ⟨⟨A, by rw [HF4.out]; rfl, by rw [HF4.out]; exact HTK4.out⟩, rfl⟩
end Go.Proofs.YtejabnoidhlfaaaDoor
