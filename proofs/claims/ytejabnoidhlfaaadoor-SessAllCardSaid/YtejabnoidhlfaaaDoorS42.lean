/- Stores of whole values; equality of lists. -/
import Derived.Test.YtejabnoidhlfaaaDoorS41
import Derived.Test.YtejabnoidhlfaaaDoorS19
import Derived.Deep.MidRow

/- Stores of whole values; equality of lists; what the law's helpers make. -/
namespace Go.Proofs.YtejabnoidhlfaaaDoor
open Go.RowKit Go.Maps

theorem Blk.there {w : World} {b : Nat} {cs : Array Value} {t : TypeId} (h : Blk w b (.cells cs t)) : w.there b 0 cs.size := fun j hj => by
 rw [Nat.zero_add]
 refine ⟨?_, h.free j⟩
 rw [h.cell j (v := cs[j]) (by simp [hj])]
 rfl
section
variable {ops : Array Oper} {rest : List Oper} {op : Oper} {a : Act} {w : World} {Q : Exit → Act → World → Prop}
theorem wpList_store26 {b : Nat} {e0 e : En} {A0 D0 A D : Option Addr} {c0 d0 c d : Nat} (hgd : op.guard = none) (x y : Operand) (ho : op.op = .store 38 x y) (h5 : Blk w b (.cells (enB e0 A0 c0 D0 d0) 38)) (hx : a.eval x = .pointer (some ⟨b, 0, none⟩)) (hy : a.eval y = enV e A c D d)
  (h : wpList Tryd.prog ops Q rest (a.put op.dst undef) (setEn w b e A c D d)) : wpList Tryd.prog ops Q (op :: rest) a w :=
 wpList_store_mid hgd 38 x y ho b 0 (enB e A c D d) hx hy h5.there sz26 (by simp [enB, Value.oneCell']) h
theorem wpList_store47 {b : Nat} {g : Gn} {P T L : Option Addr} {cp ct cl : Nat} {u0 u1 u2 : Value} (hgd : op.guard = none) (x y : Operand) (ho : op.op = .store 44 x y) (h5 : Blk w b (.cells #[u0, u1, u2] 44)) (hx : a.eval x = .pointer (some ⟨b, 0, none⟩)) (hy : a.eval y = gnV g P cp T ct L cl)
  (h : wpList Tryd.prog ops Q rest (a.put op.dst undef) (setGn w b g P cp T ct L cl)) : wpList Tryd.prog ops Q (op :: rest) a w :=
 wpList_store_mid hgd 44 x y ho b 0 (gnB g P cp T ct L cl) hx hy h5.there (by kernel_rfl) (by simp [gnB, Value.oneCell']) h
end
set_option maxRecDepth 100000 in
set_option maxHeartbeats 4000000 in
theorem neq44 (p q : Pk) (w : World) : (binOp .neq 49 (pkV p) (pkV q)).run Tryd.prog w = .ok (.bool (!decide (p = q))) w := by
 have hst := stood44
 obtain ⟨a0, a1, a2, a3, a4, a5, a6⟩ := p
 obtain ⟨b0, b1, b2, b3, b4, b5, b6⟩ := q
 unfold pkV
 by_cases e0 : a0 = b0
 ·by_cases e1 : a1 = b1
  ·by_cases e2 : a2 = b2
   ·by_cases e3 : a3 = b3
    ·by_cases e4 : a4 = b4
     ·by_cases e5 : a5 = b5
      ·by_cases e6 : a6 = b6
       ·subst e0 e1 e2 e3 e4 e5 e6
        go_simp
       ·go_simp
      ·go_simp
     ·have e4' : ¬ a4.toList = b4.toList := fun h => e4 (toList_inj h)
      go_simp
    ·go_simp
   ·go_simp
  ·go_simp
 ·go_simp
theorem take_eq_all {α : Type} {a b : List α} (hl : a.length = b.length) {k : Nat} (hk : a.take k = b.take k) (h : a.length ≤ k) : a = b := by
 rwa [List.take_of_length_le h, List.take_of_length_le (by omega)] at hk
set_option maxRecDepth 100000 in
set_option maxHeartbeats 8000000 in
theorem same_packets (A : Option Addr) (ca : Nat) (a : List Pk) (B : Option Addr) (cb : Nat) (b : List Pk) (w : World) (ha : Cells w A (pks a)) (hb : Cells w B (pks b)) :
  Calls Tryd.prog 41 #[.slice A a.length ca, .slice B b.length cb] w fun r w' => r = .returned (.bool (decide (a = b))) ∧ Below w.heap.size w w' := by
 have HLB : Hid (a.length * 7 ≤ 17592186043904) := by have := ha.1; rw [pks_len] at this; exact this
 have HA := Lib.hid ha
 have HB := Lib.hid hb
 clear ha hb
 go_enter Tryd.func41, Tryd.ntmps41
 by_cases hl : (a.length : Int) = (b.length : Int)
 rotate_left
 ·have q0 : ((a.length : Int) != (b.length : Int)) = true := by simpa using hl
  have HN : Hid (decide (a = b) = false) := decide_eq_false fun e => hl (by rw [e])
  clear hl
  go_wp2
  go_ret
  exact ⟨by rw [HN.out]; rfl, Below.refl _ _⟩
 have HL : Hid (a.length = b.length) := by show _ = _; omega
 have q0 : ((a.length : Int) != (b.length : Int)) = false := by simpa using hl
 clear hl
 go_wp2
 go_loopg [5] a.length (fun g iv wr => ∃ k : Nat, k + g = a.length ∧ iv = .int .i64 (k : Int) ∧ a.take k = b.take k ∧ Below w.heap.size w wr)
 case atStart => exact ⟨0, Nat.zero_add _, rfl, rfl, Below.refl _ _⟩
 case round =>
  obtain ⟨k, hk, rfl, htk, hB⟩ := hrel
  have HK := Lib.hid hk
  have HT := Lib.hid htk
  have HBR := Lib.hid hB
  clear hk htk hB
  by_cases hlt : (k : Int) < (a.length : Int)
  ·obtain ⟨x, xb, xo, hx, hxb, hxi, hx0, hx1, hx2, hx3, hx4, hx5, hx6⟩ := pk_at (c := ca) (k := k) (HA.out.below HBR.out (Nat.le_refl _)) (by omega)
   obtain ⟨y, yb, yo, hy, hyb, hyi, hy0, hy1, hy2, hy3, hy4, hy5, hy6⟩ := pk_at (c := cb) (k := k) (HB.out.below HBR.out (Nat.le_refl _)) (by have := HL.out; omega)
   have HX := Lib.hid hx
   have HY := Lib.hid hy
   have hw1 : IntKind.i64.wrap ((k : Int) + 1) = (k : Int) + 1 := wrap_ok ⟨by omega, by have := HA.out.1; have := HLB.out; omega⟩
   clear hx hy
   have heq : ∀ w : World, (binOp .neq 49 (.agg #[.int .i64 x.kind, .int .i64 x.frm, .int .i64 x.to, .int .i64 x.num, .string x.t, .int .i64 x.ack, .int .i64 x.held]) (.agg #[.int .i64 y.kind, .int .i64 y.frm, .int .i64 y.to, .int .i64 y.num, .string y.t, .int .i64 y.ack, .int .i64 y.held])).run Tryd.prog w = .ok (.bool (!decide (x = y))) w := fun w => neq44 x y w
   obtain ⟨nb, HNB⟩ : ∃ nb, decide (x = y) = nb := ⟨_, rfl⟩
   go_upto_region 6 with fail
   cases nb with
   | true =>
    have HXY : Hid (x = y) := Lib.hid (of_decide_eq_true HNB)
    refine sall (by kernel_rfl) (by kernel_rfl) (fun Kq hKq => ?_)
    repeat still_step
    refine wpStill_nil (hKq _ ?_)
    clear hKq Kq
    go_wp2_with fail
    go_roundg (a.length - (k + 1))
    case measure => have := HK.out; omega
    case rel => exact ⟨k + 1, by omega, rfl, by rw [take_succ_of HX.out, take_succ_of HY.out, HT.out, HXY.out], HBR.out.drew⟩
   | false =>
    have HN : Hid (decide (a = b) = false) := decide_eq_false fun e => by
     have h1 := HX.out
     rw [e, HY.out] at h1
     injection h1 with h1
     exact of_decide_eq_false HNB h1.symm
    refine sall (by kernel_rfl) (by kernel_rfl) (fun Kq hKq => ?_)
    repeat still_step
    refine wpStill_nil (hKq _ ?_)
    clear hKq Kq
    go_wp2
    go_ret
    exact ⟨by rw [HN.out]; rfl, HBR.out.drew⟩
  ·have HY : Hid (decide (a = b) = true) := decide_eq_true (take_eq_all HL.out HT.out (by omega))
   go_wp2
   go_ret
   exact ⟨by rw [HY.out]; rfl, HBR.out⟩
set_option maxRecDepth 100000 in
set_option maxHeartbeats 8000000 in
theorem same_texts (A : Option Addr) (ca : Nat) (a : List ByteArray) (B : Option Addr) (cb : Nat) (b : List ByteArray) (w : World) (ha : Cells w A (strs a)) (hb : Cells w B (strs b)) :
  Calls Tryd.prog 39 #[.slice A a.length ca, .slice B b.length cb] w fun r w' => r = .returned (.bool (decide (a = b))) ∧ Below w.heap.size w w' := by
 have HLB : Hid (a.length ≤ 17592186043904) := by have := ha.1; rw [strs_len] at this; exact this
 have HA := Lib.hid ha
 have HB := Lib.hid hb
 clear ha hb
 go_enter Tryd.func39, Tryd.ntmps39
 by_cases hl : (a.length : Int) = (b.length : Int)
 rotate_left
 ·have q0 : ((a.length : Int) != (b.length : Int)) = true := by simpa using hl
  have HN : Hid (decide (a = b) = false) := decide_eq_false fun e => hl (by rw [e])
  clear hl
  go_wp2
  go_ret
  exact ⟨by rw [HN.out]; rfl, Below.refl _ _⟩
 have HL : Hid (a.length = b.length) := by show _ = _; omega
 have q0 : ((a.length : Int) != (b.length : Int)) = false := by simpa using hl
 clear hl
 go_wp2
 go_loopg [5] a.length (fun g iv wr => ∃ k : Nat, k + g = a.length ∧ iv = .int .i64 (k : Int) ∧ a.take k = b.take k ∧ Below w.heap.size w wr)
 case atStart => exact ⟨0, Nat.zero_add _, rfl, rfl, Below.refl _ _⟩
 case round =>
  obtain ⟨k, hk, rfl, htk, hB⟩ := hrel
  have HK := Lib.hid hk
  have HT := Lib.hid htk
  have HBR := Lib.hid hB
  clear hk htk hB
  by_cases hlt : (k : Int) < (a.length : Int)
  ·obtain ⟨x, xb, xo, hx, hxb, hxi, hx0⟩ := st_at (c := ca) (k := k) (HA.out.below HBR.out (Nat.le_refl _)) (by omega)
   obtain ⟨y, yb, yo, hy, hyb, hyi, hy0⟩ := st_at (c := cb) (k := k) (HB.out.below HBR.out (Nat.le_refl _)) (by have := HL.out; omega)
   have HX := Lib.hid hx
   have HY := Lib.hid hy
   have hw1 : IntKind.i64.wrap ((k : Int) + 1) = (k : Int) + 1 := wrap_ok ⟨by omega, by have := HA.out.1; have := HLB.out; omega⟩
   clear hx hy
   have heq : (x.toList == y.toList) = decide (x = y) := toList_eq
   obtain ⟨nb, HNB⟩ : ∃ nb, decide (x = y) = nb := ⟨_, rfl⟩
   go_upto_region 6 with fail
   cases nb with
   | true =>
    have HXY : Hid (x = y) := Lib.hid (of_decide_eq_true HNB)
    refine sall (by kernel_rfl) (by kernel_rfl) (fun Kq hKq => ?_)
    repeat still_step
    refine wpStill_nil (hKq _ ?_)
    clear hKq Kq
    go_wp2_with fail
    go_roundg (a.length - (k + 1))
    case measure => have := HK.out; omega
    case rel => exact ⟨k + 1, by omega, rfl, by rw [take_succ_of HX.out, take_succ_of HY.out, HT.out, HXY.out], HBR.out.drew⟩
   | false =>
    have HN : Hid (decide (a = b) = false) := decide_eq_false fun e => by
     have h1 := HX.out
     rw [e, HY.out] at h1
     injection h1 with h1
     exact of_decide_eq_false HNB h1.symm
    refine sall (by kernel_rfl) (by kernel_rfl) (fun Kq hKq => ?_)
    repeat still_step
    refine wpStill_nil (hKq _ ?_)
    clear hKq Kq
    go_wp2
    go_ret
    exact ⟨by rw [HN.out]; rfl, HBR.out.drew⟩
  ·have HY : Hid (decide (a = b) = true) := decide_eq_true (take_eq_all HL.out HT.out (by omega))
   go_wp2
   go_ret
   exact ⟨by rw [HY.out]; rfl, HBR.out⟩
end Go.Proofs.YtejabnoidhlfaaaDoor
