/- slices.Equal; the values of the first examples. -/
import Derived.Test.YtejabnoidhlfaaaS42
import Derived.Test.YtejabnoidhlfaaaS43

/- Contracts: slices.Equal. -/
namespace Go.Proofs.Ytejabnoidhlfaaa
open Go.RowKit Go.Maps

set_option maxRecDepth 100000 in
set_option maxHeartbeats 8000000 in
theorem eq_packets (A : Option Addr) (ca : Nat) (a : List Pk) (B : Option Addr) (cb : Nat) (b : List Pk) (w : World) (ha : Cells w A (pks a)) (hb : Cells w B (pks b)) :
    Calls Try.prog 32 #[.slice A a.length ca, .slice B b.length cb] w fun r w' => r = .returned (.bool (decide (a = b))) ∧ Below w.heap.size w w' := by
  have HLB : Hid (a.length * 7 ≤ 17592186043904) := by have := ha.1; rw [pks_len] at this; exact this
  have HA := Lib.hid ha
  have HB := Lib.hid hb
  clear ha hb
  go_enter Try.func32, Try.ntmps32
  by_cases hl : (a.length : Int) = (b.length : Int)
  rotate_left
  · have q0 : ((a.length : Int) != (b.length : Int)) = true := by simpa using hl
    have HN : Hid (decide (a = b) = false) := decide_eq_false fun e => hl (by rw [e])
    clear hl
    go_wp2
    go_ret
    exact ⟨by rw [HN.out]; rfl, Below.refl _ _⟩
  have HL : Hid (a.length = b.length) := by show _ = _; omega
  have q0 : ((a.length : Int) != (b.length : Int)) = false := by simpa using hl
  clear hl
  go_wp2
  go_loopg [5, 13] a.length (fun g _v5 iv wr => ∃ k : Nat, k + g = a.length ∧ iv = .int .i64 (k : Int) ∧ a.take k = b.take k ∧ Below w.heap.size w wr)
  case atStart => exact ⟨0, Nat.zero_add _, rfl, rfl, Below.refl _ _⟩
  case round =>
    obtain ⟨k, hk, rfl, htk, hB⟩ := hrel
    have HK := Lib.hid hk
    have HT := Lib.hid htk
    have HBR := Lib.hid hB
    clear hk htk hB
    by_cases hlt : (k : Int) < (a.length : Int)
    · obtain ⟨x, xb, xo, hx, hxb, hxi, hx0, hx1, hx2, hx3, hx4, hx5, hx6⟩ := pk_at (c := ca) (k := k) (HA.out.below HBR.out (Nat.le_refl _)) (by omega)
      obtain ⟨y, yb, yo, hy, hyb, hyi, hy0, hy1, hy2, hy3, hy4, hy5, hy6⟩ := pk_at (c := cb) (k := k) (HB.out.below HBR.out (Nat.le_refl _)) (by have := HL.out; omega)
      have HX := Lib.hid hx
      have HY := Lib.hid hy
      have hw1 : IntKind.i64.wrap ((k : Int) + 1) = (k : Int) + 1 := wrap_ok ⟨by omega, by have := HA.out.1; have := HLB.out; omega⟩
      clear hx hy
      have heq : ∀ w : World, (binOp .neq 44 (.agg #[.int .i64 x.kind, .int .i64 x.frm, .int .i64 x.to, .int .i64 x.num, .string x.t, .int .i64 x.ack, .int .i64 x.held]) (.agg #[.int .i64 y.kind, .int .i64 y.frm, .int .i64 y.to, .int .i64 y.num, .string y.t, .int .i64 y.ack, .int .i64 y.held])).run Try.prog w = .ok (.bool (!decide (x = y))) w := fun w => neq44 x y w
      obtain ⟨nb, HNB⟩ : ∃ nb, decide (x = y) = nb := ⟨_, rfl⟩
      go_upto_region 6 with fail
      cases nb with
      | true =>
        have HXY : Hid (x = y) := Lib.hid (of_decide_eq_true HNB)
        refine sall (by kernel_rfl) (by kernel_rfl) (fun Kq hKq => ?_)
        repeat still_step
        refine wpStill_nil (hKq _ ?_)
        clear hKq Kq
        go_wp2_with fail
        go_roundg (a.length - (k + 1))
        case measure => have := HK.out; omega
        case rel => exact ⟨k + 1, by omega, rfl, by rw [take_succ_of HX.out, take_succ_of HY.out, HT.out, HXY.out], HBR.out.drew⟩
      | false =>
        have HN : Hid (decide (a = b) = false) := decide_eq_false fun e => by
          have h1 := HX.out
          rw [e, HY.out] at h1
          injection h1 with h1
          exact of_decide_eq_false HNB h1.symm
        refine sall (by kernel_rfl) (by kernel_rfl) (fun Kq hKq => ?_)
        repeat still_step
        refine wpStill_nil (hKq _ ?_)
        clear hKq Kq
        go_wp2
        go_ret
        exact ⟨by rw [HN.out]; rfl, HBR.out.drew⟩
    · have HY : Hid (decide (a = b) = true) := decide_eq_true (take_eq_all HL.out HT.out (by omega))
      go_wp2
      go_ret
      exact ⟨by rw [HY.out]; rfl, HBR.out⟩
set_option maxRecDepth 100000 in
set_option maxHeartbeats 8000000 in
theorem eq_texts (A : Option Addr) (ca : Nat) (a : List ByteArray) (B : Option Addr) (cb : Nat) (b : List ByteArray) (w : World) (ha : Cells w A (strs a)) (hb : Cells w B (strs b)) :
    Calls Try.prog 35 #[.slice A a.length ca, .slice B b.length cb] w fun r w' => r = .returned (.bool (decide (a = b))) ∧ Below w.heap.size w w' := by
  have HLB : Hid (a.length ≤ 17592186043904) := by have := ha.1; rw [strs_len] at this; exact this
  have HA := Lib.hid ha
  have HB := Lib.hid hb
  clear ha hb
  go_enter Try.func35, Try.ntmps35
  by_cases hl : (a.length : Int) = (b.length : Int)
  rotate_left
  · have q0 : ((a.length : Int) != (b.length : Int)) = true := by simpa using hl
    have HN : Hid (decide (a = b) = false) := decide_eq_false fun e => hl (by rw [e])
    clear hl
    go_wp2
    go_ret
    exact ⟨by rw [HN.out]; rfl, Below.refl _ _⟩
  have HL : Hid (a.length = b.length) := by show _ = _; omega
  have q0 : ((a.length : Int) != (b.length : Int)) = false := by simpa using hl
  clear hl
  go_wp2
  go_loopg [5, 13] a.length (fun g _v5 iv wr => ∃ k : Nat, k + g = a.length ∧ iv = .int .i64 (k : Int) ∧ a.take k = b.take k ∧ Below w.heap.size w wr)
  case atStart => exact ⟨0, Nat.zero_add _, rfl, rfl, Below.refl _ _⟩
  case round =>
    obtain ⟨k, hk, rfl, htk, hB⟩ := hrel
    have HK := Lib.hid hk
    have HT := Lib.hid htk
    have HBR := Lib.hid hB
    clear hk htk hB
    by_cases hlt : (k : Int) < (a.length : Int)
    · obtain ⟨x, xb, xo, hx, hxb, hxi, hx0⟩ := st_at (c := ca) (k := k) (HA.out.below HBR.out (Nat.le_refl _)) (by omega)
      obtain ⟨y, yb, yo, hy, hyb, hyi, hy0⟩ := st_at (c := cb) (k := k) (HB.out.below HBR.out (Nat.le_refl _)) (by have := HL.out; omega)
      have HX := Lib.hid hx
      have HY := Lib.hid hy
      have hw1 : IntKind.i64.wrap ((k : Int) + 1) = (k : Int) + 1 := wrap_ok ⟨by omega, by have := HA.out.1; have := HLB.out; omega⟩
      clear hx hy
      have heq : (x.toList == y.toList) = decide (x = y) := toList_eq
      obtain ⟨nb, HNB⟩ : ∃ nb, decide (x = y) = nb := ⟨_, rfl⟩
      go_upto_region 6 with fail
      cases nb with
      | true =>
        have HXY : Hid (x = y) := Lib.hid (of_decide_eq_true HNB)
        refine sall (by kernel_rfl) (by kernel_rfl) (fun Kq hKq => ?_)
        repeat still_step
        refine wpStill_nil (hKq _ ?_)
        clear hKq Kq
        go_wp2_with fail
        go_roundg (a.length - (k + 1))
        case measure => have := HK.out; omega
        case rel => exact ⟨k + 1, by omega, rfl, by rw [take_succ_of HX.out, take_succ_of HY.out, HT.out, HXY.out], HBR.out.drew⟩
      | false =>
        have HN : Hid (decide (a = b) = false) := decide_eq_false fun e => by
          have h1 := HX.out
          rw [e, HY.out] at h1
          injection h1 with h1
          exact of_decide_eq_false HNB h1.symm
        refine sall (by kernel_rfl) (by kernel_rfl) (fun Kq hKq => ?_)
        repeat still_step
        refine wpStill_nil (hKq _ ?_)
        clear hKq Kq
        go_wp2
        go_ret
        exact ⟨by rw [HN.out]; rfl, HBR.out.drew⟩
    · have HY : Hid (decide (a = b) = true) := decide_eq_true (take_eq_all HL.out HT.out (by omega))
      go_wp2
      go_ret
      exact ⟨by rw [HY.out]; rfl, HBR.out⟩
end Go.Proofs.Ytejabnoidhlfaaa

/- What the first examples of the chapter come to. -/
namespace Go.Proofs.Ytejabnoidhlfaaa
open Go.RowKit Go.Maps

def kA0 : En := (startA 1).1
def kB0 : En := (startA 5).1
def kP1 : Pk := ⟨1, 1, 0, 0, ⟨#[]⟩, 0, 0⟩
def kP2 : Pk := ⟨1, 5, 1, 0, ⟨#[]⟩, 0, 0⟩
def kP3 : Pk := ⟨2, 1, 5, 0, tX, 0, 0⟩
def kP4 : Pk := ⟨3, 5, 1, 0, ⟨#[]⟩, 3, 0⟩
def kM : En := ⟨1, 6, 2, 0, [], 0, []⟩
def kB1 : En := (takeA kB0 kP1).1
def kA1 : En := (sendA kA0 tX).1
def kA2 : En := (takeA kA1 kP2).1
theorem k0_ok : (startA 1).2 = 0 ∧ (startA 5).2 = 0 ∧ tickA kA0 = ([kP1], 0) := ⟨by kernel_rfl, by kernel_rfl, by kernel_rfl⟩
theorem k0_flat : kA0 = ⟨1, 0, 1, 0, [], 0, []⟩ ∧ kB0 = ⟨5, 0, 1, 0, [], 0, []⟩ := ⟨by kernel_rfl, by kernel_rfl⟩
theorem k1_ok : (takeA kB0 kP1).2.2 = 0 ∧ (takeA kB0 kP1).2.1.packets = [kP2] ∧ (takeA kB0 kP1).1.peer = 1 ∧ (takeA kB0 kP1).1.phase = 2 := ⟨by kernel_rfl, by kernel_rfl, by kernel_rfl, by kernel_rfl⟩
theorem k2_ok : (sendA kA0 tX).2 = ([], 0) := by kernel_rfl
theorem k3_ok : (takeA kA1 kP2).2.2 = 0 ∧ (takeA kA1 kP2).1.phase = 3 ∧ (takeA kA1 kP2).2.1.packets = [kP3, ⟨3, 1, 5, 0, ⟨#[]⟩, 0, 0⟩] := ⟨by kernel_rfl, by kernel_rfl, by kernel_rfl⟩
theorem k4_ok : (takeA kB1 kP3).2.2 = 0 ∧ (takeA kB1 kP3).1.phase = 3 ∧ (takeA kB1 kP3).1.want = 1 ∧ (takeA kB1 kP3).2.1.packets = [⟨3, 5, 1, 0, ⟨#[]⟩, 1, 0⟩] ∧ (takeA kB1 kP3).2.1.taken = [tX] := ⟨by kernel_rfl, by kernel_rfl, by kernel_rfl, by kernel_rfl, by kernel_rfl⟩
theorem k5_ok : (takeA kM kP4).2.2 = 0 ∧ (takeA kM kP4).1.peer = 6 ∧ (takeA kM kP4).1.phase = 2 ∧ (takeA kM kP4).2.1.packets = [] ∧ (takeA kM kP4).2.1.taken = [] ∧ (takeA kM kP4).2.1.lost = [] := ⟨by kernel_rfl, by kernel_rfl, by kernel_rfl, by kernel_rfl, by kernel_rfl, by kernel_rfl⟩
theorem k6_ok : (quietA [] []).2 = (6, 0) := by kernel_rfl
end Go.Proofs.Ytejabnoidhlfaaa
