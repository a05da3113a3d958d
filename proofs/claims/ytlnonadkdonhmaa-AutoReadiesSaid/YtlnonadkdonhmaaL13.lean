/- Contracts and lemmas that a claim of this seat uses. -/
import Derived.Test.YtlnonadkdonhmaaL1
import Derived.Test.YtlnonadkdonhmaaL9

/- Contracts: auto.Ready, auto.Rests, Rests of the reference. -/
namespace Go.Proofs.Ytlnonadkdonhmaa
open Go.RowKit

def rdyR (n : Int) (rs : List Int) (s : Int) : List Int := if grpOk n rs && setI n s then readyL rs s else []
def restP (rs : List Int) (i : Nat) : Bool := ((readyL rs (i : Int)).length : Int) == 0
def restsA (n : Int) (rs : List Int) : List Int := pickTo (restP rs) (2 ^ n.toNat)
def restsR (n : Int) (rs : List Int) : List Int := if grpOk n rs then restsA n rs else []

set_option maxRecDepth 100000 in
set_option maxHeartbeats 2000000 in
theorem autoReady_any (n s : Int) (A : Option Addr) (c : Nat) (rs : List Int) (w : World) (hA : Cells w A (ints rs)) :
    Calls Try.prog 49 #[.agg #[.int .i64 n, .slice A rs.length c], .int .i64 s] w fun e w' => ∃ A' c', e = .returned (.tuple #[.slice A' (rdyR n rs s).length c', .int .i64 (errI (grpOk n rs && setI n s))]) ∧ Cells w' A' (ints (rdyR n rs s)) ∧ Below w.heap.size w w' := by
  cases hg : grpOk n rs with
  | false =>
    have HE : Hid (errI false = 2) := rfl
    have HR : Hid (rdyR n rs s = []) := by show _ = _; simp [rdyR, hg]
    have HG := Lib.hid hg
    rw [Bool.false_and, HR.out, HE.out]
    clear hg
    have HB0 : Hid (Below w.heap.size w (w.alloc (.cells #[.int .i64 n, .slice A rs.length c] 24))) := (Below.refl _ w).alloc (Nat.le_refl _) _
    have HA0 := Lib.hid (hA.below HB0.out (Nat.le_refl _))
    have hgm := Blk.new w (.cells #[.int .i64 n, .slice A rs.length c] 24)
    go_enter Try.func49, Try.ntmps49
    go_wp2_with fail
    obtain ⟨W, hW⟩ : ∃ W, w.alloc (.cells #[.int .i64 n, .slice A rs.length c] 24) = W := ⟨_, rfl⟩
    rw [hW] at HB0 HA0 hgm
    rw [hW]
    have c0 := hgm.cell 0 (v := .int .i64 n) rfl
    have c1 := hgm.cell 1 (v := .slice A rs.length c) rfl
    have hl0 := hgm.lt
    clear hW hgm
    refine (check_any n A c rs W HA0.out).mono ?_
    rintro e w1 ⟨rfl, hB1⟩
    rw [HG.out, HE.out]
    go_wp2_with fail
    go_ret2
    exact ⟨none, 0, rfl, Cells.nil _ _, below_in HB0.out hB1⟩
  | true =>
    obtain ⟨hn1, hn6, -, -⟩ := grpOk_true hg
    cases hs : setI n s with
    | false =>
      have HE : Hid (errI false = 2) := rfl
      have HE0 : Hid (errI true = 0) := rfl
      have HR : Hid (rdyR n rs s = []) := by show _ = _; simp [rdyR, hs]
      have HG := Lib.hid hg
      have HS := Lib.hid hs
      rw [Bool.true_and, HR.out, HE.out]
      clear hg hs
      have HB0 : Hid (Below w.heap.size w (w.alloc (.cells #[.int .i64 n, .slice A rs.length c] 24))) := (Below.refl _ w).alloc (Nat.le_refl _) _
      have HA0 := Lib.hid (hA.below HB0.out (Nat.le_refl _))
      have hgm := Blk.new w (.cells #[.int .i64 n, .slice A rs.length c] 24)
      go_enter Try.func49, Try.ntmps49
      go_wp2_with fail
      obtain ⟨W, hW⟩ : ∃ W, w.alloc (.cells #[.int .i64 n, .slice A rs.length c] 24) = W := ⟨_, rfl⟩
      rw [hW] at HB0 HA0 hgm
      rw [hW]
      have c0 := hgm.cell 0 (v := .int .i64 n) rfl
      have c1 := hgm.cell 1 (v := .slice A rs.length c) rfl
      have hl0 := hgm.lt
      clear hW hgm
      refine (check_any n A c rs W HA0.out).mono ?_
      rintro e w1 ⟨rfl, hB1⟩
      rw [HG.out, HE0.out]
      have d0 := cell_chain hB1 hl0 c0
      have d1 := cell_chain hB1 hl0 c1
      go_wp2_with (go_at_call 80; go_must (refine (isSet_any n s A rs.length c w1 (by omega) (by omega)).mono ?_); rintro e w2 ⟨rfl, hB2⟩; rw [HS.out])
      go_ret2
      exact ⟨none, 0, rfl, Cells.nil _ _, below_in HB0.out (below_in hB1 hB2)⟩
    | true =>
      have HE0 : Hid (errI true = 0) := rfl
      have HR : Hid (rdyR n rs s = readyL rs s) := by show _ = _; simp [rdyR, hg, hs]
      have HG := Lib.hid hg
      have HS := Lib.hid hs
      rw [Bool.true_and, HR.out, HE0.out]
      clear hg hs
      have HB0 : Hid (Below w.heap.size w (w.alloc (.cells #[.int .i64 n, .slice A rs.length c] 24))) := (Below.refl _ w).alloc (Nat.le_refl _) _
      have HA0 := Lib.hid (hA.below HB0.out (Nat.le_refl _))
      have hgm := Blk.new w (.cells #[.int .i64 n, .slice A rs.length c] 24)
      go_enter Try.func49, Try.ntmps49
      go_wp2_with fail
      obtain ⟨W, hW⟩ : ∃ W, w.alloc (.cells #[.int .i64 n, .slice A rs.length c] 24) = W := ⟨_, rfl⟩
      rw [hW] at HB0 HA0 hgm
      rw [hW]
      have c0 := hgm.cell 0 (v := .int .i64 n) rfl
      have c1 := hgm.cell 1 (v := .slice A rs.length c) rfl
      have hl0 := hgm.lt
      clear hW hgm
      refine (check_any n A c rs W HA0.out).mono ?_
      rintro e w1 ⟨rfl, hB1⟩
      rw [HG.out, HE0.out]
      have d0 := cell_chain hB1 hl0 c0
      have d1 := cell_chain hB1 hl0 c1
      have hl1 := Nat.lt_of_lt_of_le hl0 hB1.size
      go_wp2_with (first
        | (go_at_call 80; go_must (refine (isSet_any n s A rs.length c w1 (by omega) (by omega)).mono ?_); rintro e w2 ⟨rfl, hB2⟩; rw [HS.out]; have e0 := cell_chain hB2 hl1 d0; have e1 := cell_chain hB2 hl1 d1)
        | (go_at_call 100; go_must (refine (ready_any n s A c rs w2 (HA0.out.below (below_in hB1 hB2) (Nat.le_refl _))).mono ?_); rintro e w3 ⟨A3, c3, rfl, hC3, hB3⟩))
      go_ret2
      exact ⟨A3, c3, rfl, hC3, below_in HB0.out (below_in hB1 (below_in hB2 hB3))⟩

set_option maxRecDepth 100000 in
set_option maxHeartbeats 4000000 in
theorem autoRests_any (n : Int) (A : Option Addr) (c : Nat) (rs : List Int) (w : World) (hA : Cells w A (ints rs)) :
    Calls Try.prog 50 #[.agg #[.int .i64 n, .slice A rs.length c]] w fun e w' => ∃ A' c', e = .returned (.tuple #[.slice A' (restsR n rs).length c', .int .i64 (errI (grpOk n rs))]) ∧ Cells w' A' (ints (restsR n rs)) ∧ Below w.heap.size w w' := by
  cases hg : grpOk n rs with
  | false =>
    have HE : Hid (errI false = 2) := rfl
    have HR : Hid (restsR n rs = []) := by show _ = _; simp [restsR, hg]
    have HG := Lib.hid hg
    rw [HR.out, HE.out]
    clear hg
    have HB0 : Hid (Below w.heap.size w (w.alloc (.cells #[.int .i64 n, .slice A rs.length c] 24))) := (Below.refl _ w).alloc (Nat.le_refl _) _
    have HA0 := Lib.hid (hA.below HB0.out (Nat.le_refl _))
    have hgm := Blk.new w (.cells #[.int .i64 n, .slice A rs.length c] 24)
    go_enter Try.func50, Try.ntmps50
    go_wp2_with fail
    obtain ⟨W, hW⟩ : ∃ W, w.alloc (.cells #[.int .i64 n, .slice A rs.length c] 24) = W := ⟨_, rfl⟩
    rw [hW] at HB0 HA0 hgm
    rw [hW]
    have c0 := hgm.cell 0 (v := .int .i64 n) rfl
    have c1 := hgm.cell 1 (v := .slice A rs.length c) rfl
    have hl0 := hgm.lt
    clear hW hgm
    refine (check_any n A c rs W HA0.out).mono ?_
    rintro e w1 ⟨rfl, hB1⟩
    rw [HG.out, HE.out]
    go_wp2_with fail
    go_ret2
    exact ⟨none, 0, rfl, Cells.nil _ _, below_in HB0.out hB1⟩
  | true =>
    obtain ⟨hn1, hn6, -, -⟩ := grpOk_true hg
    have HE0 : Hid (errI true = 0) := rfl
    have HR : Hid (restsR n rs = restsA n rs) := by show _ = _; simp [restsR, hg]
    have HG := Lib.hid hg
    obtain ⟨M, hM⟩ : ∃ M, (2 : Nat) ^ n.toNat = M := ⟨_, rfl⟩
    have hM64 : M ≤ 64 := by rw [← hM]; exact Nat.le_trans (Nat.pow_le_pow_right (by decide) (show n.toNat ≤ 6 by omega)) (by decide)
    obtain ⟨P, hP⟩ : ∃ P : Int, (2 : Int) ^ n.toNat = P := ⟨_, rfl⟩
    have hPM : P = M := by rw [← hP, ← hM]; simp
    have hp1 : (M : Int) ≤ P := by omega
    have hp2 : P ≤ (M : Int) := by omega
    have hp := p2_wrap (n := n) (by omega) (by omega)
    rw [hP] at hp
    have HPW := Lib.hid hp
    clear hp
    have HRA : Hid (restsA n rs = pickTo (restP rs) M) := by show _ = _; unfold restsA; rw [hM]
    rw [HR.out, HE0.out, HRA.out]
    clear hg hPM hM
    have HP := Lib.hid hP
    clear hP
    have HB0 : Hid (Below w.heap.size w (w.alloc (.cells #[.int .i64 n, .slice A rs.length c] 24))) := (Below.refl _ w).alloc (Nat.le_refl _) _
    have HA0 := Lib.hid (hA.below HB0.out (Nat.le_refl _))
    have hgm := Blk.new w (.cells #[.int .i64 n, .slice A rs.length c] 24)
    go_enter Try.func50, Try.ntmps50
    go_wp2_with fail
    obtain ⟨W, hW⟩ : ∃ W, w.alloc (.cells #[.int .i64 n, .slice A rs.length c] 24) = W := ⟨_, rfl⟩
    rw [hW] at HB0 HA0 hgm
    rw [hW]
    have c0 := hgm.cell 0 (v := .int .i64 n) rfl
    have c1 := hgm.cell 1 (v := .slice A rs.length c) rfl
    have hl0 := hgm.lt
    clear hW hgm
    refine (check_any n A c rs W HA0.out).mono ?_
    rintro e w1 ⟨rfl, hB1⟩
    rw [HG.out, HE0.out]
    have d0 := cell_chain hB1 hl0 c0
    have d1 := cell_chain hB1 hl0 c1
    have hl1 := Nat.lt_of_lt_of_le hl0 hB1.size
    go_wp2
    rw [HP.out, HPW.out]
    have HB1 := Lib.hid hB1
    have HA1 := Lib.hid (HA0.out.below hB1 (Nat.le_refl _))
    clear hB1 c0 c1
    go_loopw [4, 12] (fun v i wr => ∃ k : Nat, k ≤ M ∧ i = .int .i64 k ∧ wr.ownsRow w1.heap.size 3 1 v (pickTo (restP rs) k).length (ints (pickTo (restP rs) k)) ∧ Below w1.heap.size w1 wr)
      (fun _ i _ => M - (intOf i).toNat)
    case atStart => exact ⟨0, Nat.zero_le _, rfl, World.ownsRow_nil _ _ _ _, Below.refl _ _⟩
    case round =>
      obtain ⟨k, hk, rfl, hown, hB⟩ := hrel
      have e0 := cell_chain hB hl1 d0
      have e1 := cell_chain hB hl1 d1
      by_cases hlt : k < M
      · have hlP : (k : Int) < P := by omega
        have hl := pickTo_len (restP rs) k
        obtain ⟨R, hR⟩ : ∃ R, readyL rs (k : Int) = R := ⟨_, rfl⟩
        have HRR := Lib.hid hR
        have hsz := hB.size
        have HB := Lib.hid hB
        have HOWN := Lib.hid hown
        clear hR hB hown d0 d1
        cases hz : ((R.length : Int) == 0) with
        | true =>
          have HPK : Hid (restP rs k = true) := by show _ = _; unfold restP; rw [HRR.out]; exact hz
          go_wp2_with (first
            | (go_at_call 100; go_must (refine (ready_any n (k : Int) A c rs wr (HA1.out.below HB.out (Nat.le_refl _))).mono ?_); rintro e w3 ⟨A3, c3, rfl, hC3, hB3⟩; rw [HRR.out]; have ho3 := own_frame HOWN.out (Frame.of_all (S := fun _ => False) hB3) (fun _ _ h => h); have hs3 := hB3.size)
            | (at_builtin; go_must (refine wpList_app1 rInt _ rfl _ _ rfl ho3 rfl [_] 1 rfl rfl (by simp [Value.oneCell']) (by omega) (by omega) ?_); intro v' w4 hown4 hB4))
          go_roundw
          case rel => exact ⟨k + 1, by omega, by go_num, by rw [pickTo_hit HPK.out]; simpa [ints] using hown4, (below_in HB.out hB3).trans hB4⟩
          case measure => simp [intOf]; omega
        | false =>
          have HPK : Hid (restP rs k = false) := by show _ = _; unfold restP; rw [HRR.out]; exact hz
          go_wp2_with (go_at_call 100; go_must (refine (ready_any n (k : Int) A c rs wr (HA1.out.below HB.out (Nat.le_refl _))).mono ?_); rintro e w3 ⟨A3, c3, rfl, hC3, hB3⟩; rw [HRR.out]; have ho3 := own_frame HOWN.out (Frame.of_all (S := fun _ => False) hB3) (fun _ _ h => h); have hs3 := hB3.size)
          go_roundw
          case rel => exact ⟨k + 1, by omega, by go_num, by rw [pickTo_miss HPK.out]; exact ho3, below_in HB.out hB3⟩
          case measure => simp [intOf]; omega
      · obtain rfl : k = M := by omega
        have hlP : ¬ (k : Int) < P := by omega
        go_wp2
        obtain ⟨A', c', rfl, hcs⟩ := own_out hown (by have := pickTo_len (restP rs) k; simp [ints]; omega)
        go_ret2
        exact ⟨A', ⟨c', rfl⟩, hcs, below_in HB0.out (below_in HB1.out hB)⟩

set_option maxRecDepth 100000 in
set_option maxHeartbeats 4000000 in
theorem RefRests_any (n : Int) (A : Option Addr) (c : Nat) (rs : List Int) (w : World) (hA : Cells w A (ints rs)) (h0 : 0 ≤ n) (h6 : n ≤ 6) :
    Calls Try.prog 51 #[.agg #[.int .i64 n, .slice A rs.length c]] w fun e w' => ∃ A' c', e = .returned (.slice A' (restsA n rs).length c') ∧ Cells w' A' (ints (restsA n rs)) ∧ Below w.heap.size w w' := by
  obtain ⟨M, hM⟩ : ∃ M, (2 : Nat) ^ n.toNat = M := ⟨_, rfl⟩
  have hM64 : M ≤ 64 := by rw [← hM]; exact Nat.le_trans (Nat.pow_le_pow_right (by decide) (show n.toNat ≤ 6 by omega)) (by decide)
  obtain ⟨P, hP⟩ : ∃ P : Int, (2 : Int) ^ n.toNat = P := ⟨_, rfl⟩
  have hPM : P = M := by rw [← hP, ← hM]; simp
  have hp1 : (M : Int) ≤ P := by omega
  have hp2 : P ≤ (M : Int) := by omega
  have hp := p2_wrap (n := n) (by omega) (by omega)
  rw [hP] at hp
  have HPW := Lib.hid hp
  clear hp
  have HRA : Hid (restsA n rs = pickTo (restP rs) M) := by show _ = _; unfold restsA; rw [hM]
  rw [HRA.out]
  have HP : Hid (wrap64 ((2 : Int) ^ n.toNat) = P) := by show _ = _; rw [hP, HPW.out]
  clear hPM hM hP
  have HB0 : Hid (Below w.heap.size w (w.alloc (.cells #[.int .i64 n, .slice A rs.length c] 24))) := (Below.refl _ w).alloc (Nat.le_refl _) _
  have HA0 := Lib.hid (hA.below HB0.out (Nat.le_refl _))
  have hgm := Blk.new w (.cells #[.int .i64 n, .slice A rs.length c] 24)
  obtain ⟨W, hW⟩ : ∃ W, w.alloc (.cells #[.int .i64 n, .slice A rs.length c] 24) = W := ⟨_, rfl⟩
  have HW := Lib.hid hW
  rw [hW] at HB0 HA0 hgm
  have c0 := hgm.cell 0 (v := .int .i64 n) rfl
  have c1 := hgm.cell 1 (v := .slice A rs.length c) rfl
  have hl0 := hgm.lt
  clear hW hgm
  go_enter Try.func51, Try.ntmps51
  go_wp2
  rw [HW.out]
  go_loopw [3, 4] (fun v i wr => ∃ k : Nat, k ≤ M ∧ i = .int .i64 k ∧ wr.ownsRow W.heap.size 3 1 v (pickTo (restP rs) k).length (ints (pickTo (restP rs) k)) ∧ Below W.heap.size W wr)
    (fun _ i _ => M - (intOf i).toNat)
  case atStart => exact ⟨0, Nat.zero_le _, rfl, World.ownsRow_nil _ _ _ _, Below.refl _ _⟩
  case round =>
    obtain ⟨k, hk, rfl, hown, hB⟩ := hrel
    have e0 := cell_chain hB hl0 c0
    have e1 := cell_chain hB hl0 c1
    have hp := HP.out
    by_cases hlt : k < M
    · have hlP : (k : Int) < P := by omega
      have hl := pickTo_len (restP rs) k
      obtain ⟨R, hR⟩ : ∃ R, readyL rs (k : Int) = R := ⟨_, rfl⟩
      have HRR := Lib.hid hR
      have hsz := hB.size
      have HB := Lib.hid hB
      have HOWN := Lib.hid hown
      clear hR hB hown c0 c1
      cases hz : ((R.length : Int) == 0) with
      | true =>
        have HPK : Hid (restP rs k = true) := by show _ = _; unfold restP; rw [HRR.out]; exact hz
        have HZ := Lib.hid hz
        clear hz
        go_wp2_with (first
          | (go_at_call 101; go_must (refine (rest_any n (k : Int) A c rs wr (HA0.out.below HB.out (Nat.le_refl _))).mono ?_); rintro e w3 ⟨rfl, hB3⟩; rw [HRR.out, HZ.out]; have ho3 := own_frame HOWN.out (Frame.of_all (S := fun _ => False) hB3) (fun _ _ h => h); have hs3 := hB3.size)
          | (at_builtin; go_must (refine wpList_app1 rInt _ rfl _ _ rfl ho3 rfl [_] 1 rfl rfl (by simp [Value.oneCell']) (by omega) (by omega) ?_); intro v' w4 hown4 hB4))
        go_roundw
        case rel => exact ⟨k + 1, by omega, by go_num, by rw [pickTo_hit HPK.out]; simpa [ints] using hown4, (below_in HB.out hB3).trans hB4⟩
        case measure => simp [intOf]; omega
      | false =>
        have HPK : Hid (restP rs k = false) := by show _ = _; unfold restP; rw [HRR.out]; exact hz
        have HZ := Lib.hid hz
        clear hz
        go_wp2_with (go_at_call 101; go_must (refine (rest_any n (k : Int) A c rs wr (HA0.out.below HB.out (Nat.le_refl _))).mono ?_); rintro e w3 ⟨rfl, hB3⟩; rw [HRR.out, HZ.out]; have ho3 := own_frame HOWN.out (Frame.of_all (S := fun _ => False) hB3) (fun _ _ h => h); have hs3 := hB3.size)
        go_roundw
        case rel => exact ⟨k + 1, by omega, by go_num, by rw [pickTo_miss HPK.out]; exact ho3, below_in HB.out hB3⟩
        case measure => simp [intOf]; omega
    · obtain rfl : k = M := by omega
      have hlP : ¬ (k : Int) < P := by omega
      go_wp2
      obtain ⟨A', c', rfl, hcs⟩ := own_out hown (by have := pickTo_len (restP rs) k; simp [ints]; omega)
      go_ret
      exact ⟨A', ⟨c', rfl⟩, hcs, below_in HB0.out hB⟩
end Go.Proofs.Ytlnonadkdonhmaa
