/- Contracts and lemmas that a claim of this seat uses. -/
import Derived.Test.YtlnonadkdonhmaaL1
import Derived.Test.YtlnonadkdonhmaaL8
import Derived.Test.YtlnonadkdonhmaaL9

/- Contracts: Part, Formable; what a tree is. -/
namespace Go.Proofs.Ytlnonadkdonhmaa
open Go.RowKit Go.Maps

def ndLeaf (R : Nat) (x : Nd) : Bool := (x.ch == -1) && (x.yes == 0) && (x.no == 0) && decide (-1 ≤ x.rule) && decide (x.rule < (R : Int))
def ndTest (n : Int) (L k : Nat) (x : Nd) : Bool := decide (0 ≤ x.ch) && decide (x.ch < n) && (x.rule == -1) && decide ((k : Int) < x.yes) && decide (x.yes < (L : Int)) && decide ((k : Int) < x.no) && decide (x.no < (L : Int))
def ndOk (n : Int) (R L k : Nat) (x : Nd) : Bool := ndLeaf R x || ndTest n L k x
def nodesB (n : Int) (R L : Nat) : Nat → List Nd → Bool
  | _, [] => true
  | k, x :: t => ndOk n R L k x && nodesB n R L (k + 1) t
def treeB (n : Int) (R : Nat) (t : List Nd) : Bool := nodesB n R t.length 0 t && decide (1 ≤ t.length) && decide (t.length ≤ 127)

set_option maxRecDepth 100000 in
set_option maxHeartbeats 4000000 in
theorem Part_any (n : Int) (A : Option Addr) (c : Nat) (rs : List Int) (known has : Int) (w : World) (h0 : 0 ≤ n) (h1 : n ≤ 62) :
    Calls Try.prog 61 #[.agg #[.int .i64 n, .slice A rs.length c], .int .i64 known, .int .i64 has] w fun e w' => e = .returned (.bool (setI n known && setI n has && withinI has known)) ∧ Below w.heap.size w w' := by
  have HB0 : Hid (Below w.heap.size w (w.alloc (.cells #[.int .i64 n, .slice A rs.length c] 24))) := (Below.refl _ w).alloc (Nat.le_refl _) _
  have hgm := Blk.new w (.cells #[.int .i64 n, .slice A rs.length c] 24)
  go_enter Try.func61, Try.ntmps61
  go_wp2_with fail
  obtain ⟨W, hW⟩ : ∃ W, w.alloc (.cells #[.int .i64 n, .slice A rs.length c] 24) = W := ⟨_, rfl⟩
  rw [hW] at HB0 hgm
  rw [hW]
  have c0 := hgm.cell 0 (v := .int .i64 n) rfl
  have c1 := hgm.cell 1 (v := .slice A rs.length c) rfl
  have hl0 := hgm.lt
  have HC := Lib.hid (And.intro c0 c1)
  clear hW hgm c0 c1
  refine (set_any n known A rs.length c W h0 h1).mono ?_
  rintro e w1 ⟨rfl, hB1⟩
  have HB1 := Lib.hid hB1
  clear hB1
  cases hk : setI n known with
  | false =>
    go_wp2
    go_ret
    exact ⟨by rw [hk]; rfl, below_in HB0.out HB1.out⟩
  | true =>
    have x0 := cell_chain HB1.out hl0 HC.out.1
    have x1 := cell_chain HB1.out hl0 HC.out.2
    go_wp2_with fail
    refine (set_any n has A rs.length c w1 h0 h1).mono ?_
    rintro e w2 ⟨rfl, hB2⟩
    have HB2 := Lib.hid (below_in HB1.out hB2)
    clear hB2 x0 x1
    cases hh : setI n has with
    | false =>
      go_wp2
      go_ret
      exact ⟨by rw [hk, hh]; rfl, below_in HB0.out HB2.out⟩
    | true =>
      go_wp2_with (go_at_call 96; go_must (refine (within_any _ _ _).mono ?_); rintro e w4 ⟨rfl, rfl⟩)
      go_ret
      exact ⟨by rw [hk, hh]; rfl, below_in HB0.out HB2.out⟩

set_option maxRecDepth 100000 in
set_option maxHeartbeats 16000000 in
theorem Formable_any (n : Int) (A : Option Addr) (c : Nat) (rs : List Int) (T : Option Addr) (f : Nat) (t : List Nd) (w : World) (hA : Cells w A (ints rs)) (hT : Cells w T (nds t)) :
    Calls Try.prog 59 #[.agg #[.int .i64 n, .slice A rs.length c], .slice T t.length f] w fun e w' => e = .returned (.bool (treeB n rs.length t)) ∧ Below w.heap.size w w' := by
  have hlt : t.length ≤ 17592186043904 := by have := hT.1; simp [nds, flat_len ndCells_len] at this; omega
  have hlr : rs.length ≤ 17592186043904 := by have := hA.1; simp [ints] at this; omega
  have HB0 : Hid (Below w.heap.size w (w.alloc (.cells #[.int .i64 n, .slice A rs.length c] 24))) := (Below.refl _ w).alloc (Nat.le_refl _) _
  have HA0 := Lib.hid (hA.below HB0.out (Nat.le_refl _))
  have hgm := Blk.new w (.cells #[.int .i64 n, .slice A rs.length c] 24)
  go_enter Try.func59, Try.ntmps59
  go_wp2
  obtain ⟨W, hW⟩ : ∃ W, w.alloc (.cells #[.int .i64 n, .slice A rs.length c] 24) = W := ⟨_, rfl⟩
  rw [hW] at HB0 HA0 hgm
  rw [hW]
  have c0 := hgm.cell 0 (v := .int .i64 n) rfl
  have c1 := hgm.cell 1 (v := .slice A rs.length c) rfl
  have hl0 := hgm.lt
  clear hW hgm
  go_loopw [11] (fun i wr => ∃ k : Nat, k ≤ t.length ∧ i = .int .i64 k ∧ nodesB n rs.length t.length 0 t = nodesB n rs.length t.length k (t.drop k) ∧ Below W.heap.size W wr) (fun i _ => t.length - (intOf i).toNat)
  case atStart => exact ⟨0, Nat.zero_le _, rfl, by rw [List.drop_zero], Below.refl _ _⟩
  case round =>
    obtain ⟨k, hk, rfl, htl, hB⟩ := hrel
    have HTL := Lib.hid htl
    have HBr := Lib.hid hB
    have HWr : Hid (Below w.heap.size w wr) := below_in HB0.out HBr.out
    have g0 := cell_chain HBr.out hl0 c0
    have g1 := cell_chain HBr.out hl0 c1
    have n1 : w.heap.size < wr.heap.size := Nat.lt_of_lt_of_le hl0 HBr.out.size
    clear htl hB
    by_cases hkt : k < t.length
    · obtain ⟨x, b5, o5, hx, hb5, hix, hcell⟩ := flat_at (c := f) (hT.below HWr.out (Nat.le_refl _)) ndCells_len Try.underlying79 rNd.size_eq (by decide) hkt
      have HDR : Hid (t.drop k = x :: t.drop (k + 1)) := drop_cons hx
      obtain ⟨ch, yes, no, rule⟩ := x
      have d0 := hcell 0 (.int .i64 ch) rfl
      have d1 := hcell 1 (.int .i64 yes) rfl
      have d2 := hcell 2 (.int .i64 no) rfl
      have d3 := hcell 3 (.int .i64 rule) rfl
      rw [Nat.add_zero] at d0
      obtain ⟨WX, hWX⟩ : ∃ WX, wr.alloc (.cells #[.int .i64 ch, .int .i64 yes, .int .i64 no, .int .i64 rule] 107) = WX := ⟨_, rfl⟩
      have hBX : Below wr.heap.size wr WX := by rw [← hWX]; exact (Below.refl _ wr).alloc (Nat.le_refl _) _
      have bX : Blk WX wr.heap.size (.cells #[.int .i64 ch, .int .i64 yes, .int .i64 no, .int .i64 rule] 107) := by rw [← hWX]; exact Blk.new _ _
      have e0 := bX.cell 0 (v := .int .i64 ch) rfl
      have e1 := bX.cell 1 (v := .int .i64 yes) rfl
      have e2 := bX.cell 2 (v := .int .i64 no) rfl
      have e3 := bX.cell 3 (v := .int .i64 rule) rfl
      have x0 := cell_chain hBX n1 g0
      have x1 := cell_chain hBX n1 g1
      have HX := Lib.hid hBX
      clear hx hcell hBX bX g0 g1
      cases h0 : (ch == (-1 : Int)) with
      | false =>
        have hleaf : ndLeaf rs.length ⟨ch, yes, no, rule⟩ = false := by unfold ndLeaf; rw [h0]; rfl
        have HLF := Lib.hid hleaf
        clear hleaf
        cases q0 : decide (0 ≤ ch) with
        | false =>
          have HN : Hid (ndOk n rs.length t.length k ⟨ch, yes, no, rule⟩ = false) := by show _ = _; unfold ndOk ndTest; rw [HLF.out]; simp only [q0]; rfl
          have HT : Hid (nodesB n rs.length t.length 0 t = false) := by show _ = _; rw [HTL.out, HDR.out, nodesB, HN.out]; rfl
          clear HN
          go_wp2
          go_ret
          exact ⟨by rw [treeB, HT.out]; rfl, below_in HWr.out HX.out⟩
        | true =>
          cases q1 : decide (ch < n) with
          | false =>
            have HN : Hid (ndOk n rs.length t.length k ⟨ch, yes, no, rule⟩ = false) := by show _ = _; unfold ndOk ndTest; rw [HLF.out]; simp only [q0, q1]; rfl
            have HT : Hid (nodesB n rs.length t.length 0 t = false) := by show _ = _; rw [HTL.out, HDR.out, nodesB, HN.out]; rfl
            clear HN
            go_wp2
            go_ret
            exact ⟨by rw [treeB, HT.out]; rfl, below_in HWr.out HX.out⟩
          | true =>
            cases q2 : (rule == (-1 : Int)) with
            | false =>
              have HN : Hid (ndOk n rs.length t.length k ⟨ch, yes, no, rule⟩ = false) := by show _ = _; unfold ndOk ndTest; rw [HLF.out]; simp only [q0, q1, q2]; rfl
              have HT : Hid (nodesB n rs.length t.length 0 t = false) := by show _ = _; rw [HTL.out, HDR.out, nodesB, HN.out]; rfl
              clear HN
              go_wp2
              go_ret
              exact ⟨by rw [treeB, HT.out]; rfl, below_in HWr.out HX.out⟩
            | true =>
              cases q3 : decide ((k : Int) < yes) with
              | false =>
                have HN : Hid (ndOk n rs.length t.length k ⟨ch, yes, no, rule⟩ = false) := by show _ = _; unfold ndOk ndTest; rw [HLF.out]; simp only [q0, q1, q2, q3]; rfl
                have HT : Hid (nodesB n rs.length t.length 0 t = false) := by show _ = _; rw [HTL.out, HDR.out, nodesB, HN.out]; rfl
                clear HN
                go_wp2
                go_ret
                exact ⟨by rw [treeB, HT.out]; rfl, below_in HWr.out HX.out⟩
              | true =>
                cases q4 : decide (yes < (t.length : Int)) with
                | false =>
                  have HN : Hid (ndOk n rs.length t.length k ⟨ch, yes, no, rule⟩ = false) := by show _ = _; unfold ndOk ndTest; rw [HLF.out]; simp only [q0, q1, q2, q3, q4]; rfl
                  have HT : Hid (nodesB n rs.length t.length 0 t = false) := by show _ = _; rw [HTL.out, HDR.out, nodesB, HN.out]; rfl
                  clear HN
                  go_wp2
                  go_ret
                  exact ⟨by rw [treeB, HT.out]; rfl, below_in HWr.out HX.out⟩
                | true =>
                  cases q5 : decide ((k : Int) < no) with
                  | false =>
                    have HN : Hid (ndOk n rs.length t.length k ⟨ch, yes, no, rule⟩ = false) := by show _ = _; unfold ndOk ndTest; rw [HLF.out]; simp only [q0, q1, q2, q3, q4, q5]; rfl
                    have HT : Hid (nodesB n rs.length t.length 0 t = false) := by show _ = _; rw [HTL.out, HDR.out, nodesB, HN.out]; rfl
                    clear HN
                    go_wp2
                    go_ret
                    exact ⟨by rw [treeB, HT.out]; rfl, below_in HWr.out HX.out⟩
                  | true =>
                    cases q6 : decide (no < (t.length : Int)) with
                    | false =>
                      have HN : Hid (ndOk n rs.length t.length k ⟨ch, yes, no, rule⟩ = false) := by show _ = _; unfold ndOk ndTest; rw [HLF.out]; simp only [q0, q1, q2, q3, q4, q5, q6]; rfl
                      have HT : Hid (nodesB n rs.length t.length 0 t = false) := by show _ = _; rw [HTL.out, HDR.out, nodesB, HN.out]; rfl
                      clear HN
                      go_wp2
                      go_ret
                      exact ⟨by rw [treeB, HT.out]; rfl, below_in HWr.out HX.out⟩
                    | true =>
                      have HN : Hid (ndOk n rs.length t.length k ⟨ch, yes, no, rule⟩ = true) := by show _ = _; unfold ndOk ndTest; rw [HLF.out, q0, q1, q2, q3, q4, q5, q6]; rfl
                      have HT : Hid (nodesB n rs.length t.length 0 t = nodesB n rs.length t.length (k + 1) (t.drop (k + 1))) := by show _ = _; rw [HTL.out, HDR.out, nodesB, HN.out]; rfl
                      clear HN
                      go_wp2
                      go_roundw
                      case rel => exact ⟨k + 1, by omega, by go_num, HT.out, below_in HBr.out HX.out⟩
                      case measure => simp [intOf]; omega
      | true =>
        have hch : ch = -1 := by simpa using h0
        have q0 : decide (0 ≤ ch) = false := by rw [hch]; rfl
        have htest : ndTest n t.length k ⟨ch, yes, no, rule⟩ = false := by unfold ndTest; rw [q0]; rfl
        have HTS := Lib.hid htest
        clear htest hch
        cases q1 : (yes == (0 : Int)) with
        | false =>
          have HN : Hid (ndOk n rs.length t.length k ⟨ch, yes, no, rule⟩ = false) := by show _ = _; unfold ndOk ndLeaf; rw [HTS.out]; simp only [h0, q1]; rfl
          have HT : Hid (nodesB n rs.length t.length 0 t = false) := by show _ = _; rw [HTL.out, HDR.out, nodesB, HN.out]; rfl
          clear HN
          go_wp2
          go_ret
          exact ⟨by rw [treeB, HT.out]; rfl, below_in HWr.out HX.out⟩
        | true =>
          cases q2 : (no == (0 : Int)) with
          | false =>
            have HN : Hid (ndOk n rs.length t.length k ⟨ch, yes, no, rule⟩ = false) := by show _ = _; unfold ndOk ndLeaf; rw [HTS.out]; simp only [h0, q1, q2]; rfl
            have HT : Hid (nodesB n rs.length t.length 0 t = false) := by show _ = _; rw [HTL.out, HDR.out, nodesB, HN.out]; rfl
            clear HN
            go_wp2
            go_ret
            exact ⟨by rw [treeB, HT.out]; rfl, below_in HWr.out HX.out⟩
          | true =>
            cases q3 : decide ((-1 : Int) ≤ rule) with
            | false =>
              have HN : Hid (ndOk n rs.length t.length k ⟨ch, yes, no, rule⟩ = false) := by show _ = _; unfold ndOk ndLeaf; rw [HTS.out]; simp only [h0, q1, q2, q3]; rfl
              have HT : Hid (nodesB n rs.length t.length 0 t = false) := by show _ = _; rw [HTL.out, HDR.out, nodesB, HN.out]; rfl
              clear HN
              go_wp2
              go_ret
              exact ⟨by rw [treeB, HT.out]; rfl, below_in HWr.out HX.out⟩
            | true =>
              cases q4 : decide (rule < (rs.length : Int)) with
              | false =>
                have HN : Hid (ndOk n rs.length t.length k ⟨ch, yes, no, rule⟩ = false) := by show _ = _; unfold ndOk ndLeaf; rw [HTS.out]; simp only [h0, q1, q2, q3, q4]; rfl
                have HT : Hid (nodesB n rs.length t.length 0 t = false) := by show _ = _; rw [HTL.out, HDR.out, nodesB, HN.out]; rfl
                clear HN
                go_wp2
                go_ret
                exact ⟨by rw [treeB, HT.out]; rfl, below_in HWr.out HX.out⟩
              | true =>
                have HN : Hid (ndOk n rs.length t.length k ⟨ch, yes, no, rule⟩ = true) := by show _ = _; unfold ndOk ndLeaf; rw [h0, q1, q2, q3, q4]; rfl
                have HT : Hid (nodesB n rs.length t.length 0 t = nodesB n rs.length t.length (k + 1) (t.drop (k + 1))) := by show _ = _; rw [HTL.out, HDR.out, nodesB, HN.out]; rfl
                clear HN
                go_wp2
                go_roundw
                case rel => exact ⟨k + 1, by omega, by go_num, HT.out, below_in HBr.out HX.out⟩
                case measure => simp [intOf]; omega
    · obtain rfl : k = t.length := by omega
      have HT : Hid (nodesB n rs.length t.length 0 t = true) := by show _ = _; rw [HTL.out, List.drop_length]; rfl
      cases hz : decide (1 ≤ t.length) with
      | false =>
        have hz2 : decide ((1 : Int) ≤ (t.length : Int)) = false := by have := of_decide_eq_false hz; rw [decide_eq_false_iff_not]; omega
        go_wp2
        go_ret
        exact ⟨by rw [treeB, HT.out, hz]; rfl, HWr.out⟩
      | true =>
        have hz2 : decide ((1 : Int) ≤ (t.length : Int)) = true := by have := of_decide_eq_true hz; rw [decide_eq_true_eq]; omega
        cases hy : decide (t.length ≤ 127) with
        | false =>
          have hy2 : decide ((t.length : Int) ≤ 127) = false := by have := of_decide_eq_false hy; rw [decide_eq_false_iff_not]; omega
          go_wp2
          go_ret
          exact ⟨by rw [treeB, HT.out, hz, hy]; rfl, HWr.out⟩
        | true =>
          have hy2 : decide ((t.length : Int) ≤ 127) = true := by have := of_decide_eq_true hy; rw [decide_eq_true_eq]; omega
          go_wp2
          go_ret
          exact ⟨by rw [treeB, HT.out, hz, hy]; rfl, HWr.out⟩
end Go.Proofs.Ytlnonadkdonhmaa

/- Contract: planted. -/
namespace Go.Proofs.Ytlnonadkdonhmaa
open Go.RowKit Go.Maps

theorem ndOk_leaf {n : Int} {R L k : Nat} {ch yes no rule : Int} (h : ch = -1) : ndOk n R L k ⟨ch, yes, no, rule⟩ = true ↔ yes = 0 ∧ no = 0 ∧ -1 ≤ rule ∧ rule < (R : Int) := by
  subst h
  simp [ndOk, ndLeaf, ndTest, and_assoc]
theorem ndOk_test {n : Int} {R L k : Nat} {ch yes no rule : Int} (h : ch ≠ -1) : ndOk n R L k ⟨ch, yes, no, rule⟩ = true ↔ 0 ≤ ch ∧ ch < n ∧ rule = -1 ∧ (k : Int) < yes ∧ yes < (L : Int) ∧ (k : Int) < no ∧ no < (L : Int) := by
  simp [ndOk, ndLeaf, ndTest, and_assoc, h]

set_option maxRecDepth 100000 in
set_option maxHeartbeats 16000000 in
theorem planted_any (n : Int) (A : Option Addr) (c : Nat) (rs : List Int) (T : Option Addr) (f : Nat) (t : List Nd) (w : World) (hA : Cells w A (ints rs)) (hT : Cells w T (nds t)) :
    Calls Try.prog 106 #[.agg #[.int .i64 n, .slice A rs.length c], .slice T t.length f] w fun e w' => e = .returned (.bool (treeB n rs.length t)) ∧ Below w.heap.size w w' := by
  have hlt : t.length ≤ 17592186043904 := by have := hT.1; simp [nds, flat_len ndCells_len] at this; omega
  have hlr : rs.length ≤ 17592186043904 := by have := hA.1; simp [ints] at this; omega
  have HB0 : Hid (Below w.heap.size w (w.alloc (.cells #[.int .i64 n, .slice A rs.length c] 24))) := (Below.refl _ w).alloc (Nat.le_refl _) _
  have HA0 := Lib.hid (hA.below HB0.out (Nat.le_refl _))
  have hgm := Blk.new w (.cells #[.int .i64 n, .slice A rs.length c] 24)
  cases hz : decide (1 ≤ t.length) with
  | false =>
    have hz3 : decide (t.length < 1) = true := by have := of_decide_eq_false hz; rw [decide_eq_true_eq]; omega
    have hz2 : decide ((t.length : Int) < 1) = true := by have := of_decide_eq_false hz; rw [decide_eq_true_eq]; omega
    go_enter Try.func106, Try.ntmps106
    go_wp2
    go_ret
    exact ⟨by rw [treeB, hz]; simp, HB0.out⟩
  | true =>
  cases hy : decide (t.length ≤ 127) with
  | false =>
    have hz3 : decide (t.length < 1) = false := by have := of_decide_eq_true hz; rw [decide_eq_false_iff_not]; omega
    have hz2 : decide ((t.length : Int) < 1) = false := by have := of_decide_eq_true hz; rw [decide_eq_false_iff_not]; omega
    have hy3 : decide (127 < t.length) = true := by have := of_decide_eq_false hy; rw [decide_eq_true_eq]; omega
    have hy2 : decide ((127 : Int) < (t.length : Int)) = true := by have := of_decide_eq_false hy; rw [decide_eq_true_eq]; omega
    go_enter Try.func106, Try.ntmps106
    go_wp2
    go_ret
    exact ⟨by rw [treeB, hy]; simp, HB0.out⟩
  | true =>
  have hz3 : decide (t.length < 1) = false := by have := of_decide_eq_true hz; rw [decide_eq_false_iff_not]; omega
  have hz2 : decide ((t.length : Int) < 1) = false := by have := of_decide_eq_true hz; rw [decide_eq_false_iff_not]; omega
  have hy3 : decide (127 < t.length) = false := by have := of_decide_eq_true hy; rw [decide_eq_false_iff_not]; omega
  have hy2 : decide ((127 : Int) < (t.length : Int)) = false := by have := of_decide_eq_true hy; rw [decide_eq_false_iff_not]; omega
  have HTB : Hid (treeB n rs.length t = nodesB n rs.length t.length 0 t) := by show _ = _; rw [treeB, hz, hy]; simp
  go_enter Try.func106, Try.ntmps106
  go_wp2
  clear hz hy hz2 hz3 hy2 hy3
  obtain ⟨W, hW⟩ : ∃ W, w.alloc (.cells #[.int .i64 n, .slice A rs.length c] 24) = W := ⟨_, rfl⟩
  rw [hW] at HB0 HA0 hgm
  rw [hW]
  have c0 := hgm.cell 0 (v := .int .i64 n) rfl
  have c1 := hgm.cell 1 (v := .slice A rs.length c) rfl
  have hl0 := hgm.lt
  clear hW hgm
  go_loopw [17] (fun i wr => ∃ k : Nat, k ≤ t.length ∧ i = .int .i64 k ∧ nodesB n rs.length t.length 0 t = nodesB n rs.length t.length k (t.drop k) ∧ Below W.heap.size W wr) (fun i _ => t.length - (intOf i).toNat)
  case atStart => exact ⟨0, Nat.zero_le _, rfl, by rw [List.drop_zero], Below.refl _ _⟩
  case round =>
    obtain ⟨k, hk, rfl, htl, hB⟩ := hrel
    have HTL := Lib.hid htl
    have HBr := Lib.hid hB
    have HWr : Hid (Below w.heap.size w wr) := below_in HB0.out HBr.out
    have g0 := cell_chain HBr.out hl0 c0
    have g1 := cell_chain HBr.out hl0 c1
    have n1 : w.heap.size < wr.heap.size := Nat.lt_of_lt_of_le hl0 HBr.out.size
    clear htl hB
    by_cases hkt : k < t.length
    · obtain ⟨x, b5, o5, hx, hb5, hix, hcell⟩ := flat_at (c := f) (hT.below HWr.out (Nat.le_refl _)) ndCells_len Try.underlying79 rNd.size_eq (by decide) hkt
      have HDR : Hid (t.drop k = x :: t.drop (k + 1)) := drop_cons hx
      obtain ⟨ch, yes, no, rule⟩ := x
      have d0 := hcell 0 (.int .i64 ch) rfl
      have d1 := hcell 1 (.int .i64 yes) rfl
      have d2 := hcell 2 (.int .i64 no) rfl
      have d3 := hcell 3 (.int .i64 rule) rfl
      rw [Nat.add_zero] at d0
      obtain ⟨WX, hWX⟩ : ∃ WX, wr.alloc (.cells #[.int .i64 ch, .int .i64 yes, .int .i64 no, .int .i64 rule] 107) = WX := ⟨_, rfl⟩
      have hBX : Below wr.heap.size wr WX := by rw [← hWX]; exact (Below.refl _ wr).alloc (Nat.le_refl _) _
      have bX : Blk WX wr.heap.size (.cells #[.int .i64 ch, .int .i64 yes, .int .i64 no, .int .i64 rule] 107) := by rw [← hWX]; exact Blk.new _ _
      have e0 := bX.cell 0 (v := .int .i64 ch) rfl
      have e1 := bX.cell 1 (v := .int .i64 yes) rfl
      have e2 := bX.cell 2 (v := .int .i64 no) rfl
      have e3 := bX.cell 3 (v := .int .i64 rule) rfl
      have x0 := cell_chain hBX n1 g0
      have x1 := cell_chain hBX n1 g1
      have HX := Lib.hid hBX
      clear hx hcell hBX bX g0 g1
      cases h0 : (ch == (-1 : Int)) with
      | true =>
        have hch : Hid (ch = -1) := by show _ = _; simpa using h0
        cases q1 : (yes != (0 : Int)) with
        | true =>
          have HN : Hid (ndOk n rs.length t.length k ⟨ch, yes, no, rule⟩ = false) := by
            show _ = _
            rw [Bool.eq_false_iff]
            intro hN
            have h5 := (ndOk_leaf hch.out).1 hN
            simp at q1
            omega
          have HT : Hid (nodesB n rs.length t.length 0 t = false) := by show _ = _; rw [HTL.out, HDR.out, nodesB, HN.out]; rfl
          clear HN
          go_wp2
          go_ret
          exact ⟨by rw [HTB.out, HT.out]; rfl, below_in HWr.out HX.out⟩
        | false =>
          cases q2 : (no != (0 : Int)) with
          | true =>
            have HN : Hid (ndOk n rs.length t.length k ⟨ch, yes, no, rule⟩ = false) := by
              show _ = _
              rw [Bool.eq_false_iff]
              intro hN
              have h5 := (ndOk_leaf hch.out).1 hN
              simp at q2
              omega
            have HT : Hid (nodesB n rs.length t.length 0 t = false) := by show _ = _; rw [HTL.out, HDR.out, nodesB, HN.out]; rfl
            clear HN
            go_wp2
            go_ret
            exact ⟨by rw [HTB.out, HT.out]; rfl, below_in HWr.out HX.out⟩
          | false =>
            cases q3 : decide (rule < (-1 : Int)) with
            | true =>
              have HN : Hid (ndOk n rs.length t.length k ⟨ch, yes, no, rule⟩ = false) := by
                show _ = _
                rw [Bool.eq_false_iff]
                intro hN
                have h5 := (ndOk_leaf hch.out).1 hN
                simp at q3
                omega
              have HT : Hid (nodesB n rs.length t.length 0 t = false) := by show _ = _; rw [HTL.out, HDR.out, nodesB, HN.out]; rfl
              clear HN
              go_wp2
              go_ret
              exact ⟨by rw [HTB.out, HT.out]; rfl, below_in HWr.out HX.out⟩
            | false =>
              cases q4 : decide ((rs.length : Int) ≤ rule) with
              | true =>
                have HN : Hid (ndOk n rs.length t.length k ⟨ch, yes, no, rule⟩ = false) := by
                  show _ = _
                  rw [Bool.eq_false_iff]
                  intro hN
                  have h5 := (ndOk_leaf hch.out).1 hN
                  simp at q4
                  omega
                have HT : Hid (nodesB n rs.length t.length 0 t = false) := by show _ = _; rw [HTL.out, HDR.out, nodesB, HN.out]; rfl
                clear HN
                go_wp2
                go_ret
                exact ⟨by rw [HTB.out, HT.out]; rfl, below_in HWr.out HX.out⟩
              | false =>
                have HN : Hid (ndOk n rs.length t.length k ⟨ch, yes, no, rule⟩ = true) := by
                  show _ = _
                  refine (ndOk_leaf hch.out).2 ?_
                  simp at q1
                  simp at q2
                  simp at q3
                  simp at q4
                  omega
                have HT : Hid (nodesB n rs.length t.length 0 t = nodesB n rs.length t.length (k + 1) (t.drop (k + 1))) := by show _ = _; rw [HTL.out, HDR.out, nodesB, HN.out]; rfl
                clear HN
                go_wp2
                go_roundw
                case rel => exact ⟨k + 1, by omega, by go_num, HT.out, below_in HBr.out HX.out⟩
                case measure => simp [intOf]; omega
      | false =>
        have hch : Hid (ch ≠ -1) := by show _ ≠ _; simpa using h0
        cases q1 : decide (ch < (0 : Int)) with
        | true =>
          have HN : Hid (ndOk n rs.length t.length k ⟨ch, yes, no, rule⟩ = false) := by
            show _ = _
            rw [Bool.eq_false_iff]
            intro hN
            have h5 := (ndOk_test hch.out).1 hN
            simp at q1
            omega
          have HT : Hid (nodesB n rs.length t.length 0 t = false) := by show _ = _; rw [HTL.out, HDR.out, nodesB, HN.out]; rfl
          clear HN
          go_wp2
          go_ret
          exact ⟨by rw [HTB.out, HT.out]; rfl, below_in HWr.out HX.out⟩
        | false =>
          cases q2 : decide (n ≤ ch) with
          | true =>
            have HN : Hid (ndOk n rs.length t.length k ⟨ch, yes, no, rule⟩ = false) := by
              show _ = _
              rw [Bool.eq_false_iff]
              intro hN
              have h5 := (ndOk_test hch.out).1 hN
              simp at q2
              omega
            have HT : Hid (nodesB n rs.length t.length 0 t = false) := by show _ = _; rw [HTL.out, HDR.out, nodesB, HN.out]; rfl
            clear HN
            go_wp2
            go_ret
            exact ⟨by rw [HTB.out, HT.out]; rfl, below_in HWr.out HX.out⟩
          | false =>
            cases q3 : (rule != (-1 : Int)) with
            | true =>
              have HN : Hid (ndOk n rs.length t.length k ⟨ch, yes, no, rule⟩ = false) := by
                show _ = _
                rw [Bool.eq_false_iff]
                intro hN
                have h5 := (ndOk_test hch.out).1 hN
                simp at q3
                omega
              have HT : Hid (nodesB n rs.length t.length 0 t = false) := by show _ = _; rw [HTL.out, HDR.out, nodesB, HN.out]; rfl
              clear HN
              go_wp2
              go_ret
              exact ⟨by rw [HTB.out, HT.out]; rfl, below_in HWr.out HX.out⟩
            | false =>
              have p1 := of_decide_eq_false q1
              have p2 := of_decide_eq_false q2
              have p3 : rule = -1 := by simpa using q3
              have P := Lib.hid (And.intro p1 (And.intro p2 p3))
              clear p1 p2 p3
              go_wp2
              all_goals first
                | (go_ret
                   have HN : ndOk n rs.length t.length k ⟨ch, yes, no, rule⟩ = false := by
                     rw [Bool.eq_false_iff]
                     intro hN
                     have h5 := (ndOk_test hch.out).1 hN
                     omega
                   have HT : nodesB n rs.length t.length 0 t = false := by rw [HTL.out, HDR.out, nodesB, HN]; rfl
                   exact ⟨by rw [HTB.out, HT]; rfl, below_in HWr.out HX.out⟩)
                | (have HN : ndOk n rs.length t.length k ⟨ch, yes, no, rule⟩ = true := by
                     have h5 := P.out
                     refine (ndOk_test hch.out).2 ?_
                     omega
                   have HT : nodesB n rs.length t.length 0 t = nodesB n rs.length t.length (k + 1) (t.drop (k + 1)) := by rw [HTL.out, HDR.out, nodesB, HN]; rfl
                   exact ⟨⟨k + 1, by omega, by go_num, HT, below_in HBr.out HX.out⟩, by simp [intOf]; omega⟩)
    · obtain rfl : k = t.length := by omega
      have HT : Hid (nodesB n rs.length t.length 0 t = true) := by show _ = _; rw [HTL.out, List.drop_length]; rfl
      go_wp2
      go_ret
      exact ⟨by rw [HTB.out, HT.out]; rfl, HWr.out⟩
end Go.Proofs.Ytlnonadkdonhmaa

/- Contracts: Ask, in both packages. -/
namespace Go.Proofs.Ytlnonadkdonhmaa
open Go.RowKit Go.Maps

/-- The walk down a tree. -/
def askA (s : Int) (t : List Nd) : Nat → Nat → Int × List Int
  | 0, k => ((t.getD k ⟨-1, 0, 0, -1⟩).rule, [])
  | f + 1, k => if (t.getD k ⟨-1, 0, 0, -1⟩).ch < 0 then ((t.getD k ⟨-1, 0, 0, -1⟩).rule, []) else
      ((askA s t f (if inI s (t.getD k ⟨-1, 0, 0, -1⟩).ch then (t.getD k ⟨-1, 0, 0, -1⟩).yes else (t.getD k ⟨-1, 0, 0, -1⟩).no).toNat).1,
        (t.getD k ⟨-1, 0, 0, -1⟩).ch :: (askA s t f (if inI s (t.getD k ⟨-1, 0, 0, -1⟩).ch then (t.getD k ⟨-1, 0, 0, -1⟩).yes else (t.getD k ⟨-1, 0, 0, -1⟩).no).toNat).2)
def askT (s : Int) (t : List Nd) : Int × List Int := askA s t t.length 0
theorem askA_leaf {s : Int} {t : List Nd} {f k : Nat} {x : Nd} (hx : t[k]? = some x) (hc : x.ch < 0) : askA s t f k = (x.rule, []) := by
  have e : t.getD k ⟨-1, 0, 0, -1⟩ = x := by simp [List.getD, hx]
  cases f with
  | zero => rw [askA, e]
  | succ f => rw [askA, e, if_pos hc]
theorem askA_test {s : Int} {t : List Nd} {f k : Nat} {x : Nd} (hx : t[k]? = some x) (hc : 0 ≤ x.ch) : askA s t (f + 1) k = ((askA s t f (if inI s x.ch then x.yes else x.no).toNat).1, x.ch :: (askA s t f (if inI s x.ch then x.yes else x.no).toNat).2) := by
  have e : t.getD k ⟨-1, 0, 0, -1⟩ = x := by simp [List.getD, hx]
  rw [askA, e, if_neg (by omega)]
theorem nodes_at {n : Int} {R L : Nat} : ∀ {t : List Nd} {i k : Nat} {x : Nd}, nodesB n R L i t = true → t[k]? = some x → ndOk n R L (i + k) x = true
  | [], _, _, _, _, h => by simp at h
  | y :: t, i, 0, x, h, hx => by
    simp at hx
    subst hx
    rw [nodesB, Bool.and_eq_true] at h
    exact h.1
  | y :: t, i, k + 1, x, h, hx => by
    rw [nodesB, Bool.and_eq_true] at h
    have := nodes_at h.2 (by simpa using hx)
    rw [show i + (k + 1) = i + 1 + k by omega]
    exact this
theorem tree_at {n : Int} {R k : Nat} {t : List Nd} {x : Nd} (h : treeB n R t = true) (hx : t[k]? = some x) : (x.ch = -1 ∧ -1 ≤ x.rule ∧ x.rule < (R : Int)) ∨ (0 ≤ x.ch ∧ x.ch < n ∧ (k : Int) < x.yes ∧ x.yes < t.length ∧ (k : Int) < x.no ∧ x.no < t.length) := by
  unfold treeB at h
  simp only [Bool.and_eq_true] at h
  have h1 := nodes_at h.1.1 hx
  rw [Nat.zero_add] at h1
  obtain ⟨ch, yes, no, rule⟩ := x
  by_cases hc : ch = -1
  · have := (ndOk_leaf hc).1 h1
    exact .inl ⟨hc, this.2.2.1, this.2.2.2⟩
  · have := (ndOk_test hc).1 h1
    exact .inr ⟨this.1, this.2.1, this.2.2.2.1, this.2.2.2.2.1, this.2.2.2.2.2.1, this.2.2.2.2.2.2⟩

theorem askA_more {n : Int} {R : Nat} {t : List Nd} (h : treeB n R t = true) (s : Int) : ∀ {f f' k : Nat}, k < t.length → t.length - k ≤ f → t.length - k ≤ f' → askA s t f k = askA s t f' k
  | 0, f', k, hk, h1, _ => by omega
  | _ + 1, 0, k, hk, _, h2 => by omega
  | f + 1, f' + 1, k, hk, h1, h2 => by
    have hx : t[k]? = some t[k] := List.getElem?_eq_getElem hk
    rcases tree_at h hx with hc | hc
    · rw [askA_leaf hx (by omega), askA_leaf hx (by omega)]
    · rw [askA_test hx hc.1, askA_test hx hc.1]
      have ih := fun y : Int => fun (hy1 : (k : Int) < y) (hy2 : y < t.length) => askA_more h s (f := f) (f' := f') (k := y.toNat) (by omega) (by omega) (by omega)
      split
      · rw [ih _ hc.2.2.1 hc.2.2.2.1]
      · rw [ih _ hc.2.2.2.2.1 hc.2.2.2.2.2]

set_option maxRecDepth 100000 in
set_option maxHeartbeats 16000000 in
theorem RefAsk_any (n : Int) (R : Nat) (T : Option Addr) (f : Nat) (t : List Nd) (s : Int) (w : World) (hT : Cells w T (nds t)) (ht : treeB n R t = true) (hn : n ≤ 6) :
    Calls Try.prog 60 #[.slice T t.length f, .int .i64 s] w fun e w' => ∃ A' c', e = .returned (.tuple #[.int .i64 (askT s t).1, .slice A' (askT s t).2.length c']) ∧ Cells w' A' (ints (askT s t).2) ∧ Below w.heap.size w w' := by
  have hlen : 1 ≤ t.length ∧ t.length ≤ 127 := by
    unfold treeB at ht
    simp only [Bool.and_eq_true, decide_eq_true_eq] at ht
    exact ⟨ht.1.2, ht.2⟩
  have HTT := Lib.hid ht
  clear ht
  go_enter Try.func60, Try.ntmps60
  go_wp2
  go_loopw [6, 7] (fun v i wr => ∃ (k : Nat) (pre : List Int), k < t.length ∧ pre.length ≤ k ∧ i = .int .i64 k ∧ askT s t = ((askA s t (t.length - k) k).1, pre ++ (askA s t (t.length - k) k).2) ∧ wr.ownsRow w.heap.size 3 1 v pre.length (ints pre) ∧ Below w.heap.size w wr) (fun _ i _ => t.length - (intOf i).toNat)
  case atStart => exact ⟨0, [], by omega, Nat.le_refl _, rfl, rfl, World.ownsRow_nil _ _ _ _, Below.refl _ _⟩
  case round =>
    obtain ⟨k, pre, hk, hpl, rfl, hask, hown, hB⟩ := hrel
    have HAS := Lib.hid hask
    have HB := Lib.hid hB
    obtain ⟨x, b5, o5, hx, hb5, hix, hcell⟩ := flat_at (c := f) hT ndCells_len Try.underlying79 rNd.size_eq (by decide) hk
    have htx := tree_at HTT.out hx
    have HX := Lib.hid hx
    obtain ⟨ch, yes, no, rule⟩ := x
    simp only at htx
    have HZ := Lib.hid (And.intro (hcell 0 (.int .i64 ch) rfl) (And.intro (hcell 1 (.int .i64 yes) rfl) (And.intro (hcell 2 (.int .i64 no) rfl) (hcell 3 (.int .i64 rule) rfl))))
    have d0 := cell_chain HB.out hb5 HZ.out.1
    have d1 := cell_chain HB.out hb5 HZ.out.2.1
    have d2 := cell_chain HB.out hb5 HZ.out.2.2.1
    have d3 := cell_chain HB.out hb5 HZ.out.2.2.2
    rw [Nat.add_zero] at d0
    have hpl2 : pre.length ≤ 127 := by omega
    clear hx hcell hask hB
    rcases htx with htx | htx
    · have q0 : decide (0 ≤ ch) = false := by rw [htx.1]; rfl
      have hlf := askA_leaf (s := s) (f := t.length - k) HX.out (by show ch < 0; have := htx.1; omega)
      have HT : Hid (askT s t = (rule, pre)) := by show _ = _; rw [HAS.out, hlf]; simp
      clear htx hlf
      obtain ⟨A', c', rfl, hcs⟩ := own_out hown (by simp [ints]; omega)
      clear hown
      go_wp2
      go_ret2
      exact ⟨A', c', by rw [HT.out]; rfl, by rw [HT.out]; exact hcs, HB.out⟩
    · have q0 : decide (0 ≤ ch) = true := by simpa using htx.1
      have htst := askA_test (s := s) (f := t.length - k - 1) HX.out htx.1
      rw [show t.length - k - 1 + 1 = t.length - k by omega] at htst
      have h0 := htx.1
      have h6 : ch ≤ 60 := by omega
      have hnc : n ≤ 6 := hn
      cases hin : inI s ch with
      | true =>
        simp only [hin, if_true] at htst
        obtain ⟨y, rfl⟩ := Int.eq_ofNat_of_zero_le (a := yes) (by omega)
        rw [Int.toNat_natCast] at htst
        have HTS := Lib.hid htst
        have hy1 : k < y := by omega
        have hy2 : y < t.length := by omega
        clear htst htx
        go_wp2_with (first
          | (go_at_call 66; refine (has_any s ch _ (by omega) (by omega)).mono ?_; rintro e w2 ⟨rfl, rfl⟩; rw [hin])
          | (at_builtin; refine wpList_app1 rInt _ rfl _ _ rfl hown rfl [_] 1 rfl rfl (by simp [Value.oneCell']) (by omega) HB.out.size ?_; intro v' w1 hown1 hB1
             have e0 := cell_chain (HB.out.trans hB1) hb5 HZ.out.1
             have e1 := cell_chain (HB.out.trans hB1) hb5 HZ.out.2.1
             have e2 := cell_chain (HB.out.trans hB1) hb5 HZ.out.2.2.1
             rw [Nat.add_zero] at e0))
        go_roundw
        case rel => exact ⟨y, pre ++ [ch], hy2, by simp; omega, rfl, by rw [HAS.out, HTS.out, askA_more HTT.out s hy2 (show t.length - y ≤ t.length - k - 1 by omega) (Nat.le_refl _)]; simp, by simpa [ints] using hown1, HB.out.trans hB1⟩
        case measure => simp [intOf]; omega
      | false =>
        have hff : (false = true) = False := by simp
        simp only [hin, hff, if_false] at htst
        obtain ⟨y, rfl⟩ := Int.eq_ofNat_of_zero_le (a := no) (by omega)
        rw [Int.toNat_natCast] at htst
        have HTS := Lib.hid htst
        have hy1 : k < y := by omega
        have hy2 : y < t.length := by omega
        clear htst htx hff
        go_wp2_with (first
          | (go_at_call 66; refine (has_any s ch _ (by omega) (by omega)).mono ?_; rintro e w2 ⟨rfl, rfl⟩; rw [hin])
          | (at_builtin; refine wpList_app1 rInt _ rfl _ _ rfl hown rfl [_] 1 rfl rfl (by simp [Value.oneCell']) (by omega) HB.out.size ?_; intro v' w1 hown1 hB1
             have e0 := cell_chain (HB.out.trans hB1) hb5 HZ.out.1
             have e1 := cell_chain (HB.out.trans hB1) hb5 HZ.out.2.1
             have e2 := cell_chain (HB.out.trans hB1) hb5 HZ.out.2.2.1
             rw [Nat.add_zero] at e0))
        go_roundw
        case rel => exact ⟨y, pre ++ [ch], hy2, by simp; omega, rfl, by rw [HAS.out, HTS.out, askA_more HTT.out s hy2 (show t.length - y ≤ t.length - k - 1 by omega) (Nat.le_refl _)]; simp, by simpa [ints] using hown1, HB.out.trans hB1⟩
        case measure => simp [intOf]; omega
end Go.Proofs.Ytlnonadkdonhmaa

/- Contract: Ask. -/
namespace Go.Proofs.Ytlnonadkdonhmaa
open Go.RowKit Go.Maps

def askOk (n : Int) (rs : List Int) (t : List Nd) (s : Int) : Bool := grpOk n rs && treeB n rs.length t && setI n s
def askR (n : Int) (rs : List Int) (t : List Nd) (s : Int) : Int × List Int := if askOk n rs t s then askT s t else (0, [])

set_option maxRecDepth 100000 in
set_option maxHeartbeats 16000000 in
theorem Ask_any (n : Int) (A : Option Addr) (c : Nat) (rs : List Int) (T : Option Addr) (f : Nat) (t : List Nd) (s : Int) (w : World) (hA : Cells w A (ints rs)) (hT : Cells w T (nds t)) :
    Calls Try.prog 58 #[.agg #[.int .i64 n, .slice A rs.length c], .slice T t.length f, .int .i64 s] w fun e w' => ∃ A' c', e = .returned (.tuple #[.int .i64 (askR n rs t s).1, .slice A' (askR n rs t s).2.length c', .int .i64 (errI (askOk n rs t s))]) ∧ Cells w' A' (ints (askR n rs t s).2) ∧ Below w.heap.size w w' := by
  cases hok : askOk n rs t s with
  | false =>
    have HAR : Hid (askR n rs t s = (0, [])) := by show _ = _; unfold askR; rw [hok]; rfl
    have HOK := Lib.hid hok
    clear hok
    have HB0 : Hid (Below w.heap.size w (w.alloc (.cells #[.int .i64 n, .slice A rs.length c] 24))) := (Below.refl _ w).alloc (Nat.le_refl _) _
    have HA0 := Lib.hid (hA.below HB0.out (Nat.le_refl _))
    have hgm := Blk.new w (.cells #[.int .i64 n, .slice A rs.length c] 24)
    go_enter Try.func58, Try.ntmps58
    go_wp2_with fail
    go_step3
    go_wp2_with fail
    obtain ⟨W, hW⟩ : ∃ W, w.alloc (.cells #[.int .i64 n, .slice A rs.length c] 24) = W := ⟨_, rfl⟩
    rw [hW] at HB0 HA0 hgm
    rw [hW]
    have c0 := hgm.cell 0 (v := .int .i64 n) rfl
    have c1 := hgm.cell 1 (v := .slice A rs.length c) rfl
    have hl0 := hgm.lt
    clear hW hgm
    refine (check_any n A c rs W HA0.out).mono ?_
    rintro e w1 ⟨rfl, hB1⟩
    have HB1 := Lib.hid hB1
    clear hB1
    obtain ⟨bg, HG⟩ : ∃ b, Hid (grpOk n rs = b) := ⟨_, rfl⟩
    rw [HG.out]
    cases bg with
    | false =>
      have HBZ : Hid (Below w.heap.size w w1) := below_in HB0.out HB1.out
      go_wp2
      try simp only [Exit.inBlock, Exit.then]
      first | rw [Exit.noGoto_ret] | skip
      refine bodyPost_ret (v := .tuple #[.int .i64 0, .slice none 0 0, .int .i64 2]) (results_ttt rfl rfl rfl rfl) rfl ?_
      exact ⟨none, 0, by rw [HAR.out]; rfl, by rw [HAR.out]; exact Cells.nil _ _, HBZ.out⟩
    | true =>
    obtain ⟨hn1, hn6, _, _⟩ := grpOk_true HG.out
    have x0 := cell_chain HB1.out hl0 c0
    have x1 := cell_chain HB1.out hl0 c1
    go_wp2_with fail
    refine (planted_any n A c rs T f t w1 (HA0.out.below HB1.out (Nat.le_refl _)) (hT.below (below_in HB0.out HB1.out) (Nat.le_refl _))).mono ?_
    rintro e w2 ⟨rfl, hB2⟩
    have HB2 := Lib.hid (below_in HB1.out hB2)
    clear hB2 x0 x1
    obtain ⟨bt, HT⟩ : ∃ b, Hid (treeB n rs.length t = b) := ⟨_, rfl⟩
    rw [HT.out]
    cases bt with
    | false =>
      have HBZ : Hid (Below w.heap.size w w2) := below_in HB0.out HB2.out
      go_wp2
      try simp only [Exit.inBlock, Exit.then]
      first | rw [Exit.noGoto_ret] | skip
      refine bodyPost_ret (v := .tuple #[.int .i64 0, .slice none 0 0, .int .i64 2]) (results_ttt rfl rfl rfl rfl) rfl ?_
      exact ⟨none, 0, by rw [HAR.out]; rfl, by rw [HAR.out]; exact Cells.nil _ _, HBZ.out⟩
    | true =>
    have HSE : Hid (setI n s = false) := by
      show _ = _
      have := HOK.out
      unfold askOk at this
      rw [HG.out, HT.out] at this
      simpa using this
    have x0 := cell_chain HB2.out hl0 c0
    have x1 := cell_chain HB2.out hl0 c1
    go_wp2_with fail
    refine (isSet_any n s A rs.length c w2 (by omega) (by omega)).mono ?_
    rintro e w3 ⟨rfl, hB3⟩
    rw [HSE.out]
    have HBZ : Hid (Below w.heap.size w w3) := below_in HB0.out (below_in HB2.out hB3)
    clear hB3 x0 x1
    go_wp2
    try simp only [Exit.inBlock, Exit.then]
    first | rw [Exit.noGoto_ret] | skip
    refine bodyPost_ret (v := .tuple #[.int .i64 0, .slice none 0 0, .int .i64 2]) (results_ttt rfl rfl rfl rfl) rfl ?_
    exact ⟨none, 0, by rw [HAR.out]; rfl, by rw [HAR.out]; exact Cells.nil _ _, HBZ.out⟩
  | true =>
    have HAR : Hid (askR n rs t s = askT s t) := by show _ = _; unfold askR; rw [hok]; rfl
    have hok' := hok
    simp only [askOk, Bool.and_eq_true] at hok'
    have HG := Lib.hid hok'.1.1
    have HTT := Lib.hid hok'.1.2
    have HSE := Lib.hid hok'.2
    clear hok hok'
    obtain ⟨hn1, hn6, _, _⟩ := grpOk_true HG.out
    have hlen : 1 ≤ t.length ∧ t.length ≤ 127 := by
      have ht := HTT.out
      unfold treeB at ht
      simp only [Bool.and_eq_true, decide_eq_true_eq] at ht
      exact ⟨ht.1.2, ht.2⟩
    have HB0 : Hid (Below w.heap.size w (w.alloc (.cells #[.int .i64 n, .slice A rs.length c] 24))) := (Below.refl _ w).alloc (Nat.le_refl _) _
    have HA0 := Lib.hid (hA.below HB0.out (Nat.le_refl _))
    have hgm := Blk.new w (.cells #[.int .i64 n, .slice A rs.length c] 24)
    go_enter Try.func58, Try.ntmps58
    go_wp2_with fail
    go_step3
    go_wp2_with fail
    obtain ⟨W, hW⟩ : ∃ W, w.alloc (.cells #[.int .i64 n, .slice A rs.length c] 24) = W := ⟨_, rfl⟩
    rw [hW] at HB0 HA0 hgm
    rw [hW]
    have c0 := hgm.cell 0 (v := .int .i64 n) rfl
    have c1 := hgm.cell 1 (v := .slice A rs.length c) rfl
    have hl0 := hgm.lt
    clear hW hgm
    refine (check_any n A c rs W HA0.out).mono ?_
    rintro e w1 ⟨rfl, hB1⟩
    have HB1 := Lib.hid hB1
    clear hB1
    rw [HG.out]
    have x0 := cell_chain HB1.out hl0 c0
    have x1 := cell_chain HB1.out hl0 c1
    go_wp2_with fail
    refine (planted_any n A c rs T f t w1 (HA0.out.below HB1.out (Nat.le_refl _)) (hT.below (below_in HB0.out HB1.out) (Nat.le_refl _))).mono ?_
    rintro e w2 ⟨rfl, hB2⟩
    have HB2 := Lib.hid (below_in HB1.out hB2)
    rw [HTT.out]
    clear hB2 x0 x1
    have x0 := cell_chain HB2.out hl0 c0
    have x1 := cell_chain HB2.out hl0 c1
    go_wp2_with fail
    refine (isSet_any n s A rs.length c w2 (by omega) (by omega)).mono ?_
    rintro e w3 ⟨rfl, hB3⟩
    rw [HSE.out]
    have HBZ : Hid (Below w.heap.size w w3) := below_in HB0.out (below_in HB2.out hB3)
    have hT3 := Lib.hid (hT.below HBZ.out (Nat.le_refl _))
    have hsz3 := HBZ.out.size
    clear hB3 x0 x1 c0 c1 hl0 HB1 HB2 HA0 HB0
    go_wp2
    go_step3
    go_wp2
    go_loopw [9, 10] (fun v i wr => ∃ (k : Nat) (pre : List Int), k < t.length ∧ pre.length ≤ k ∧ i = .int .i64 k ∧ askT s t = ((askA s t (t.length - k) k).1, pre ++ (askA s t (t.length - k) k).2) ∧ wr.ownsRow w3.heap.size 3 1 v pre.length (ints pre) ∧ Below w3.heap.size w3 wr) (fun _ i _ => t.length - (intOf i).toNat)
    case atStart => exact ⟨0, [], by omega, Nat.le_refl _, rfl, rfl, World.ownsRow_nil _ _ _ _, Below.refl _ _⟩
    case round =>
      obtain ⟨k, pre, hk, hpl, rfl, hask, hown, hB⟩ := hrel
      have HAS := Lib.hid hask
      have HBr := Lib.hid hB
      have HO := Lib.hid hown
      obtain ⟨x, b5, o5, hx, hb5, hix, hcell⟩ := flat_at (c := f) hT3.out ndCells_len Try.underlying79 rNd.size_eq (by decide) hk
      have htx := tree_at HTT.out hx
      have HNX := Lib.hid hx
      obtain ⟨ch, yes, no, rule⟩ := x
      simp only at htx
      have d0 := cell_chain HBr.out hb5 (hcell 0 (.int .i64 ch) rfl)
      have d1 := cell_chain HBr.out hb5 (hcell 1 (.int .i64 yes) rfl)
      have d2 := cell_chain HBr.out hb5 (hcell 2 (.int .i64 no) rfl)
      have d3 := cell_chain HBr.out hb5 (hcell 3 (.int .i64 rule) rfl)
      rw [Nat.add_zero] at d0
      have hpl2 : pre.length ≤ 127 := by omega
      have hszr := HBr.out.size
      obtain ⟨WX, hWX⟩ : ∃ WX, wr.alloc (.cells #[.int .i64 ch, .int .i64 yes, .int .i64 no, .int .i64 rule] 107) = WX := ⟨_, rfl⟩
      have hBX : Below wr.heap.size wr WX := by rw [← hWX]; exact (Below.refl _ wr).alloc (Nat.le_refl _) _
      have bX : Blk WX wr.heap.size (.cells #[.int .i64 ch, .int .i64 yes, .int .i64 no, .int .i64 rule] 107) := by rw [← hWX]; exact Blk.new _ _
      have e0 := bX.cell 0 (v := .int .i64 ch) rfl
      have e1 := bX.cell 1 (v := .int .i64 yes) rfl
      have e2 := bX.cell 2 (v := .int .i64 no) rfl
      have e3 := bX.cell 3 (v := .int .i64 rule) rfl
      have HX := Lib.hid hBX
      have HBX : Hid (Below w3.heap.size w3 WX) := below_in HBr.out hBX
      have HOX : Hid (WX.ownsRow w3.heap.size 3 1 u9 pre.length (ints pre)) := own_frame HO.out (Frame.of_all (S := fun _ => False) HX.out) (fun _ _ h => h)
      have HSX := HBX.out.size
      have z3 := cell_chain HBX.out hb5 (hcell 3 (.int .i64 rule) rfl)
      clear hx hcell hask hB hown hBX bX
      rcases htx with htx | htx
      · have q0 : decide (ch < 0) = true := by rw [htx.1]; rfl
        have hlf := askA_leaf (s := s) (f := t.length - k) HNX.out (by show ch < 0; have := htx.1; omega)
        have HT : Hid (askT s t = (rule, pre)) := by show _ = _; rw [HAS.out, hlf]; simp
        clear htx hlf
        obtain ⟨A', c', rfl, hcs⟩ := own_out HOX.out (by simp [ints]; omega)
        go_wp2
        try simp only [Exit.inBlock, Exit.then]
        first | rw [Exit.noGoto_ret] | skip
        refine bodyPost_ret (v := .tuple #[.int .i64 rule, .slice A' pre.length c', .int .i64 0]) (results_ttt rfl rfl rfl rfl) rfl ?_
        exact ⟨A', c', by rw [HAR.out, HT.out]; rfl, by rw [HAR.out, HT.out]; exact hcs, HBZ.out.trans (HBX.out.mono hsz3)⟩
      · have q0 : decide (ch < 0) = false := by have := htx.1; simp; omega
        have htst := askA_test (s := s) (f := t.length - k - 1) HNX.out htx.1
        rw [show t.length - k - 1 + 1 = t.length - k by omega] at htst
        have h0 := htx.1
        have h6 : ch ≤ 60 := by omega
        cases hin : inI s ch with
        | true =>
          simp only [hin, if_true] at htst
          obtain ⟨y, rfl⟩ := Int.eq_ofNat_of_zero_le (a := yes) (by omega)
          rw [Int.toNat_natCast] at htst
          have HTS := Lib.hid htst
          have hy1 : k < y := by omega
          have hy2 : y < t.length := by omega
          clear htst htx
          go_wp2_with (first
            | (go_at_call 107; refine (in_any s ch _ (by omega) (by omega)).mono ?_; rintro e w2 ⟨rfl, rfl⟩; rw [hin])
            | (at_builtin; refine wpList_app1 rInt _ rfl _ _ rfl HOX.out rfl [_] 1 rfl rfl (by simp [Value.oneCell']) (by omega) HSX ?_; intro v' w1 hown1 hB1))
          go_roundw
          case rel => exact ⟨y, pre ++ [ch], hy2, by simp; omega, rfl, by rw [HAS.out, HTS.out, askA_more HTT.out s hy2 (show t.length - y ≤ t.length - k - 1 by omega) (Nat.le_refl _)]; simp, by simpa [ints] using hown1, HBX.out.trans hB1⟩
          case measure => simp [intOf]; omega
        | false =>
          have hff : (false = true) = False := by simp
          simp only [hin, hff, if_false] at htst
          obtain ⟨y, rfl⟩ := Int.eq_ofNat_of_zero_le (a := no) (by omega)
          rw [Int.toNat_natCast] at htst
          have HTS := Lib.hid htst
          have hy1 : k < y := by omega
          have hy2 : y < t.length := by omega
          clear htst htx hff
          go_wp2_with (first
            | (go_at_call 107; refine (in_any s ch _ (by omega) (by omega)).mono ?_; rintro e w2 ⟨rfl, rfl⟩; rw [hin])
            | (at_builtin; refine wpList_app1 rInt _ rfl _ _ rfl HOX.out rfl [_] 1 rfl rfl (by simp [Value.oneCell']) (by omega) HSX ?_; intro v' w1 hown1 hB1))
          go_roundw
          case rel => exact ⟨y, pre ++ [ch], hy2, by simp; omega, rfl, by rw [HAS.out, HTS.out, askA_more HTT.out s hy2 (show t.length - y ≤ t.length - k - 1 by omega) (Nat.le_refl _)]; simp, by simpa [ints] using hown1, HBX.out.trans hB1⟩
          case measure => simp [intOf]; omega
end Go.Proofs.Ytlnonadkdonhmaa
