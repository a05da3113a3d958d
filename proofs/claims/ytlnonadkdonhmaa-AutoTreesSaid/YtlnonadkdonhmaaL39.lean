/- Contracts and lemmas that a claim of this seat uses. -/
import Derived.Test.YtlnonadkdonhmaaL38
import Derived.Test.YtlnonadkdonhmaaL6
import Derived.Test.YtlnonadkdonhmaaL10

/- Contract: decides. -/
namespace Go.Proofs.Ytlnonadkdonhmaa
open Go.RowKit Go.Maps

/-- No rule that lies in the set speaks against what the tree says. -/
def ruleBad (first : Bool) (rule s : Int) (i : Nat) (r : Int) : Bool := withinI r s && (decide (rule < 0) || (first && decide ((i : Int) < rule)))
def rulesGood (first : Bool) (rule s : Int) : Nat → List Int → Bool
  | _, [] => true
  | i, r :: rs => !(ruleBad first rule s i r) && rulesGood first rule s (i + 1) rs
def saysOk (rs : List Int) (first : Bool) (rule s : Int) : Bool := (decide (rule < 0) || withinI (rs.getD rule.toNat 0) s) && rulesGood first rule s 0 rs
def decS (rs : List Int) (t : List Nd) (known has : Int) (first : Bool) (s : Nat) : Bool := (bits BinOp.and .i64 (s : Int) known != has) || saysOk rs first (askT (s : Int) t).1 (s : Int)
def decTo (rs : List Int) (t : List Nd) (known has : Int) (first : Bool) (k : Nat) : Bool := (List.range k).all (decS rs t known has first)
def decidesB (n : Nat) (rs : List Int) (t : List Nd) (known has : Int) (first : Bool) : Bool := decTo rs t known has first (2 ^ n)
theorem decTo_succ (rs : List Int) (t : List Nd) (known has : Int) (first : Bool) (k : Nat) : decTo rs t known has first (k + 1) = (decTo rs t known has first k && decS rs t known has first k) := by
  unfold decTo
  rw [List.range_succ, List.all_append]
  simp
theorem decTo_no {rs : List Int} {t : List Nd} {known has : Int} {first : Bool} {k N : Nat} (h : decS rs t known has first k = false) (hk : k < N) : decTo rs t known has first N = false := by
  unfold decTo
  rw [List.all_eq_false]
  exact ⟨k, List.mem_range.2 hk, by rw [h]; simp⟩

theorem askA_rule {n : Int} {R : Nat} {t : List Nd} (h : treeB n R t = true) (s : Int) : ∀ {f k : Nat}, k < t.length → t.length - k ≤ f → -1 ≤ (askA s t f k).1 ∧ (askA s t f k).1 < (R : Int)
  | 0, k, hk, h1 => by omega
  | f + 1, k, hk, h1 => by
    have hx : t[k]? = some t[k] := List.getElem?_eq_getElem hk
    rcases tree_at h hx with hc | hc
    · rw [askA_leaf hx (by omega)]
      exact ⟨hc.2.1, hc.2.2⟩
    · rw [askA_test hx hc.1]
      have ih := fun y : Int => fun (hy1 : (k : Int) < y) (hy2 : y < t.length) => askA_rule h s (f := f) (k := y.toNat) (by omega) (by omega)
      simp only
      split
      · exact ih _ hc.2.2.1 hc.2.2.2.1
      · exact ih _ hc.2.2.2.2.1 hc.2.2.2.2.2
theorem tree_pos {n : Int} {R : Nat} {t : List Nd} (h : treeB n R t = true) : 1 ≤ t.length ∧ t.length ≤ 127 := by
  unfold treeB at h
  simp only [Bool.and_eq_true, decide_eq_true_eq] at h
  exact ⟨h.1.2, h.2⟩
theorem askT_rule {n : Int} {R : Nat} {t : List Nd} (h : treeB n R t = true) (s : Int) : -1 ≤ (askT s t).1 ∧ (askT s t).1 < (R : Int) :=
  askA_rule h s (by have := tree_pos h; omega) (by omega)

set_option maxRecDepth 100000 in
set_option maxHeartbeats 16000000 in
theorem decides_false (N : Nat) (A : Option Addr) (c : Nat) (rs : List Int) (T : Option Addr) (f : Nat) (t : List Nd) (known has : Int) (w : World) (hA : Cells w A (ints rs)) (hT : Cells w T (nds t)) (hg : grpOk (N : Int) rs = true) (ht : treeB (N : Int) rs.length t = true) :
    Calls Try.prog 65 #[.agg #[.int .i64 (N : Int), .slice A rs.length c], .slice T t.length f, .int .i64 known, .int .i64 has, .bool false] w fun e w' => e = .returned (.bool (decidesB N rs t known has false)) ∧ Below w.heap.size w w' := by
  obtain ⟨hn1, hn6, hrl, _⟩ := grpOk_true hg
  have HTT := Lib.hid ht
  have hN6 : N ≤ 6 := by omega
  clear hg ht
  have hp64 : (2 : Nat) ^ N ≤ 64 := by
    have h3 : (2 : Nat) ^ N ≤ 2 ^ 6 := Nat.pow_le_pow_right (by decide) hN6
    exact h3
  obtain ⟨P, hP⟩ : ∃ P, Hid (2 ^ N = P) := ⟨2 ^ N, rfl⟩
  obtain ⟨nn, hnn⟩ : ∃ nn : Int, (N : Int) = nn := ⟨_, rfl⟩
  have hp0 := p2_wrap (n := nn) (by omega) (by omega)
  have hp0' := p2_wrap' (n := nn) (by omega) (by omega)
  have hpe : (2 : Int) ^ nn.toNat = (P : Int) := by rw [← hnn, Int.toNat_natCast, ← hP.out]; push_cast; rfl
  have hp1 : wrap64 (2 ^ nn.toNat) = (P : Int) := by rw [← hpe]; exact hp0
  have hp1' : IntKind.i64.wrap (2 ^ nn.toNat) = (P : Int) := by rw [← hpe]; exact hp0'
  have hnn0 : 0 ≤ nn := by omega
  have hnn6 : nn ≤ 6 := by omega
  have hP64 : P ≤ 64 := by rw [← hP.out]; exact hp64
  have HNN := Lib.hid hnn
  rw [hnn] at HTT ⊢
  clear hpe hp64 hnn hp0 hp0'
  have HB0 : Hid (Below w.heap.size w (w.alloc (.cells #[.int .i64 nn, .slice A rs.length c] 24))) := (Below.refl _ w).alloc (Nat.le_refl _) _
  have HA0 := Lib.hid (hA.below HB0.out (Nat.le_refl _))
  have hgm := Blk.new w (.cells #[.int .i64 nn, .slice A rs.length c] 24)
  go_enter Try.func65, Try.ntmps65
  go_wp2
  obtain ⟨W, hW⟩ : ∃ W, w.alloc (.cells #[.int .i64 nn, .slice A rs.length c] 24) = W := ⟨_, rfl⟩
  rw [hW] at HB0 HA0 hgm
  rw [hW]
  have c0 := hgm.cell 0 (v := .int .i64 nn) rfl
  have c1 := hgm.cell 1 (v := .slice A rs.length c) rfl
  have hl0 := hgm.lt
  clear hW hgm
  go_loopw [11] (fun i wr => ∃ k : Nat, k ≤ P ∧ i = .int .i64 k ∧ decTo rs t known has false k = true ∧ Below W.heap.size W wr) (fun i _ => P - (intOf i).toNat)
  case atStart => exact ⟨0, Nat.zero_le _, rfl, rfl, Below.refl _ _⟩
  case round =>
    obtain ⟨k, hkP, rfl, hdec, hB⟩ := hrel
    obtain ⟨wq, rfl⟩ : ∃ wq : World, wq = wr := ⟨_, rfl⟩
    have HDC := Lib.hid hdec
    have HBr := Lib.hid hB
    have HWr : Hid (Below w.heap.size w wq) := below_in HB0.out HBr.out
    have g0 := cell_chain HBr.out hl0 c0
    have g1 := cell_chain HBr.out hl0 c1
    clear hdec hB
    by_cases hk : k < P
    · cases hkh : (bits BinOp.and .i64 (k : Int) known != has) with
      | true =>
        have HDS : Hid (decS rs t known has false k = true) := by show _ = _; unfold decS; rw [hkh]; rfl
        go_wp2
        go_roundw
        case rel => exact ⟨k + 1, by omega, by go_num, by rw [decTo_succ, HDC.out, HDS.out]; rfl, HBr.out⟩
        case measure => simp [intOf]; omega
      | false =>
        obtain ⟨R, hR⟩ : ∃ R, (askT (k : Int) t).1 = R := ⟨_, rfl⟩
        have hrule := askT_rule HTT.out (k : Int)
        rw [hR] at hrule
        have HDE : Hid (decS rs t known has false k = saysOk rs false R (k : Int)) := by show _ = _; unfold decS; rw [hkh, hR]; rfl
        have HR := Lib.hid hR
        clear hR
        go_wp2_with fail
        refine (RefAsk_any nn rs.length T f t (k : Int) wq (hT.below HWr.out (Nat.le_refl _)) HTT.out (by omega)).mono ?_
        rintro e w1 ⟨A1, c1', rfl, hC1, hB1⟩
        rw [HR.out]
        have HB1 : Hid (Below W.heap.size W w1) := below_in HBr.out hB1
        have HW1 : Hid (Below w.heap.size w w1) := below_in HB0.out HB1.out
        clear hC1 hB1 g0 g1
        have g0 := cell_chain HB1.out hl0 c0
        have g1 := cell_chain HB1.out hl0 c1
        have HAW := Lib.hid (HA0.out.below HB1.out (Nat.le_refl _))
        cases hR0 : decide (R < 0) with
        | true =>
          have hR0' : decide (0 ≤ R) = false := by have := of_decide_eq_true hR0; rw [decide_eq_false_iff_not]; omega
          have HSO : Hid (decS rs t known has false k = rulesGood false R (k : Int) 0 rs) := by show _ = _; rw [HDE.out, saysOk, hR0]; rfl
          clear hrule
          go_wp2
          go_loopw [49] (fun z wr => ∃ i : Nat, i ≤ rs.length ∧ z = .int .i64 i ∧ rulesGood false R (k : Int) 0 rs = rulesGood false R (k : Int) i (rs.drop i) ∧ Below w1.heap.size w1 wr) (fun z _ => rs.length - (intOf z).toNat)
          case atStart => exact ⟨0, Nat.zero_le _, rfl, by rw [List.drop_zero], Below.refl _ _⟩
          case round =>
            obtain ⟨i, hi, rfl, hgood, hB⟩ := hrel
            have HGD := Lib.hid hgood
            have HBi := Lib.hid hB
            have HBI : Hid (Below W.heap.size W wr) := below_in HB1.out HBi.out
            clear hgood hB
            by_cases hil : i < rs.length
            · obtain ⟨z, b7, o7, hz7, hb7, hix7, hc7⟩ := ints_at (c := c) (HAW.out.below HBi.out (Nat.le_refl _)) Try.underlying22 szInt hil
              have HDR : Hid (rs.drop i = z :: rs.drop (i + 1)) := drop_cons hz7
              clear hz7
              cases hwi : withinI z (k : Int) with
              | false =>
                have HBD : Hid (ruleBad false R (k : Int) i z = false) := by show _ = _; unfold ruleBad; rw [hwi]; rfl
                go_wp2_with (go_at_call 96; go_must (refine (within_any _ _ _).mono ?_); rintro e w4 ⟨rfl, rfl⟩; rw [hwi])
                go_roundw
                case rel => exact ⟨i + 1, by omega, by go_num, by rw [HGD.out, HDR.out, rulesGood, HBD.out]; rfl, HBi.out⟩
                case measure => simp [intOf]; omega
              | true =>
                have HBD : Hid (ruleBad false R (k : Int) i z = true) := by show _ = _; unfold ruleBad; rw [hwi, hR0]; rfl
                go_wp2_with (go_at_call 96; go_must (refine (within_any _ _ _).mono ?_); rintro e w4 ⟨rfl, rfl⟩; rw [hwi])
                have hds := HSO.out
                rw [HGD.out, HDR.out, rulesGood, HBD.out] at hds
                go_ret
                exact ⟨by rw [show decidesB N rs t known has false = false from decTo_no hds (by rw [hP.out]; exact hk)]; rfl, below_in HB0.out HBI.out⟩
            · obtain rfl : i = rs.length := by omega
              have HDS : Hid (decS rs t known has false k = true) := by show _ = _; rw [HSO.out, HGD.out, List.drop_length]; rfl
              go_wp2
              go_roundw
              case rel => exact ⟨k + 1, by omega, by go_num, by rw [decTo_succ, HDC.out, HDS.out]; rfl, HBI.out⟩
              case measure => simp [intOf]; omega
        | false =>
          have hR0' : decide (0 ≤ R) = true := by have := of_decide_eq_false hR0; rw [decide_eq_true_eq]; omega
          obtain ⟨r, hr⟩ := Int.eq_ofNat_of_zero_le (of_decide_eq_true hR0')
          have HRr := Lib.hid hr
          have hrl2 : r < rs.length := by omega
          obtain ⟨z, b6, o6, hz6, hb6, hix6, hc6⟩ := ints_at (c := c) HAW.out Try.underlying22 szInt hrl2
          rw [← hr] at hix6
          have hgz : rs.getD R.toNat 0 = z := by rw [HRr.out, Int.toNat_natCast]; simp [List.getD, hz6]
          have HGZ := Lib.hid hgz
          clear hr hz6 hgz hrule
          cases hwz : withinI z (k : Int) with
          | false =>
            have HDS : Hid (decS rs t known has false k = false) := by show _ = _; rw [HDE.out, saysOk, hR0, HGZ.out, hwz]; rfl
            go_wp2_with (go_at_call 96; go_must (refine (within_any _ _ _).mono ?_); rintro e w4 ⟨rfl, rfl⟩; rw [hwz])
            go_ret
            exact ⟨by rw [show decidesB N rs t known has false = false from decTo_no HDS.out (by rw [hP.out]; exact hk)]; rfl, HW1.out⟩
          | true =>
            have HSO : Hid (decS rs t known has false k = rulesGood false R (k : Int) 0 rs) := by show _ = _; rw [HDE.out, saysOk, hR0, HGZ.out, hwz]; rfl
            go_wp2_with (go_at_call 96; go_must (refine (within_any _ _ _).mono ?_); rintro e w4 ⟨rfl, rfl⟩; rw [hwz])
            clear hix6 hc6 hb6 hwz HGZ
            go_loopw [49] (fun z wr => ∃ i : Nat, i ≤ rs.length ∧ z = .int .i64 i ∧ rulesGood false R (k : Int) 0 rs = rulesGood false R (k : Int) i (rs.drop i) ∧ Below w1.heap.size w1 wr) (fun z _ => rs.length - (intOf z).toNat)
            case atStart => exact ⟨0, Nat.zero_le _, rfl, by rw [List.drop_zero], Below.refl _ _⟩
            case round =>
              obtain ⟨i, hi, rfl, hgood, hB⟩ := hrel
              have HGD := Lib.hid hgood
              have HBi := Lib.hid hB
              have HBI : Hid (Below W.heap.size W wr) := below_in HB1.out HBi.out
              clear hgood hB
              by_cases hil : i < rs.length
              · obtain ⟨z, b7, o7, hz7, hb7, hix7, hc7⟩ := ints_at (c := c) (HAW.out.below HBi.out (Nat.le_refl _)) Try.underlying22 szInt hil
                have HDR : Hid (rs.drop i = z :: rs.drop (i + 1)) := drop_cons hz7
                clear hz7
                cases hwi : withinI z (k : Int) with
                | false =>
                  have HBD : Hid (ruleBad false R (k : Int) i z = false) := by show _ = _; unfold ruleBad; rw [hwi]; rfl
                  go_wp2_with (go_at_call 96; go_must (refine (within_any _ _ _).mono ?_); rintro e w4 ⟨rfl, rfl⟩; rw [hwi])
                  go_roundw
                  case rel => exact ⟨i + 1, by omega, by go_num, by rw [HGD.out, HDR.out, rulesGood, HBD.out]; rfl, HBi.out⟩
                  case measure => simp [intOf]; omega
                | true =>
                  cases hir : decide ((i : Int) < R) with
                  | false =>
                    have HBD : Hid (ruleBad false R (k : Int) i z = false) := by show _ = _; unfold ruleBad; rw [hwi, hR0, hir]; rfl
                    go_wp2_with (go_at_call 96; go_must (refine (within_any _ _ _).mono ?_); rintro e w4 ⟨rfl, rfl⟩; rw [hwi])
                    go_roundw
                    case rel => exact ⟨i + 1, by omega, by go_num, by rw [HGD.out, HDR.out, rulesGood, HBD.out]; rfl, HBi.out⟩
                    case measure => simp [intOf]; omega
                  | true =>
                    have HBD : Hid (ruleBad false R (k : Int) i z = false) := by show _ = _; unfold ruleBad; rw [hwi, hR0, hir]; rfl
                    go_wp2_with (go_at_call 96; go_must (refine (within_any _ _ _).mono ?_); rintro e w4 ⟨rfl, rfl⟩; rw [hwi])
                    go_roundw
                    case rel => exact ⟨i + 1, by omega, by go_num, by rw [HGD.out, HDR.out, rulesGood, HBD.out]; rfl, HBi.out⟩
                    case measure => simp [intOf]; omega
              · obtain rfl : i = rs.length := by omega
                have HDS : Hid (decS rs t known has false k = true) := by show _ = _; rw [HSO.out, HGD.out, List.drop_length]; rfl
                go_wp2
                go_roundw
                case rel => exact ⟨k + 1, by omega, by go_num, by rw [decTo_succ, HDC.out, HDS.out]; rfl, HBI.out⟩
                case measure => simp [intOf]; omega
    · obtain rfl : k = P := by omega
      have HT : Hid (decidesB N rs t known has false = true) := by show _ = _; unfold decidesB; rw [hP.out]; exact HDC.out
      go_wp2
      go_ret
      exact ⟨by rw [HT.out]; rfl, HWr.out⟩
set_option maxRecDepth 100000 in
set_option maxHeartbeats 16000000 in
theorem decides_true (N : Nat) (A : Option Addr) (c : Nat) (rs : List Int) (T : Option Addr) (f : Nat) (t : List Nd) (known has : Int) (w : World) (hA : Cells w A (ints rs)) (hT : Cells w T (nds t)) (hg : grpOk (N : Int) rs = true) (ht : treeB (N : Int) rs.length t = true) :
    Calls Try.prog 65 #[.agg #[.int .i64 (N : Int), .slice A rs.length c], .slice T t.length f, .int .i64 known, .int .i64 has, .bool true] w fun e w' => e = .returned (.bool (decidesB N rs t known has true)) ∧ Below w.heap.size w w' := by
  obtain ⟨hn1, hn6, hrl, _⟩ := grpOk_true hg
  have HTT := Lib.hid ht
  have hN6 : N ≤ 6 := by omega
  clear hg ht
  have hp64 : (2 : Nat) ^ N ≤ 64 := by
    have h3 : (2 : Nat) ^ N ≤ 2 ^ 6 := Nat.pow_le_pow_right (by decide) hN6
    exact h3
  obtain ⟨P, hP⟩ : ∃ P, Hid (2 ^ N = P) := ⟨2 ^ N, rfl⟩
  obtain ⟨nn, hnn⟩ : ∃ nn : Int, (N : Int) = nn := ⟨_, rfl⟩
  have hp0 := p2_wrap (n := nn) (by omega) (by omega)
  have hp0' := p2_wrap' (n := nn) (by omega) (by omega)
  have hpe : (2 : Int) ^ nn.toNat = (P : Int) := by rw [← hnn, Int.toNat_natCast, ← hP.out]; push_cast; rfl
  have hp1 : wrap64 (2 ^ nn.toNat) = (P : Int) := by rw [← hpe]; exact hp0
  have hp1' : IntKind.i64.wrap (2 ^ nn.toNat) = (P : Int) := by rw [← hpe]; exact hp0'
  have hnn0 : 0 ≤ nn := by omega
  have hnn6 : nn ≤ 6 := by omega
  have hP64 : P ≤ 64 := by rw [← hP.out]; exact hp64
  have HNN := Lib.hid hnn
  rw [hnn] at HTT ⊢
  clear hpe hp64 hnn hp0 hp0'
  have HB0 : Hid (Below w.heap.size w (w.alloc (.cells #[.int .i64 nn, .slice A rs.length c] 24))) := (Below.refl _ w).alloc (Nat.le_refl _) _
  have HA0 := Lib.hid (hA.below HB0.out (Nat.le_refl _))
  have hgm := Blk.new w (.cells #[.int .i64 nn, .slice A rs.length c] 24)
  go_enter Try.func65, Try.ntmps65
  go_wp2
  obtain ⟨W, hW⟩ : ∃ W, w.alloc (.cells #[.int .i64 nn, .slice A rs.length c] 24) = W := ⟨_, rfl⟩
  rw [hW] at HB0 HA0 hgm
  rw [hW]
  have c0 := hgm.cell 0 (v := .int .i64 nn) rfl
  have c1 := hgm.cell 1 (v := .slice A rs.length c) rfl
  have hl0 := hgm.lt
  clear hW hgm
  go_loopw [11] (fun i wr => ∃ k : Nat, k ≤ P ∧ i = .int .i64 k ∧ decTo rs t known has true k = true ∧ Below W.heap.size W wr) (fun i _ => P - (intOf i).toNat)
  case atStart => exact ⟨0, Nat.zero_le _, rfl, rfl, Below.refl _ _⟩
  case round =>
    obtain ⟨k, hkP, rfl, hdec, hB⟩ := hrel
    obtain ⟨wq, rfl⟩ : ∃ wq : World, wq = wr := ⟨_, rfl⟩
    have HDC := Lib.hid hdec
    have HBr := Lib.hid hB
    have HWr : Hid (Below w.heap.size w wq) := below_in HB0.out HBr.out
    have g0 := cell_chain HBr.out hl0 c0
    have g1 := cell_chain HBr.out hl0 c1
    clear hdec hB
    by_cases hk : k < P
    · cases hkh : (bits BinOp.and .i64 (k : Int) known != has) with
      | true =>
        have HDS : Hid (decS rs t known has true k = true) := by show _ = _; unfold decS; rw [hkh]; rfl
        go_wp2
        go_roundw
        case rel => exact ⟨k + 1, by omega, by go_num, by rw [decTo_succ, HDC.out, HDS.out]; rfl, HBr.out⟩
        case measure => simp [intOf]; omega
      | false =>
        obtain ⟨R, hR⟩ : ∃ R, (askT (k : Int) t).1 = R := ⟨_, rfl⟩
        have hrule := askT_rule HTT.out (k : Int)
        rw [hR] at hrule
        have HDE : Hid (decS rs t known has true k = saysOk rs true R (k : Int)) := by show _ = _; unfold decS; rw [hkh, hR]; rfl
        have HR := Lib.hid hR
        clear hR
        go_wp2_with fail
        refine (RefAsk_any nn rs.length T f t (k : Int) wq (hT.below HWr.out (Nat.le_refl _)) HTT.out (by omega)).mono ?_
        rintro e w1 ⟨A1, c1', rfl, hC1, hB1⟩
        rw [HR.out]
        have HB1 : Hid (Below W.heap.size W w1) := below_in HBr.out hB1
        have HW1 : Hid (Below w.heap.size w w1) := below_in HB0.out HB1.out
        clear hC1 hB1 g0 g1
        have g0 := cell_chain HB1.out hl0 c0
        have g1 := cell_chain HB1.out hl0 c1
        have HAW := Lib.hid (HA0.out.below HB1.out (Nat.le_refl _))
        cases hR0 : decide (R < 0) with
        | true =>
          have hR0' : decide (0 ≤ R) = false := by have := of_decide_eq_true hR0; rw [decide_eq_false_iff_not]; omega
          have HSO : Hid (decS rs t known has true k = rulesGood true R (k : Int) 0 rs) := by show _ = _; rw [HDE.out, saysOk, hR0]; rfl
          clear hrule
          go_wp2
          go_loopw [49] (fun z wr => ∃ i : Nat, i ≤ rs.length ∧ z = .int .i64 i ∧ rulesGood true R (k : Int) 0 rs = rulesGood true R (k : Int) i (rs.drop i) ∧ Below w1.heap.size w1 wr) (fun z _ => rs.length - (intOf z).toNat)
          case atStart => exact ⟨0, Nat.zero_le _, rfl, by rw [List.drop_zero], Below.refl _ _⟩
          case round =>
            obtain ⟨i, hi, rfl, hgood, hB⟩ := hrel
            have HGD := Lib.hid hgood
            have HBi := Lib.hid hB
            have HBI : Hid (Below W.heap.size W wr) := below_in HB1.out HBi.out
            clear hgood hB
            by_cases hil : i < rs.length
            · obtain ⟨z, b7, o7, hz7, hb7, hix7, hc7⟩ := ints_at (c := c) (HAW.out.below HBi.out (Nat.le_refl _)) Try.underlying22 szInt hil
              have HDR : Hid (rs.drop i = z :: rs.drop (i + 1)) := drop_cons hz7
              clear hz7
              cases hwi : withinI z (k : Int) with
              | false =>
                have HBD : Hid (ruleBad true R (k : Int) i z = false) := by show _ = _; unfold ruleBad; rw [hwi]; rfl
                go_wp2_with (go_at_call 96; go_must (refine (within_any _ _ _).mono ?_); rintro e w4 ⟨rfl, rfl⟩; rw [hwi])
                go_roundw
                case rel => exact ⟨i + 1, by omega, by go_num, by rw [HGD.out, HDR.out, rulesGood, HBD.out]; rfl, HBi.out⟩
                case measure => simp [intOf]; omega
              | true =>
                have HBD : Hid (ruleBad true R (k : Int) i z = true) := by show _ = _; unfold ruleBad; rw [hwi, hR0]; rfl
                go_wp2_with (go_at_call 96; go_must (refine (within_any _ _ _).mono ?_); rintro e w4 ⟨rfl, rfl⟩; rw [hwi])
                have hds := HSO.out
                rw [HGD.out, HDR.out, rulesGood, HBD.out] at hds
                go_ret
                exact ⟨by rw [show decidesB N rs t known has true = false from decTo_no hds (by rw [hP.out]; exact hk)]; rfl, below_in HB0.out HBI.out⟩
            · obtain rfl : i = rs.length := by omega
              have HDS : Hid (decS rs t known has true k = true) := by show _ = _; rw [HSO.out, HGD.out, List.drop_length]; rfl
              go_wp2
              go_roundw
              case rel => exact ⟨k + 1, by omega, by go_num, by rw [decTo_succ, HDC.out, HDS.out]; rfl, HBI.out⟩
              case measure => simp [intOf]; omega
        | false =>
          have hR0' : decide (0 ≤ R) = true := by have := of_decide_eq_false hR0; rw [decide_eq_true_eq]; omega
          obtain ⟨r, hr⟩ := Int.eq_ofNat_of_zero_le (of_decide_eq_true hR0')
          have HRr := Lib.hid hr
          have hrl2 : r < rs.length := by omega
          obtain ⟨z, b6, o6, hz6, hb6, hix6, hc6⟩ := ints_at (c := c) HAW.out Try.underlying22 szInt hrl2
          rw [← hr] at hix6
          have hgz : rs.getD R.toNat 0 = z := by rw [HRr.out, Int.toNat_natCast]; simp [List.getD, hz6]
          have HGZ := Lib.hid hgz
          clear hr hz6 hgz hrule
          cases hwz : withinI z (k : Int) with
          | false =>
            have HDS : Hid (decS rs t known has true k = false) := by show _ = _; rw [HDE.out, saysOk, hR0, HGZ.out, hwz]; rfl
            go_wp2_with (go_at_call 96; go_must (refine (within_any _ _ _).mono ?_); rintro e w4 ⟨rfl, rfl⟩; rw [hwz])
            go_ret
            exact ⟨by rw [show decidesB N rs t known has true = false from decTo_no HDS.out (by rw [hP.out]; exact hk)]; rfl, HW1.out⟩
          | true =>
            have HSO : Hid (decS rs t known has true k = rulesGood true R (k : Int) 0 rs) := by show _ = _; rw [HDE.out, saysOk, hR0, HGZ.out, hwz]; rfl
            go_wp2_with (go_at_call 96; go_must (refine (within_any _ _ _).mono ?_); rintro e w4 ⟨rfl, rfl⟩; rw [hwz])
            clear hix6 hc6 hb6 hwz HGZ
            go_loopw [49] (fun z wr => ∃ i : Nat, i ≤ rs.length ∧ z = .int .i64 i ∧ rulesGood true R (k : Int) 0 rs = rulesGood true R (k : Int) i (rs.drop i) ∧ Below w1.heap.size w1 wr) (fun z _ => rs.length - (intOf z).toNat)
            case atStart => exact ⟨0, Nat.zero_le _, rfl, by rw [List.drop_zero], Below.refl _ _⟩
            case round =>
              obtain ⟨i, hi, rfl, hgood, hB⟩ := hrel
              have HGD := Lib.hid hgood
              have HBi := Lib.hid hB
              have HBI : Hid (Below W.heap.size W wr) := below_in HB1.out HBi.out
              clear hgood hB
              by_cases hil : i < rs.length
              · obtain ⟨z, b7, o7, hz7, hb7, hix7, hc7⟩ := ints_at (c := c) (HAW.out.below HBi.out (Nat.le_refl _)) Try.underlying22 szInt hil
                have HDR : Hid (rs.drop i = z :: rs.drop (i + 1)) := drop_cons hz7
                clear hz7
                cases hwi : withinI z (k : Int) with
                | false =>
                  have HBD : Hid (ruleBad true R (k : Int) i z = false) := by show _ = _; unfold ruleBad; rw [hwi]; rfl
                  go_wp2_with (go_at_call 96; go_must (refine (within_any _ _ _).mono ?_); rintro e w4 ⟨rfl, rfl⟩; rw [hwi])
                  go_roundw
                  case rel => exact ⟨i + 1, by omega, by go_num, by rw [HGD.out, HDR.out, rulesGood, HBD.out]; rfl, HBi.out⟩
                  case measure => simp [intOf]; omega
                | true =>
                  cases hir : decide ((i : Int) < R) with
                  | false =>
                    have HBD : Hid (ruleBad true R (k : Int) i z = false) := by show _ = _; unfold ruleBad; rw [hwi, hR0, hir]; rfl
                    go_wp2_with (go_at_call 96; go_must (refine (within_any _ _ _).mono ?_); rintro e w4 ⟨rfl, rfl⟩; rw [hwi])
                    go_roundw
                    case rel => exact ⟨i + 1, by omega, by go_num, by rw [HGD.out, HDR.out, rulesGood, HBD.out]; rfl, HBi.out⟩
                    case measure => simp [intOf]; omega
                  | true =>
                    have HBD : Hid (ruleBad true R (k : Int) i z = true) := by show _ = _; unfold ruleBad; rw [hwi, hR0, hir]; rfl
                    go_wp2_with (go_at_call 96; go_must (refine (within_any _ _ _).mono ?_); rintro e w4 ⟨rfl, rfl⟩; rw [hwi])
                    have hds := HSO.out
                    rw [HGD.out, HDR.out, rulesGood, HBD.out] at hds
                    go_ret
                    exact ⟨by rw [show decidesB N rs t known has true = false from decTo_no hds (by rw [hP.out]; exact hk)]; rfl, below_in HB0.out HBI.out⟩
              · obtain rfl : i = rs.length := by omega
                have HDS : Hid (decS rs t known has true k = true) := by show _ = _; rw [HSO.out, HGD.out, List.drop_length]; rfl
                go_wp2
                go_roundw
                case rel => exact ⟨k + 1, by omega, by go_num, by rw [decTo_succ, HDC.out, HDS.out]; rfl, HBI.out⟩
                case measure => simp [intOf]; omega
    · obtain rfl : k = P := by omega
      have HT : Hid (decidesB N rs t known has true = true) := by show _ = _; unfold decidesB; rw [hP.out]; exact HDC.out
      go_wp2
      go_ret
      exact ⟨by rw [HT.out]; rfl, HWr.out⟩
theorem decides_any (N : Nat) (A : Option Addr) (c : Nat) (rs : List Int) (T : Option Addr) (f : Nat) (t : List Nd) (known has : Int) (first : Bool) (w : World) (hA : Cells w A (ints rs)) (hT : Cells w T (nds t)) (hg : grpOk (N : Int) rs = true) (ht : treeB (N : Int) rs.length t = true) :
    Calls Try.prog 65 #[.agg #[.int .i64 (N : Int), .slice A rs.length c], .slice T t.length f, .int .i64 known, .int .i64 has, .bool first] w fun e w' => e = .returned (.bool (decidesB N rs t known has first)) ∧ Below w.heap.size w w' := by
  cases first with
  | false => exact decides_false N A c rs T f t known has w hA hT hg ht
  | true => exact decides_true N A c rs T f t known has w hA hT hg ht
end Go.Proofs.Ytlnonadkdonhmaa

/- Contract: Depth. -/
namespace Go.Proofs.Ytlnonadkdonhmaa
open Go.RowKit Go.Maps

def htA (t : List Nd) : Nat → Nat → Int
  | 0, _ => 0
  | f + 1, k => if (t.getD k ⟨-1, 0, 0, -1⟩).ch < 0 then 0 else 1 + max (htA t f (t.getD k ⟨-1, 0, 0, -1⟩).yes.toNat) (htA t f (t.getD k ⟨-1, 0, 0, -1⟩).no.toNat)
/-- The height of the tree at a node. -/
def htT (t : List Nd) (k : Nat) : Int := htA t (t.length - k) k
theorem htA_bd (t : List Nd) : ∀ f k, 0 ≤ htA t f k ∧ htA t f k ≤ f
  | 0, _ => by simp [htA]
  | f + 1, k => by
    have h := fun j => htA_bd t f j
    rw [htA]
    split
    · omega
    · have h1 := h (t.getD k ⟨-1, 0, 0, -1⟩).yes.toNat
      have h2 := h (t.getD k ⟨-1, 0, 0, -1⟩).no.toNat
      omega
theorem htA_more {n : Int} {R : Nat} {t : List Nd} (h : treeB n R t = true) : ∀ {f f' k : Nat}, k < t.length → t.length - k ≤ f → t.length - k ≤ f' → htA t f k = htA t f' k
  | 0, f', k, hk, h1, _ => by omega
  | _ + 1, 0, k, hk, _, h2 => by omega
  | f + 1, f' + 1, k, hk, h1, h2 => by
    have hx : t[k]? = some t[k] := List.getElem?_eq_getElem hk
    have e : t.getD k ⟨-1, 0, 0, -1⟩ = t[k] := by simp [List.getD, hx]
    rw [htA, htA, e]
    rcases tree_at h hx with hc | hc
    · rw [if_pos (by omega), if_pos (by omega)]
    · rw [if_neg (by omega), if_neg (by omega)]
      have ih := fun y : Int => fun (hy1 : (k : Int) < y) (hy2 : y < t.length) => htA_more h (f := f) (f' := f') (k := y.toNat) (by omega) (by omega) (by omega)
      rw [ih _ hc.2.2.1 hc.2.2.2.1, ih _ hc.2.2.2.2.1 hc.2.2.2.2.2]
theorem htT_leaf {t : List Nd} {k : Nat} {x : Nd} (hx : t[k]? = some x) (hc : x.ch < 0) : htT t k = 0 := by
  have hk := (List.getElem?_eq_some_iff.1 hx).1
  have e : t.getD k ⟨-1, 0, 0, -1⟩ = x := by simp [List.getD, hx]
  unfold htT
  rw [show t.length - k = (t.length - k - 1) + 1 by omega, htA, e, if_pos hc]
theorem htT_test {n : Int} {R : Nat} {t : List Nd} {k y z : Nat} {x : Nd} (h : treeB n R t = true) (hx : t[k]? = some x) (hc : 0 ≤ x.ch) (hy : x.yes = (y : Int)) (hz : x.no = (z : Int)) : htT t k = 1 + max (htT t y) (htT t z) := by
  have hk := (List.getElem?_eq_some_iff.1 hx).1
  have e : t.getD k ⟨-1, 0, 0, -1⟩ = x := by simp [List.getD, hx]
  have hta := (tree_at h hx).resolve_left (by omega)
  unfold htT
  rw [show t.length - k = (t.length - k - 1) + 1 by omega, htA, e, if_neg (by omega), hy, hz, Int.toNat_natCast, Int.toNat_natCast]
  rw [htA_more h (f := t.length - k - 1) (f' := t.length - y) (by omega) (by omega) (by omega), htA_more h (f := t.length - k - 1) (f' := t.length - z) (by omega) (by omega) (by omega)]
/-- The heights from a node on. -/
def hts (t : List Nd) (j : Nat) : List Int := List.replicate j 0 ++ (List.range (t.length - j)).map fun i : Nat => htT t (j + i)
theorem hts_all (t : List Nd) : hts t t.length = List.replicate t.length 0 := by simp [hts]
theorem hts_get {t : List Nd} {j i : Nat} (h : j ≤ i) (hi : i < t.length) : (hts t j)[i]? = some (htT t i) := by
  unfold hts
  rw [List.getElem?_append_right (by simp; exact h), List.length_replicate, List.getElem?_map, List.getElem?_range (by omega)]
  simp only [Option.map_some]
  rw [show j + (i - j) = i by omega]
theorem hts_low {t : List Nd} {j : Nat} : (hts t (j + 1))[j]? = some 0 := by
  unfold hts
  rw [List.getElem?_append_left (by simp)]
  simp
theorem hts_step {t : List Nd} {j : Nat} (h : j < t.length) : (hts t (j + 1)).set j (htT t j) = hts t j := by
  unfold hts
  rw [show t.length - j = (t.length - (j + 1)) + 1 by omega, List.range_succ_eq_map, List.map_cons, List.map_map]
  rw [List.replicate_succ', List.append_assoc]
  rw [List.set_append_right _ _ (by simp), List.length_replicate, Nat.sub_self]
  simp only [List.singleton_append, List.set_cons_zero, Nat.add_zero]
  congr 2
  apply List.map_congr_left
  intro i _
  show htT t (j + 1 + i) = htT t (j + (i + 1))
  rw [show j + 1 + i = j + (i + 1) by omega]
theorem hts_leaf {t : List Nd} {j : Nat} (h : j < t.length) (h0 : htT t j = 0) : hts t (j + 1) = hts t j := by
  rw [← hts_step h, h0]
  have e := hts_low (t := t) (j := j)
  have hl := (List.getElem?_eq_some_iff.1 e).1
  have e2 := (List.getElem?_eq_some_iff.1 e).2
  apply List.ext_getElem (by simp)
  intro i h1 h2
  rw [List.getElem_set]
  split
  · rename_i hij
    subst hij
    exact e2
  · rfl

set_option maxRecDepth 100000 in
set_option maxHeartbeats 16000000 in
theorem Depth_any (n : Int) (R : Nat) (T : Option Addr) (f : Nat) (t : List Nd) (w : World) (hT : Cells w T (nds t)) (ht : treeB n R t = true) :
    Calls Try.prog 64 #[.slice T t.length f] w fun e w' => e = .returned (.int .i64 (htT t 0)) ∧ Below w.heap.size w w' := by
  have hlen := tree_pos ht
  have HTT := Lib.hid ht
  obtain ⟨i0, hi, hz0, hz1, hz2⟩ := info_parts info3
  clear ht
  go_enter Try.func64, Try.ntmps64
  go_wp2_with (at_make; go_must (refine wpList_make_full _ rfl _ _ 22 rfl w.heap.size 3 i0 (.int .i64 0) 1 Try.underlying22 hi hz0 hz1 .i64 .i64 t.length t.length t.length rfl rfl rfl rfl (by rw [hz2]; omega) (by unfold maxLen; omega) (Nat.le_refl _) ?_); intro w1 ho1 hg1)
  rw [made_ints] at ho1
  have HB1 := Lib.hid (own_full ho1)
  have hs1 := hg1.size
  have HB01 : Hid (Below w.heap.size w w1) := (Below.refl _ w).grown hg1 (Nat.le_refl _) (fun k e => by cases e)
  obtain ⟨bF, hbF⟩ : ∃ bF, w.heap.size = bF := ⟨_, rfl⟩
  have HBF : Hid (w.heap.size ≤ bF) := by show _ ≤ _; omega
  rw [hbF] at HB1 ⊢
  clear ho1 hg1 hi hz0 hz1 hz2 hbF
  go_wp2
  go_loopw [4] (fun i wr => ∃ j : Nat, j ≤ t.length ∧ i = .int .i64 ((j : Int) - 1) ∧ Blk wr bF (.cells (ints (hts t j)).toArray 3) ∧ Frame (fun b => b = bF) w1 wr) (fun i _ => (intOf i + 1).toNat)
  case atStart => exact ⟨t.length, Nat.le_refl _, rfl, by rw [hts_all]; exact HB1.out, Frame.refl _ _⟩
  case round =>
    obtain ⟨j, hj, hij, hrow, hF⟩ := hrel
    have HROW := Lib.hid hrow
    have HFr := Lib.hid hF
    have HWr : Hid (Below w.heap.size w wr) := HB01.out.trans (hF.below (B := w.heap.size) (fun b e => by have := HBF.out; omega) HB01.out.size)
    clear hrow hF
    by_cases h0 : j = 0
    · subst h0
      have hij' : u4 = .int .i64 (-1) := by rw [hij]; rfl
      subst hij'
      clear hij
      have hix := ix_own (b := bF) (n := t.length) (c := t.length) (k := 0) Try.underlying22 szInt (by omega)
      have hix' : ∀ w', (Instr.indexAt 22 (.slice (some ⟨bF, 0, none⟩) t.length t.length) (.int .i64 0)).run Try.prog w' = .ok (.pointer (some ⟨bF, 0, none⟩)) w' := hix
      have q0 := HROW.out.cell 0 (ints_get (hts_get (t := t) (Nat.le_refl 0) (by omega)))
      have q1 := HROW.out.lt
      clear hix
      go_wp2
      go_ret
      exact ⟨rfl, HWr.out⟩
    · obtain ⟨k, rfl⟩ : ∃ k, j = k + 1 := ⟨j - 1, by omega⟩
      have hij' : u4 = .int .i64 (k : Int) := by rw [hij]; congr 1; push_cast; omega
      subst hij'
      clear hij h0
      obtain ⟨x, b5, o5, hx, hb5, hix, hcell⟩ := flat_at (c := f) (hT.below HWr.out (Nat.le_refl _)) ndCells_len Try.underlying79 rNd.size_eq (by decide) (show k < t.length by omega)
      have htx := tree_at HTT.out hx
      have HX := Lib.hid hx
      obtain ⟨ch, yes, no, rule⟩ := x
      simp only at htx
      have d0 := hcell 0 (.int .i64 ch) rfl
      have d1 := hcell 1 (.int .i64 yes) rfl
      have d2 := hcell 2 (.int .i64 no) rfl
      rw [Nat.add_zero] at d0
      clear hx hcell
      rcases htx with htx | htx
      · have q0 : decide (0 ≤ ch) = false := by rw [htx.1]; rfl
        have hl0 : htT t k = 0 := htT_leaf HX.out (by show ch < 0; have := htx.1; omega)
        have HL : Hid (hts t (k + 1) = hts t k) := hts_leaf (by omega) hl0
        clear htx hl0
        go_wp2
        go_roundw
        case rel => exact ⟨k, by omega, rfl, by rw [← HL.out]; exact HROW.out, HFr.out⟩
        case measure => first | (simp [intOf]; done) | (simp [intOf]; omega)
      · have q0 : decide (0 ≤ ch) = true := by simpa using htx.1
        obtain ⟨y, rfl⟩ := Int.eq_ofNat_of_zero_le (a := yes) (by omega)
        obtain ⟨z, rfl⟩ := Int.eq_ofNat_of_zero_le (a := no) (by omega)
        have HTE : Hid (htT t k = 1 + max (htT t y) (htT t z)) := htT_test HTT.out HX.out htx.1 rfl rfl
        have hy2 : y < t.length := by omega
        have hz2 : z < t.length := by omega
        have hy1 : k + 1 ≤ y := by omega
        have hz1 : k + 1 ≤ z := by omega
        have hk2 : k < t.length := by omega
        have iy := ix_own (b := bF) (n := t.length) (c := t.length) (k := y) Try.underlying22 szInt hy2
        have iz := ix_own (b := bF) (n := t.length) (c := t.length) (k := z) Try.underlying22 szInt hz2
        have ik := ix_own (b := bF) (n := t.length) (c := t.length) (k := k) Try.underlying22 szInt hk2
        have ay := HROW.out.cell y (ints_get (hts_get hy1 hy2))
        have az := HROW.out.cell z (ints_get (hts_get hz1 hz2))
        have ak := HROW.out.cell k (ints_get hts_low)
        have fk := HROW.out.free k
        have q1 := HROW.out.lt
        have bdy := htA_bd t (t.length - y) y
        have bdz := htA_bd t (t.length - z) z
        have bdy1 : 0 ≤ htT t y ∧ htT t y ≤ 127 := by unfold htT; omega
        have bdz1 : 0 ≤ htT t z ∧ htT t z ≤ 127 := by unfold htT; omega
        obtain ⟨hy, HY⟩ : ∃ v, Hid (htT t y = v) := ⟨htT t y, rfl⟩
        obtain ⟨hz, HZ⟩ : ∃ v, Hid (htT t z = v) := ⟨htT t z, rfl⟩
        rw [HY.out] at ay bdy1 HTE
        rw [HZ.out] at az bdz1 HTE
        obtain ⟨v, hv⟩ : ∃ v, max hy hz = v := ⟨max hy hz, rfl⟩
        have hvb : 0 ≤ v ∧ v ≤ 127 := by omega
        rw [hv] at HTE
        clear htx bdy bdz
        go_wp2
        refine stail 20 (by kernel_rfl) (by kernel_rfl) (fun Kq hKq => ?_)
        simp only [List.take_succ_cons, List.take_zero, List.drop_succ_cons, List.drop_zero] at hKq ⊢
        repeat still_step
        refine wpStill_nil (hKq _ ?_)
        clear hKq Kq
        go_wp2
        go_roundw
        case rel =>
          refine ⟨k, by omega, rfl, ?_, HFr.out.drew.setCell (p := ⟨bF, k, none⟩) (.inl rfl) _⟩
          have hmx : htT t k = 1 + (if hy < hz then hz else hy) := by
            rw [HTE.out, ← hv]
            split <;> omega
          have e := (HROW.out.set k (.int .i64 (1 + (if hy < hz then hz else hy)))).drew
          rw [← hmx, ints_set, hts_step hk2] at e
          rw [hmx] at e
          exact e
        case measure => first | (simp [intOf]; done) | (simp [intOf]; omega)
end Go.Proofs.Ytlnonadkdonhmaa

/- The plain law of trees: what a plan says; the tree that is grown is formable and as high as its plan. -/
namespace Go.Proofs.Ytlnonadkdonhmaa
open Go.RowKit Go.Maps

def bothD (rec : Int → Int → Pl) (k h : Int) (c : Nat) : Int := 1 + max (rec (fullI k c) (fullI h c)).depth (rec (fullI k c) h).depth
theorem planTo_is {rec : Int → Int → Pl} {k h : Int} : ∀ n : Nat, (∀ c : Nat, c < n → inI k c = false → bothD rec k h c < 7) →
    ((∀ c : Nat, c < n → inI k c = true) ∧ planTo rec k h n = ⟨7, 0, 0⟩) ∨ (∃ c : Nat, c < n ∧ inI k c = false ∧ (planTo rec k h n).chan = c ∧ (planTo rec k h n).depth = bothD rec k h c ∧ ∀ d : Nat, d < n → inI k d = false → (planTo rec k h n).depth ≤ bothD rec k h d)
  | 0, _ => .inl ⟨fun c hc => absurd hc (Nat.not_lt_zero _), rfl⟩
  | n + 1, H => by
    have ih := planTo_is n fun c hc hi => H c (by omega) hi
    cases hi : inI k n with
    | true =>
      have e : planTo rec k h (n + 1) = planTo rec k h n := by simp only [planTo, hi, if_true]
      rw [e]
      rcases ih with ⟨h1, h2⟩ | ⟨c, h1, h2, h3, h4, h5⟩
      · refine .inl ⟨fun c hc => ?_, h2⟩
        rcases Nat.lt_or_ge c n with h | h
        · exact h1 c h
        · obtain rfl : c = n := by omega
          exact hi
      · refine .inr ⟨c, by omega, h2, h3, h4, fun d hd hdi => ?_⟩
        rcases Nat.lt_or_ge d n with h | h
        · exact h5 d h hdi
        · obtain rfl : d = n := by omega
          rw [hi] at hdi
          cases hdi
    | false =>
      have hm := H n (by omega) hi
      have e : planTo rec k h (n + 1) = if bothD rec k h n < (planTo rec k h n).depth then ⟨bothD rec k h n, n, 0⟩ else planTo rec k h n := by simp only [planTo, hi, bothD]; rfl
      rw [e]
      rcases ih with ⟨h1, h2⟩ | ⟨c, h1, h2, h3, h4, h5⟩
      · rw [h2, if_pos (by simp only; omega)]
        refine .inr ⟨n, by omega, hi, rfl, rfl, fun d hd hdi => ?_⟩
        rcases Nat.lt_or_ge d n with h | h
        · rw [h1 d h] at hdi
          cases hdi
        · obtain rfl : d = n := by omega
          exact Int.le_refl _
      · by_cases hlt : bothD rec k h n < (planTo rec k h n).depth
        · rw [if_pos hlt]
          refine .inr ⟨n, by omega, hi, rfl, rfl, fun d hd hdi => ?_⟩
          rcases Nat.lt_or_ge d n with h | h
          · have := h5 d h hdi
            simp only
            omega
          · obtain rfl : d = n := by omega
            exact Int.le_refl _
        · rw [if_neg hlt]
          refine .inr ⟨c, by omega, h2, h3, h4, fun d hd hdi => ?_⟩
          rcases Nat.lt_or_ge d n with h | h
          · exact h5 d h hdi
          · obtain rfl : d = n := by omega
            omega
section
variable {rs : List Int} {n : Nat} {first : Bool}
/-- A plan: a leaf of depth 0, or the test of the channel with the least depth. -/
theorem plan_split (hn : n ≤ 6) (hr : rulesB n rs) {k h : Int} (hk : isB k) (hh : isB h) :
    ((planA rs n first k h).chan < 0 ∧ (planA rs n first k h).depth = 0 ∧ leafA rs first k h = ((planA rs n first k h).rule, true)) ∨
    (∃ c : Nat, c < n ∧ inI k c = false ∧ (leafA rs first k h).2 = false ∧ (planA rs n first k h).chan = c ∧ (planA rs n first k h).depth = bothD (planA rs n first) k h c ∧ ∀ d : Nat, d < n → inI k d = false → (planA rs n first k h).depth ≤ bothD (planA rs n first) k h d) := by
  cases hl : leafA rs first k h with
  | mk r b =>
    cases b with
    | true =>
      rw [planA_leaf hl]
      exact .inl ⟨by show (-1 : Int) < 0; decide, rfl, rfl⟩
    | false =>
      obtain ⟨c0, hc0, hi0⟩ := leaf_open hn hk hr (by rw [hl])
      have hp := planTo_is (rec := planA rs n first) (k := k) (h := h) n (fun c hc hi => by
        have hu := unk_full hn hk hc hi
        have hul := unk_le n k
        have a1 := planA_depth hn (first := first) hr n (fullI k c) (fullI h c) (by omega) (full_isB hk (by omega) (by omega)) (full_isB hh (by omega) (by omega))
        have a2 := planA_depth hn (first := first) hr n (fullI k c) h (by omega) (full_isB hk (by omega) (by omega)) hh
        unfold bothD
        omega)
      rw [← planA_test hn hk hl] at hp
      rcases hp with ⟨h1, _⟩ | ⟨c, h1, h2, h3, h4, h5⟩
      · rw [h1 c0 hc0] at hi0; cases hi0
      · exact .inr ⟨c, h1, h2, rfl, h3, h4, h5⟩
/-- A list lies in a tree from a place on. -/
def LiesAt (t : List Nd) (a : Nat) (xs : List Nd) : Prop := ∀ (i : Nat) (x : Nd), xs[i]? = some x → t[a + i]? = some x
theorem LiesAt.end_ {t xs : List Nd} {a : Nat} (h : LiesAt t a xs) (h0 : 0 < xs.length) : a + xs.length ≤ t.length := by
  have := h (xs.length - 1) xs[xs.length - 1] (List.getElem?_eq_getElem (by omega))
  have := (List.getElem?_eq_some_iff.1 this).1
  omega
theorem LiesAt.cons {t xs : List Nd} {a : Nat} {x : Nd} (h : LiesAt t a (x :: xs)) : t[a]? = some x ∧ LiesAt t (a + 1) xs :=
  ⟨h 0 x rfl, fun i y hy => by rw [show a + 1 + i = a + (i + 1) by omega]; exact h (i + 1) y (by simpa using hy)⟩
theorem LiesAt.app {t xs ys : List Nd} {a : Nat} (h : LiesAt t a (xs ++ ys)) : LiesAt t a xs ∧ LiesAt t (a + xs.length) ys :=
  ⟨fun i y hy => h i y (by rw [List.getElem?_append_left (List.getElem?_eq_some_iff.1 hy).1]; exact hy),
   fun i y hy => by rw [show a + xs.length + i = a + (xs.length + i) by omega]; exact h (xs.length + i) y (by rw [List.getElem?_append_right (by omega), Nat.add_sub_cancel_left]; exact hy)⟩
theorem growA_pos (hn : n ≤ 6) (hr : rulesB n rs) {k h : Int} (hk : isB k) (hh : isB h) (a : Nat) : 0 < (growA rs n first k h a).length := by
  rcases plan_split (first := first) hn hr hk hh with ⟨h1, _⟩ | ⟨c, h1, h2, _, h3, _⟩
  · rw [growA_leaf h1]; simp
  · rw [growA_test hn hk h1 h2 h3]; simp
theorem leafA_rule {k h : Int} : -1 ≤ (leafA rs first k h).1 ∧ (leafA rs first k h).1 < (rs.length : Int) := by
  have h1 := leafGo_rule (first := first) (known := k) (has := h) rs 0 true
  unfold leafA
  by_cases he : rs = []
  · subst he
    simp [leafGo]
  · rw [if_neg he] at h1
    omega
/-- The nodes that are grown are as a tree's must be. -/
theorem grow_nodes (hn : n ≤ 6) (hr : rulesB n rs) {t : List Nd} : ∀ (f : Nat) (k h : Int) (a : Nat), unk n k < f → isB k → isB h → LiesAt t a (growA rs n first k h a) →
    ∀ (i : Nat) (x : Nd), (growA rs n first k h a)[i]? = some x → ndOk (n : Int) rs.length t.length (a + i) x = true
  | 0, _, _, _, hu, _, _, _, _, _, _ => by omega
  | f + 1, k, h, a, hu, hk, hh, hL, i, x, hx => by
    rcases plan_split (first := first) hn hr hk hh with ⟨h1, _, h3⟩ | ⟨c, h1, h2, _, h3, _⟩
    · rw [growA_leaf h1] at hx
      cases i with
      | succ i => simp at hx
      | zero =>
        simp at hx
        subst hx
        have := leafA_rule (rs := rs) (first := first) (k := k) (h := h)
        rw [h3] at this
        exact (ndOk_leaf rfl).2 ⟨rfl, rfl, this.1, this.2⟩
    · have hu1 := unk_full hn hk h1 h2
      have hk1 := full_isB hk (c := (c : Int)) (by omega) (by omega)
      have hh1 := full_isB hh (c := (c : Int)) (by omega) (by omega)
      rw [growA_test hn hk h1 h2 h3] at hx hL
      have hp1 := growA_pos (first := first) hn hr hk1 hh1 (a + 1)
      obtain ⟨_, hL1⟩ := hL.cons
      obtain ⟨hLy, hLn⟩ := hL1.app
      have hp2 := growA_pos (first := first) hn hr hk1 hh (a + 1 + (growA rs n first (fullI k c) (fullI h c) (a + 1)).length)
      have hend := hLn.end_ hp2
      cases i with
      | zero =>
        simp at hx
        subst hx
        exact (ndOk_test (by omega)).2 ⟨by omega, by omega, rfl, by push_cast; omega, by push_cast; omega, by push_cast; omega, by push_cast; omega⟩
      | succ i =>
        have hx' : (growA rs n first (fullI k c) (fullI h c) (a + 1) ++ growA rs n first (fullI k c) h (a + 1 + (growA rs n first (fullI k c) (fullI h c) (a + 1)).length))[i]? = some x := by simpa using hx
        by_cases hi : i < (growA rs n first (fullI k c) (fullI h c) (a + 1)).length
        · rw [List.getElem?_append_left hi] at hx'
          have := grow_nodes hn hr f _ _ _ (by omega) hk1 hh1 hLy i x hx'
          rw [show a + (i + 1) = a + 1 + i by omega]
          exact this
        · rw [List.getElem?_append_right (by omega)] at hx'
          have := grow_nodes hn hr f _ _ _ (by omega) hk1 hh hLn _ x hx'
          rw [show a + (i + 1) = a + 1 + (growA rs n first (fullI k c) (fullI h c) (a + 1)).length + (i - (growA rs n first (fullI k c) (fullI h c) (a + 1)).length) by omega]
          exact this
theorem nodesB_of {m : Int} {R L : Nat} : ∀ (xs : List Nd) (i : Nat), (∀ (j : Nat) (x : Nd), xs[j]? = some x → ndOk m R L (i + j) x = true) → nodesB m R L i xs = true
  | [], _, _ => rfl
  | x :: t, i, h => by
    rw [nodesB, Bool.and_eq_true]
    exact ⟨h 0 x rfl, nodesB_of t (i + 1) fun j y hy => by rw [show i + 1 + j = i + (j + 1) by omega]; exact h (j + 1) y (by simpa using hy)⟩
theorem grow_tree (hn : n ≤ 6) (hr : rulesB n rs) {k h : Int} (hk : isB k) (hh : isB h) : treeB (n : Int) rs.length (growA rs n first k h 0) = true := by
  have hp := growA_pos (first := first) hn hr hk hh 0
  have hl := growL_len (rs := rs) (n := n) (first := first) (unk n k + 1) k h 0
  have hul := unk_le n k
  have h7 : 2 ^ (unk n k + 1) ≤ 2 ^ 7 := Nat.pow_le_pow_right (by decide) (by omega)
  have hle : (growA rs n first k h 0).length ≤ 127 := by unfold growA; omega
  unfold treeB
  simp only [Bool.and_eq_true, decide_eq_true_eq]
  refine ⟨⟨nodesB_of _ 0 fun j x hx => grow_nodes hn hr (unk n k + 1) k h 0 (by omega) hk hh (fun i y hy => by rw [Nat.zero_add]; exact hy) j x hx, by omega⟩, hle⟩
/-- The tree is as high as the plan says. -/
theorem grow_high (hn : n ≤ 6) (hr : rulesB n rs) {t : List Nd} (ht : treeB (n : Int) rs.length t = true) : ∀ (f : Nat) (k h : Int) (a : Nat), unk n k < f → isB k → isB h → LiesAt t a (growA rs n first k h a) →
    htT t a = (planA rs n first k h).depth
  | 0, _, _, _, hu, _, _, _ => by omega
  | f + 1, k, h, a, hu, hk, hh, hL => by
    rcases plan_split (first := first) hn hr hk hh with ⟨h1, h3, _⟩ | ⟨c, h1, h2, _, h3, h4, _⟩
    · rw [growA_leaf h1] at hL
      rw [htT_leaf (hL.cons).1 (by show (-1 : Int) < 0; decide), h3]
    · have hu1 := unk_full hn hk h1 h2
      have hk1 := full_isB hk (c := (c : Int)) (by omega) (by omega)
      have hh1 := full_isB hh (c := (c : Int)) (by omega) (by omega)
      rw [growA_test hn hk h1 h2 h3] at hL
      obtain ⟨hx, hL1⟩ := hL.cons
      obtain ⟨hLy, hLn⟩ := hL1.app
      rw [htT_test ht hx (by simp only; omega) (y := a + 1) (z := a + 1 + (growA rs n first (fullI k c) (fullI h c) (a + 1)).length) (by push_cast; rfl) (by push_cast; rfl)]
      rw [grow_high hn hr ht f _ _ _ (by omega) hk1 hh1 hLy, grow_high hn hr ht f _ _ _ (by omega) hk1 hh hLn, h4]
      rfl
end
end Go.Proofs.Ytlnonadkdonhmaa

/- The plain law of trees: what the grown tree answers. -/
namespace Go.Proofs.Ytlnonadkdonhmaa
open Go.RowKit Go.Maps

theorem in_and_all : ((List.range 64).all fun x => (List.range 64).all fun y => (List.range 6).all fun c => inI (bits BinOp.and .i64 (x : Int) (y : Int)) (c : Int) == (inI (x : Int) (c : Int) && inI (y : Int) (c : Int))) = true := by kernel_rfl
theorem in_and {x y : Int} {c : Nat} (hx : isB x) (hy : isB y) (hc : c < 6) : inI (bits BinOp.and .i64 x y) c = (inI x c && inI y c) := by
  obtain ⟨x, rfl, hx'⟩ := nat_of hx
  obtain ⟨y, rfl, hy'⟩ := nat_of hy
  have h1 := List.all_eq_true.1 in_and_all x (List.mem_range.2 hx')
  have h2 := List.all_eq_true.1 h1 y (List.mem_range.2 hy')
  have h3 := List.all_eq_true.1 h2 c (List.mem_range.2 hc)
  exact beq_iff_eq.1 h3
theorem and_isB_all : ((List.range 64).all fun x => (List.range 64).all fun y => decide (0 ≤ bits BinOp.and .i64 (x : Int) (y : Int)) && decide (bits BinOp.and .i64 (x : Int) (y : Int) < 64)) = true := by kernel_rfl
theorem and_isB {x y : Int} (hx : isB x) (hy : isB y) : isB (bits BinOp.and .i64 x y) := by
  obtain ⟨x, rfl, hx'⟩ := nat_of hx
  obtain ⟨y, rfl, hy'⟩ := nat_of hy
  have h1 := List.all_eq_true.1 and_isB_all x (List.mem_range.2 hx')
  have h2 := List.all_eq_true.1 h1 y (List.mem_range.2 hy')
  simp only [Bool.and_eq_true, decide_eq_true_eq] at h2
  unfold isB
  omega
/-- A set agrees with what is known. -/
def Fits (k h s : Int) : Prop := ∀ c : Nat, c < 6 → (inI h c = true ↔ inI s c = true ∧ inI k c = true)
theorem fits_of {k h s : Int} (hk : isB k) (hs : isB s) (h1 : bits BinOp.and .i64 s k = h) : Fits k h s := by
  intro c hc
  rw [← h1, in_and hs hk hc, Bool.and_eq_true]
theorem Fits.yes {k h s : Int} (hF : Fits k h s) (hk : isB k) (hh : isB h) {d : Nat} (hd : d < 6) (hi : inI s d = true) : Fits (fullI k d) (fullI h d) s := by
  intro c hc
  have := hF c hc
  rw [in_full hh hd hc, in_full hk hd hc, Bool.or_eq_true, Bool.or_eq_true, decide_eq_true_eq]
  constructor
  · rintro (h | h)
    · exact ⟨(this.1 h).1, .inl (this.1 h).2⟩
    · subst h; exact ⟨hi, .inr rfl⟩
  · rintro ⟨h1, h2 | h2⟩
    · exact .inl (this.2 ⟨h1, h2⟩)
    · exact .inr h2
theorem Fits.no {k h s : Int} (hF : Fits k h s) (hk : isB k) {d : Nat} (hd : d < 6) (hi : inI s d = false) : Fits (fullI k d) h s := by
  intro c hc
  have := hF c hc
  rw [in_full hk hd hc, Bool.or_eq_true, decide_eq_true_eq]
  constructor
  · intro h; exact ⟨(this.1 h).1, .inl (this.1 h).2⟩
  · rintro ⟨h1, h2 | h2⟩
    · exact this.2 ⟨h1, h2⟩
    · subst h2; rw [hi] at h1; cases h1
theorem gone_not {r k h s : Int} (hF : Fits k h s) (hr : isB r) (hk : isB k) (hh : isB h) (hs : isB s) (hg : goneI r k h = true) : withinI r s = false := by
  rw [Bool.eq_false_iff]
  intro hw
  have h1 := (within_iff hr hs).1 hw
  have h2 : withinI (bits BinOp.and .i64 r k) h = true := by
    rw [within_iff (and_isB hr hk) hh]
    intro c hc hi
    rw [in_and hr hk hc, Bool.and_eq_true] at hi
    exact (hF c hc).2 ⟨h1 c hc hi.1, hi.2⟩
  unfold goneI at hg
  unfold withinI at h2
  rw [bne, h2] at hg
  cases hg
theorem within_up {r k h s : Int} (hF : Fits k h s) (hr : isB r) (hh : isB h) (hs : isB s) (hw : withinI r h = true) : withinI r s = true := by
  rw [within_iff hr hs]
  intro c hc hi
  exact ((hF c hc).1 ((within_iff hr hh).1 hw c hc hi)).1
theorem leafGo_spec {first : Bool} {k h r : Int} : ∀ (rs : List Int) (i : Nat) (out : Bool), leafGo first k h rs i out = (r, true) →
    (r = -1 ∧ out = true ∧ ∀ x ∈ rs, goneI x k h = true) ∨ ∃ (j : Nat) (x : Int), rs[j]? = some x ∧ r = ((i + j : Nat) : Int) ∧ withinI x h = true ∧ (first = true → ∀ (j' : Nat) (x' : Int), j' < j → rs[j']? = some x' → goneI x' k h = true)
  | [], i, out, e => by
    simp only [leafGo, Prod.mk.injEq] at e
    exact .inl ⟨e.1.symm, e.2, fun x hx => by cases hx⟩
  | y :: rs, i, out, e => by
    rw [leafGo] at e
    by_cases hw : withinI y h = true
    · rw [if_pos hw] at e
      simp only [Prod.mk.injEq] at e
      exact .inr ⟨0, y, rfl, e.1.symm, hw, fun _ j' x' hj => by omega⟩
    · rw [if_neg hw] at e
      by_cases hg : goneI y k h = true
      · rw [if_pos hg] at e
        rcases leafGo_spec rs (i + 1) out e with ⟨h1, h2, h3⟩ | ⟨j, x, h1, h2, h3, h4⟩
        · exact .inl ⟨h1, h2, fun x hx => by
            rcases List.mem_cons.1 hx with rfl | hx
            · exact hg
            · exact h3 x hx⟩
        · refine .inr ⟨j + 1, x, by simpa using h1, by rw [h2]; congr 1; omega, h3, fun hf j' x' hj hx' => ?_⟩
          cases j' with
          | zero => simp at hx'; subst hx'; exact hg
          | succ j' => exact h4 hf j' x' (by omega) (by simpa using hx')
      · rw [if_neg hg] at e
        cases first with
        | true => simp at e
        | false =>
          simp only [Bool.false_eq_true, if_false] at e
          rcases leafGo_spec rs (i + 1) false e with ⟨_, h2, _⟩ | ⟨j, x, h1, h2, h3, h4⟩
          · cases h2
          · exact .inr ⟨j + 1, x, by simpa using h1, by rw [h2]; congr 1; omega, h3, fun hf => by cases hf⟩
theorem rulesGood_of {first : Bool} {r s : Int} : ∀ (rs : List Int) (i : Nat), (∀ (j : Nat) (x : Int), rs[j]? = some x → ruleBad first r s (i + j) x = false) → rulesGood first r s i rs = true
  | [], _, _ => rfl
  | x :: t, i, h => by
    have h0 := h 0 x rfl
    rw [Nat.add_zero] at h0
    rw [rulesGood, h0, rulesGood_of t (i + 1) fun j y hy => by rw [show i + 1 + j = i + (j + 1) by omega]; exact h (j + 1) y (by simpa using hy)]
    rfl
theorem leaf_says {rs : List Int} {first : Bool} {k h s r : Int} (hb : bAll rs) (hk : isB k) (hh : isB h) (hs : isB s) (hF : Fits k h s) (hl : leafA rs first k h = (r, true)) : saysOk rs first r s = true := by
  unfold leafA at hl
  unfold saysOk
  rw [Bool.and_eq_true]
  rcases leafGo_spec rs 0 true hl with ⟨h1, _, h3⟩ | ⟨j, x, h1, h2, h3, h4⟩
  · refine ⟨by rw [h1]; rfl, rulesGood_of rs 0 fun j y hy => ?_⟩
    have hm := List.mem_of_getElem? hy
    unfold ruleBad
    rw [gone_not hF (hb y hm) hk hh hs (h3 y hm)]
    rfl
  · rw [Nat.zero_add] at h2
    have hm := List.mem_of_getElem? h1
    refine ⟨?_, rulesGood_of rs 0 fun i y hy => ?_⟩
    · rw [h2, Int.toNat_natCast]
      rw [show rs.getD j 0 = x by simp [List.getD, h1], within_up hF (hb x hm) hh hs h3, Bool.or_true]
    · have hm2 := List.mem_of_getElem? hy
      unfold ruleBad
      rw [h2, Nat.zero_add]
      have h0 : decide ((j : Int) < 0) = false := by rw [decide_eq_false_iff_not]; omega
      rw [h0]
      cases first with
      | false => simp
      | true =>
        by_cases hij : i < j
        · rw [gone_not hF (hb y hm2) hk hh hs (h4 rfl i y hij hy)]
          rfl
        · rw [decide_eq_false (show ¬ ((i : Int) < (j : Int)) by omega)]
          simp
/-- The tests on a way: each of a channel that is not known yet. -/
def pathB (n : Nat) : Int → List Int → Bool
  | _, [] => true
  | k, c :: p => decide (0 ≤ c) && decide (c < (n : Int)) && !(inI k c) && pathB n (fullI k c) p
section
variable {rs : List Int} {n : Nat} {first : Bool}
theorem grow_ask (hn : n ≤ 6) (hr : rulesB n rs) (hb : bAll rs) {t : List Nd} (ht : treeB (n : Int) rs.length t = true) {s : Int} (hs : isB s) : ∀ (f : Nat) (k h : Int) (a : Nat), unk n k < f → isB k → isB h → LiesAt t a (growA rs n first k h a) →
    (Fits k h s → saysOk rs first (askA s t (t.length - a) a).1 s = true) ∧ ((askA s t (t.length - a) a).2.length : Int) ≤ (planA rs n first k h).depth ∧ pathB n k (askA s t (t.length - a) a).2 = true
  | 0, _, _, _, hu, _, _, _ => by omega
  | f + 1, k, h, a, hu, hk, hh, hL => by
    rcases plan_split (first := first) hn hr hk hh with ⟨h1, h3, h4⟩ | ⟨c, h1, h2, _, h3, h4, _⟩
    · rw [growA_leaf h1] at hL
      rw [askA_leaf (hL.cons).1 (by show (-1 : Int) < 0; decide)]
      exact ⟨fun hF => leaf_says hb hk hh hs hF h4, by simp [h3], rfl⟩
    · have hu1 := unk_full hn hk h1 h2
      have hk1 := full_isB hk (c := (c : Int)) (by omega) (by omega)
      have hh1 := full_isB hh (c := (c : Int)) (by omega) (by omega)
      rw [growA_test hn hk h1 h2 h3] at hL
      obtain ⟨hx, hL1⟩ := hL.cons
      obtain ⟨hLy, hLn⟩ := hL1.app
      have hal := (List.getElem?_eq_some_iff.1 hx).1
      have hend := hLn.end_ (growA_pos hn hr hk1 hh _)
      have hp1 := growA_pos (first := first) hn hr hk1 hh1 (a + 1)
      have hp2 := growA_pos (first := first) hn hr hk1 hh (a + 1 + (growA rs n first (fullI k c) (fullI h c) (a + 1)).length)
      have hst := askA_test (s := s) (f := t.length - a - 1) hx (by simp only; omega)
      rw [show t.length - a - 1 + 1 = t.length - a by omega] at hst
      rw [hst]
      have hpc : ∀ p : List Int, pathB n (fullI k c) p = true → pathB n k ((c : Int) :: p) = true := by
        intro p hp
        rw [pathB, hp, h2]
        simp
        omega
      cases hi : inI s c with
      | true =>
        simp only [if_true]
        obtain ⟨g1, g2, g3⟩ := grow_ask hn hr hb ht hs f _ _ _ (by omega) hk1 hh1 hLy
        rw [show ((a : Int) + 1).toNat = a + 1 by omega, askA_more ht s (k := a + 1) (f' := t.length - (a + 1)) (by omega) (by omega) (Nat.le_refl _)]
        refine ⟨fun hF => g1 (hF.yes hk hh (by omega) hi), ?_, hpc _ g3⟩
        rw [h4]
        unfold bothD
        simp only [List.length_cons]
        push_cast
        omega
      | false =>
        simp only [Bool.false_eq_true, if_false]
        obtain ⟨g1, g2, g3⟩ := grow_ask hn hr hb ht hs f _ _ _ (by omega) hk1 hh hLn
        rw [show ((a : Int) + 1 + ((growA rs n first (fullI k c) (fullI h c) (a + 1)).length : Int)).toNat = a + 1 + (growA rs n first (fullI k c) (fullI h c) (a + 1)).length by omega, askA_more ht s (k := a + 1 + (growA rs n first (fullI k c) (fullI h c) (a + 1)).length) (f' := t.length - (a + 1 + (growA rs n first (fullI k c) (fullI h c) (a + 1)).length)) (by omega) (by omega) (Nat.le_refl _)]
        refine ⟨fun hF => g1 (hF.no hk (by omega) hi), ?_, hpc _ g3⟩
        rw [h4]
        unfold bothD
        simp only [List.length_cons]
        push_cast
        omega
end
end Go.Proofs.Ytlnonadkdonhmaa
