/- AutoDecides returns true for every group, part, manner and tree, and leaves its arguments as they were. No condition. -/
import Derived.Test.YtlnonadkdonhmaaL40
import Derived.Test.YtlnonadkdonhmaaL10
import Derived.Test.YtlnonadkdonhmaaRows

/- The walk of AutoDecides. -/
namespace Go.Proofs.Ytlnonadkdonhmaa
open Go.RowKit Go.Maps

set_option maxRecDepth 100000 in
set_option maxHeartbeats 16000000 in
theorem walk_decides (n : Int) (A : Option Addr) (c : Nat) (rs : List Int) (known has : Int) (first : Bool) (T : Option Addr) (f : Nat) (u : List Nd) (w : World) (hA : Cells w A (ints rs)) (hT : Cells w T (nds u)) :
    Calls Try.prog 14 #[.agg #[.int .i64 n, .slice A rs.length c], .int .i64 known, .int .i64 has, .bool first, .slice T u.length f] w fun e w' => e = .returned (.bool true) ∧ Below w.heap.size w w' := by
  have hlu : u.length ≤ 17592186043904 := by have := hT.1; simp [nds, flat_len ndCells_len] at this; omega
  obtain ⟨lw, HLW⟩ : ∃ lw : Bool, Hid (decide ((140 : Int) < (u.length : Int)) = lw) := ⟨decide ((140 : Int) < (u.length : Int)), rfl⟩
  have hlw' := HLW.out
  have HB0 : Hid (Below w.heap.size w (w.alloc (.cells #[.int .i64 n, .slice A rs.length c] 24))) := (Below.refl _ w).alloc (Nat.le_refl _) _
  have HA0 := Lib.hid (hA.below HB0.out (Nat.le_refl _))
  have hgm := Blk.new w (.cells #[.int .i64 n, .slice A rs.length c] 24)
  go_enter Try.func14, Try.ntmps14
  go_wp2_with fail
  obtain ⟨W, hW⟩ : ∃ W, w.alloc (.cells #[.int .i64 n, .slice A rs.length c] 24) = W := ⟨_, rfl⟩
  rw [hW] at HB0 HA0 hgm
  rw [hW]
  have c0 := hgm.cell 0 (v := .int .i64 n) rfl
  have c1 := hgm.cell 1 (v := .slice A rs.length c) rfl
  have hl0 := hgm.lt
  clear hW hgm
  have HCG := Lib.hid (And.intro c0 c1)
  have HL0 := Lib.hid hl0
  have HT0 := Lib.hid (hT.below HB0.out (Nat.le_refl _))
  clear c0 c1 hl0
  refine (small_any n A rs.length c W).mono ?_
  rintro e w1 ⟨rfl, hB1⟩
  have HI1 := Lib.hid hB1
  obtain ⟨bs, HS⟩ : ∃ b, Hid (decide (rs.length ≤ 30) = b) := ⟨_, rfl⟩
  rw [HS.out]
  clear hB1
  cases bs with
  | false =>
    go_wp2_with (go_at_call 20; go_must (refine (known_any _).mono ?_); rintro e wz ⟨rfl, hBz⟩)
    go_ret
    exact ⟨rfl, below_in HB0.out (below_in HI1.out hBz)⟩
  | true =>
  have x0 := cell_chain HI1.out HL0.out HCG.out.1
  have x1 := cell_chain HI1.out HL0.out HCG.out.2
  go_wp2_with fail
  refine (group_any n A c rs w1 (HA0.out.below HI1.out (Nat.le_refl _))).mono ?_
  rintro e w2 ⟨rfl, hB2⟩
  have HI2 := Lib.hid (below_in HI1.out hB2)
  obtain ⟨bs, HG⟩ : ∃ b, Hid (grpOk n rs = b) := ⟨_, rfl⟩
  rw [HG.out]
  clear hB2 x0 x1
  cases bs with
  | false =>
    go_wp2_with (go_at_call 20; go_must (refine (known_any _).mono ?_); rintro e wz ⟨rfl, hBz⟩)
    go_ret
    exact ⟨rfl, below_in HB0.out (below_in HI2.out hBz)⟩
  | true =>
  obtain ⟨hn1, hn6, hrl, _⟩ := grpOk_true HG.out
  have x0 := cell_chain HI2.out HL0.out HCG.out.1
  have x1 := cell_chain HI2.out HL0.out HCG.out.2
  go_wp2_with fail
  refine (Part_any n A c rs known has w2 (by omega) (by omega)).mono ?_
  rintro e w3 ⟨rfl, hB3⟩
  have HI3 := Lib.hid (below_in HI2.out hB3)
  obtain ⟨bs, HP⟩ : ∃ b, Hid ((setI n known && setI n has && withinI has known) = b) := ⟨_, rfl⟩
  rw [HP.out]
  clear hB3 x0 x1
  cases bs with
  | false =>
    go_wp2_with (go_at_call 20; go_must (refine (known_any _).mono ?_); rintro e wz ⟨rfl, hBz⟩)
    go_ret
    exact ⟨rfl, below_in HB0.out (below_in HI3.out hBz)⟩
  | true =>
  cases lw with
  | true =>
    go_wp2_with (go_at_call 20; go_must (refine (known_any _).mono ?_); rintro e wz ⟨rfl, hBz⟩)
    go_ret
    exact ⟨rfl, below_in HB0.out (below_in HI3.out hBz)⟩
  | false =>
  obtain ⟨N, rfl⟩ := Int.eq_ofNat_of_zero_le (a := n) (by omega)
  have hpo : partOk (N : Int) known has = true := HP.out
  have hto : treeOk (N : Int) rs known has = true := by unfold treeOk; rw [HG.out, hpo]; rfl
  have hDK := dec_ok (first := first) HG.out hpo
  have e1 : treeT (N : Int) rs known has first = growA rs N first known has 0 := by unfold treeT; rw [if_pos hto, Int.toNat_natCast]
  have e2 : treeD (N : Int) rs known has first = (planA rs N first known has).depth := by unfold treeD; rw [if_pos hto, Int.toNat_natCast]
  have x0 := cell_chain HI3.out HL0.out HCG.out.1
  have x1 := cell_chain HI3.out HL0.out HCG.out.2
  go_wp2_with fail
  refine (Tree_any (N : Int) A c rs known has first w3 (HA0.out.below HI3.out (Nat.le_refl _))).mono ?_
  rintro e w4 ⟨A4, c4, rfl, hC4, hB4⟩
  rw [e1] at hC4 ⊢
  rw [e2, hto]
  obtain ⟨t, HTt⟩ : ∃ t, Hid (growA rs N first known has 0 = t) := ⟨growA rs N first known has 0, rfl⟩
  obtain ⟨Dp, HDp⟩ : ∃ Dp, Hid ((planA rs N first known has).depth = Dp) := ⟨(planA rs N first known has).depth, rfl⟩
  rw [HTt.out] at hDK hC4 ⊢
  rw [HDp.out] at hDK ⊢
  have e3 : errI true = 0 := rfl
  rw [e3]
  have HI4 := Lib.hid (below_in HI3.out hB4)
  have HDK := Lib.hid hDK
  have HT4 := Lib.hid hC4
  clear hB4 hC4 hDK x0 x1 e1 e2 e3 hpo hto HTt HDp
  have htl := tree_pos HDK.out.tree
  -- region 4
  have x0 := cell_chain HI4.out HL0.out HCG.out.1
  have x1 := cell_chain HI4.out HL0.out HCG.out.2
  go_wp2_with fail
  refine (Formable_any (N : Int) A c rs A4 c4 t w4 (HA0.out.below HI4.out (Nat.le_refl _)) HT4.out).mono ?_
  rintro e w5 ⟨rfl, hB5⟩
  rw [HDK.out.tree]
  have HJ5 := Lib.hid hB5
  have HI5 := Lib.hid (below_in HI4.out hB5)
  clear hB5 x0 x1
  go_wp2_with fail
  refine (Depth_any (N : Int) rs.length A4 c4 t w5 (HT4.out.below HJ5.out (Nat.le_refl _)) HDK.out.tree).mono ?_
  rintro e w6 ⟨rfl, hB6⟩
  rw [HDK.out.high]
  have HJ6 := Lib.hid (below_in HJ5.out hB6)
  have HI6 := Lib.hid (below_in HI4.out HJ6.out)
  clear hB6
  have x0 := cell_chain HI6.out HL0.out HCG.out.1
  have x1 := cell_chain HI6.out HL0.out HCG.out.2
  have hDD : (Dp != Dp) = false := bne_self_eq_false _
  go_wp2_with fail
  refine (decides_any N A c rs A4 c4 t known has first w6 (HA0.out.below HI6.out (Nat.le_refl _)) (HT4.out.below HJ6.out (Nat.le_refl _)) HG.out HDK.out.tree).mono ?_
  rintro e w7 ⟨rfl, hB7⟩
  rw [HDK.out.dec]
  have HJ7 := Lib.hid (below_in HJ6.out hB7)
  have HI7 := Lib.hid (below_in HI4.out HJ7.out)
  clear hB7 x0 x1 hDD
  obtain ⟨nn, hnn⟩ : ∃ nn : Int, (N : Int) = nn := ⟨(N : Int), rfl⟩
  have hN6 : N ≤ 6 := by omega
  have hp64 : (2 : Nat) ^ N ≤ 64 := by
    have h3 : (2 : Nat) ^ N ≤ 2 ^ 6 := Nat.pow_le_pow_right (by decide) hN6
    exact h3
  obtain ⟨P, hP⟩ : ∃ P, Hid (2 ^ N = P) := ⟨2 ^ N, rfl⟩
  have hpe : (2 : Int) ^ nn.toNat = (P : Int) := by rw [← hnn, Int.toNat_natCast, ← hP.out]; push_cast; rfl
  have hp1 : wrap64 (2 ^ nn.toNat) = (P : Int) := by rw [← hpe]; exact p2_wrap (n := nn) (by omega) (by omega)
  have hp1' : IntKind.i64.wrap (2 ^ nn.toNat) = (P : Int) := by rw [← hpe]; exact p2_wrap' (n := nn) (by omega) (by omega)
  have hP64 : P ≤ 64 := by rw [← hP.out]; exact hp64
  have HPE := Lib.hid hpe
  have hnn0 : 0 ≤ nn := by omega
  have hnn6 : nn ≤ 6 := by omega
  have HNN := Lib.hid hnn
  have HGN : Hid (grpOk nn rs = true) := by show _ = _; rw [← hnn]; exact HG.out
  have HTN : Hid (treeB nn rs.length t = true) := by show _ = _; rw [← hnn]; exact HDK.out.tree
  rw [hnn] at HCG ⊢
  clear hpe hp64 hn1 hn6 hnn
  go_wp2
  go_loopw [14] (fun i wr => ∃ k : Nat, k ≤ P ∧ i = .int .i64 k ∧ Below w4.heap.size w4 wr) (fun i _ => P - (intOf i).toNat)
  case atStart => exact ⟨0, Nat.zero_le _, rfl, HJ7.out⟩
  case round =>
    obtain ⟨k, hkP, rfl, hB⟩ := hrel
    obtain ⟨wq, rfl⟩ : ∃ wq : World, wq = wr := ⟨_, rfl⟩
    have HJQ := Lib.hid hB
    have HIQ := Lib.hid (below_in HI4.out hB)
    clear hB
    have x0 := cell_chain HIQ.out HL0.out HCG.out.1
    have x1 := cell_chain HIQ.out HL0.out HCG.out.2
    by_cases hk : k < P
    · have HKB : Hid (isB (k : Int)) := by show isB _; unfold isB; omega
      have HAO : Hid (askOk nn rs t (k : Int) = true) := by
        show _ = _
        unfold askOk setI
        rw [HGN.out, HTN.out, HPE.out]
        simp
        omega
      have HAR : Hid (askR nn rs t (k : Int) = askT (k : Int) t) := by show _ = _; unfold askR; rw [HAO.out]; rfl
      have hlen := HDK.out.len (k : Int) HKB.out
      have hpath := HDK.out.path (k : Int) HKB.out
      go_wp2_with fail
      refine (Ask_any nn A c rs A4 c4 t (k : Int) wq (HA0.out.below HIQ.out (Nat.le_refl _)) (HT4.out.below HJQ.out (Nat.le_refl _))).mono ?_
      rintro e v1 ⟨A1, c1, rfl, hC1, hB1⟩
      rw [HAR.out] at hC1 ⊢
      rw [HAO.out]
      have e3 : errI true = 0 := rfl
      rw [e3]
      obtain ⟨R, HR⟩ : ∃ R, Hid ((askT (k : Int) t).1 = R) := ⟨(askT (k : Int) t).1, rfl⟩
      obtain ⟨p, HPP⟩ : ∃ p, Hid ((askT (k : Int) t).2 = p) := ⟨(askT (k : Int) t).2, rfl⟩
      rw [HPP.out] at hC1 hlen hpath ⊢
      rw [HR.out]
      have HC1 := Lib.hid hC1
      have HPA := Lib.hid hpath
      have hlp : p.length ≤ 17592186043904 := by have := hC1.1; simp [ints] at this; omega
      have hlen' : decide (Dp < (p.length : Int)) = false := by rw [decide_eq_false_iff_not]; omega
      have HJ1 := Lib.hid (below_in HJQ.out hB1)
      have HI1 := Lib.hid (below_in HI4.out HJ1.out)
      clear hC1 hpath e3 x0 x1 hB1 hlen
      have x0 := cell_chain HI1.out HL0.out HCG.out.1
      go_wp2
      go_loopw [18, 102] (fun kv z wr => ∃ (j : Nat) (kk : Int), j ≤ p.length ∧ kv = .int .i64 kk ∧ z = .int .i64 j ∧ isB kk ∧ pathB N kk (p.drop j) = true ∧ Below v1.heap.size v1 wr) (fun _ z _ => p.length - (intOf z).toNat)
      case atStart =>
        refine ⟨0, known, Nat.zero_le _, rfl, rfl, ?_, by rw [List.drop_zero]; exact HPA.out, Below.refl _ _⟩
        have h1 := HP.out
        simp only [Bool.and_eq_true] at h1
        exact setI_isB (by omega) h1.1.1
      case round =>
        obtain ⟨j, kk, hj, rfl, rfl, hkk, hpj, hB⟩ := hrel
        have HKK := Lib.hid hkk
        have HVB := Lib.hid hB
        have HJB := Lib.hid (below_in HJ1.out hB)
        have HIB := Lib.hid (below_in HI4.out HJB.out)
        clear hkk hB x0
        have x0 := cell_chain HIB.out HL0.out HCG.out.1
        by_cases hjl : j < p.length
        · obtain ⟨ch, b5, o5, hch, hb5, hix, hc5⟩ := ints_at (c := c1) (HC1.out.below HVB.out (Nat.le_refl _)) Try.underlying22 szInt hjl
          rw [drop_cons hch, pathB] at hpj
          simp only [Bool.and_eq_true, decide_eq_true_eq, Bool.not_eq_true'] at hpj
          obtain ⟨⟨⟨g1, g2⟩, g3⟩, g4⟩ := hpj
          have hc0 : decide (ch < 0) = false := by rw [decide_eq_false_iff_not]; omega
          have hc1 : decide (nn ≤ ch) = false := by have := HNN.out; rw [decide_eq_false_iff_not]; omega
          have hc2 := p2_wrap (n := ch) g1 (by omega)
          have hc2' := p2_wrap' (n := ch) g1 (by omega)
          have hc62 : ch ≤ 60 := by omega
          have HG3 := Lib.hid g3
          have HG4 := Lib.hid g4
          have hch5 : ch < 6 := by omega
          clear hch g3 g4
          go_wp2_with (go_at_call 66; go_must (refine (has_any kk ch _ g1 hc62).mono ?_); rintro e w2 ⟨rfl, rfl⟩; rw [HG3.out])
          go_roundw
          case rel => exact ⟨j + 1, fullI kk ch, by omega, rfl, by go_num, full_isB HKK.out g1 hch5, HG4.out, HVB.out⟩
          case measure => simp [intOf]; omega
        · obtain rfl : j = p.length := by omega
          clear hpj
          go_wp2_with fail
          refine (RefAsk_any nn rs.length A4 c4 t (k : Int) wr (HT4.out.below HJB.out (Nat.le_refl _)) HTN.out hnn6).mono ?_
          rintro e v2 ⟨A2, c2, rfl, hC2, hB2⟩
          rw [HR.out]
          have HJ2 := Lib.hid (below_in HJB.out hB2)
          clear hC2 hB2 x0
          have hRR : (R != R) = false := bne_self_eq_false _
          go_wp2
          go_roundw
          case rel => exact ⟨k + 1, by omega, by go_num, HJ2.out⟩
          case measure => simp [intOf]; omega
    · obtain rfl : k = P := by omega
      go_wp2_with fail
      refine (Formable_any nn A c rs T f u wq (HA0.out.below HIQ.out (Nat.le_refl _)) (HT0.out.below HIQ.out (Nat.le_refl _))).mono ?_
      rintro e v1 ⟨rfl, hB1⟩
      have HI1 := Lib.hid (below_in HIQ.out hB1)
      obtain ⟨bu, HU⟩ : ∃ b, Hid (treeB nn rs.length u = b) := ⟨_, rfl⟩
      rw [HU.out]
      clear hB1 x0 x1
      cases bu with
      | false =>
        go_wp2_with (go_at_call 20; go_must (refine (known_any _).mono ?_); rintro e wz ⟨rfl, hBz⟩)
        go_ret
        exact ⟨rfl, below_in HB0.out (below_in HI1.out hBz)⟩
      | true =>
      have HUN : Hid (treeB (N : Int) rs.length u = true) := by show _ = _; rw [HNN.out]; exact HU.out
      have x0 := cell_chain HI1.out HL0.out HCG.out.1
      have x1 := cell_chain HI1.out HL0.out HCG.out.2
      have hdec := decides_any N A c rs T f u known has first v1 (HA0.out.below HI1.out (Nat.le_refl _)) (HT0.out.below HI1.out (Nat.le_refl _)) HG.out HUN.out
      rw [HNN.out] at hdec
      have HDC := Lib.hid hdec
      clear hdec
      go_wp2_with fail
      refine (HDC.out).mono ?_
      rintro e v2 ⟨rfl, hB2⟩
      have HI2 := Lib.hid (below_in HI1.out hB2)
      obtain ⟨bd, HD⟩ : ∃ b, Hid (decidesB N rs u known has first = b) := ⟨_, rfl⟩
      rw [HD.out]
      clear hB2 x0 x1 HDC
      cases bd with
      | false =>
        go_wp2_with (go_at_call 20; go_must (refine (known_any _).mono ?_); rintro e wz ⟨rfl, hBz⟩)
        go_ret
        exact ⟨rfl, below_in HB0.out (below_in HI2.out hBz)⟩
      | true =>
      have hle := HDK.out.least u HUN.out HD.out
      go_wp2_with fail
      refine (Depth_any nn rs.length T f u v2 (HT0.out.below HI2.out (Nat.le_refl _)) HU.out).mono ?_
      rintro e v3 ⟨rfl, hB3⟩
      have HI3' := Lib.hid (below_in HI2.out hB3)
      have hlt : decide (htT u 0 < Dp) = false := by rw [decide_eq_false_iff_not]; omega
      clear hB3 hle
      go_wp2_with (go_at_call 20; go_must (refine (known_any _).mono ?_); rintro e wz ⟨rfl, hBz⟩)
      go_ret
      exact ⟨rfl, below_in HB0.out (below_in HI3'.out hBz)⟩
end Go.Proofs.Ytlnonadkdonhmaa

/- AutoDecides returns true for every group, part, manner and tree, and leaves its arguments as they were. No condition. -/
namespace Go.Proofs.Ytlnonadkdonhmaa
open Go.ChangeShapes Go.WideShapes Go.ChangeAt Go.RowKit

theorem own_decides : ownKnob Try.prog.godebug = none := by kernel_rfl
theorem laid_decides : laidOutB Try.prog = true := by kernel_rfl

set_option maxRecDepth 100000 in
theorem lifted_decides (os : Os) (started : os.Started) (H : Type) (enc : TypeId × Value → H) :
    ReturnsInHanded {} Try.checked os 14 .any (Rows.autoDecidesSpec.pre6 enc Try.prog Try.f14 Rows.autoDecidesRow.domain false) (Rows.autoDecidesSpec.post enc Try.prog Try.f14 false true false false) := by
  refine returnsInHanded_of_change_sized (C := Try.checked) own_decides started (by kernel_rfl) Try.func14
    (ChangeSpec.witness6 (enc := enc) (C := Try.checked) false ⟨#[], #[.agg #[.int .i64 0, .slice none 0 0], .int .i64 0, .int .i64 0, .bool false, .slice none 0 0], []⟩ 8 (by kernel_rfl) (by kernel_rfl) (by kernel_rfl) (by kernel_rfl)) ?_
  intro W base args ds gs before hval0 hW hcnd hsz0 _
  have hval : ∀ (j : Nat) t v, Try.f14.params[j]? = some t → args[j]? = some v → Value.okWide Try.prog W .any base t v := hval0
  have hsz : (DataW.weightsEach Try.prog (Try.f14.params.toList ++ Rows.autoDecidesSpec.plain.varTypes Try.prog) (ds ++ gs)).all (· ≤ reachBytes) = true := hsz0
  have hW' := hW
  obtain ⟨p, q, hA0, hV, rfl, hfz, hnd⟩ := hW
  have hA : DataW.TrodAll enc Try.prog W 0 (fun _ => true) true Try.f14.params.toList args.toList ds p := hA0
  rw [Try.params14] at hA hval hsz
  obtain ⟨v0, vs0, d0, ds0, p0, q0, hargs, rfl, rfl, h0, r0⟩ := trodAll_cons hA
  obtain ⟨v1, vs1, d1, ds1, p1, q1, rfl, rfl, rfl, h1, r1⟩ := trodAll_cons r0
  obtain ⟨v2, vs2, d2, ds2, p2, q2, rfl, rfl, rfl, h2, r2⟩ := trodAll_cons r1
  obtain ⟨v3, vs3, d3, ds3, p3, q3, rfl, rfl, rfl, h3, r3⟩ := trodAll_cons r2
  obtain ⟨v4, vs4, d4, ds4, p4, q4, rfl, rfl, rfl, h4, r4⟩ := trodAll_cons r3
  obtain ⟨rfl, rfl, rfl⟩ := trodAll_nil r4
  obtain rfl : args = #[v0, v1, v2, v3, v4] := by cases args; simp_all
  obtain ⟨rfl, rfl⟩ := trodVars_none hV
  have s0 : sz Try.prog 24 d0 := sz_arg hsz (j := 0) rfl rfl
  obtain ⟨n0, A0, rs0, c0, rfl, hC0, hw0⟩ := arg_group (hval 0 24 v0 rfl rfl) h0 s0
  have k0 := h0
  have lt0 : ∀ x ∈ p0, x.block < W.heap.size := by obtain ⟨m, hm⟩ := k0; exact DataW.trod_lt m _ _ _ hm
  obtain ⟨i1, rfl, rfl, rfl, hw1⟩ := open_int Try.underlying3 (hval 1 3 v1 rfl rfl) h1
  obtain ⟨i2, rfl, rfl, rfl, hw2⟩ := open_int Try.underlying3 (hval 2 3 v2 rfl rfl) h2
  obtain ⟨i3, rfl, rfl, rfl⟩ := open_bool Try.underlying4 (hval 3 4 v3 rfl rfl) h3
  have s4 : sz Try.prog 79 d4 := sz_arg hsz (j := 4) rfl rfl
  obtain ⟨D4, xs4, f4, rfl, hC4⟩ := arg_tree (hval 4 79 v4 rfl rfl) h4 s4
  have k4 := h4
  have lt4 : ∀ x ∈ p4, x.block < W.heap.size := by obtain ⟨m, hm⟩ := k4; exact DataW.trod_lt m _ _ _ hm
  clear hA0 hval0
  refine (walk_decides n0 A0 c0 rs0 i1 i2 i3 D4 f4 xs4 W hC0 hC4).mono fun e W' ⟨he, bel⟩ => ?_
  subst he
  exact ⟨_, rfl, _, _, _, [], _, [], hW', trodAll_mk1 (shut_bool Try.underlying4 _), (trodAll_cons_mk (Below.trod laid_decides (by kernel_rfl) (of_decide_eq_true (by kernel_rfl)) k0 bel lt0) (trodAll_cons_mk (shut_int Try.underlying3 hw1) (trodAll_cons_mk (shut_int Try.underlying3 hw2) (trodAll_cons_mk (shut_bool Try.underlying4 _) (trodAll_cons_mk (Below.trod laid_decides (by kernel_rfl) (of_decide_eq_true (by kernel_rfl)) k4 bel lt4) trodAll_mk0))))), rfl, bel.frame _, fun h => by cases h⟩

theorem decides_holds : Rows.AutoDecidesSaid :=
  OpenClaim.holds_of_wide 14 Try.f14 rfl rfl rfl rfl rfl rfl rfl ⟨rfl, rfl, rfl, rfl, rfl⟩ rfl rfl rfl rfl rfl (by kernel_rfl) Try.func14 (by kernel_rfl)
    (of_decide_eq_true (by kernel_rfl)) (by unfold Func.isWrapper; first | (rw [if_pos (by decide +kernel)]; kernel_rfl) | (rw [if_neg (by decide +kernel)]; exact ⟨rfl, rfl⟩))
    (fun os started H enc _ => lifted_decides os started H enc)
#print axioms decides_holds
end Go.Proofs.Ytlnonadkdonhmaa
