/- AutoTrees returns true for every group, part, manner, tree and set, and leaves its arguments as they were. No condition. -/
import Derived.Test.YtlnonadkdonhmaaL42
import Derived.Test.YtlnonadkdonhmaaL10
import Derived.Test.YtlnonadkdonhmaaRows

/- The walk of AutoTrees. -/
namespace Go.Proofs.Ytlnonadkdonhmaa
open Go.RowKit Go.Maps

theorem tree_no {n : Int} {rs : List Int} {known has : Int} {first : Bool} (h : treeOk n rs known has = false) : treeT n rs known has first = [] ∧ treeD n rs known has first = 0 := by
  unfold treeT treeD
  rw [h]
  exact ⟨rfl, rfl⟩
theorem ask_no {n : Int} {rs : List Int} {t : List Nd} {s : Int} (h : askOk n rs t s = false) : askR n rs t s = (0, []) := by
  unfold askR
  rw [h]
  rfl
set_option maxRecDepth 100000 in
set_option maxHeartbeats 32000000 in
theorem walk_trees (n : Int) (A : Option Addr) (c : Nat) (rs : List Int) (known has : Int) (first : Bool) (T : Option Addr) (f : Nat) (u : List Nd) (s : Int) (w : World) (hA : Cells w A (ints rs)) (hT : Cells w T (nds u)) :
    Calls Try.prog 13 #[.agg #[.int .i64 n, .slice A rs.length c], .int .i64 known, .int .i64 has, .bool first, .slice T u.length f, .int .i64 s] w fun e w' => e = .returned (.bool true) ∧ Below w.heap.size w w' := by
  have hlu : u.length ≤ 17592186043904 := by have := hT.1; simp [nds, flat_len ndCells_len] at this; omega
  obtain ⟨lw, HLW⟩ : ∃ lw : Bool, Hid (decide ((140 : Int) < (u.length : Int)) = lw) := ⟨decide ((140 : Int) < (u.length : Int)), rfl⟩
  have hlw' := HLW.out
  have HB0 : Hid (Below w.heap.size w (w.alloc (.cells #[.int .i64 n, .slice A rs.length c] 24))) := (Below.refl _ w).alloc (Nat.le_refl _) _
  have HA0 := Lib.hid (hA.below HB0.out (Nat.le_refl _))
  have hgm := Blk.new w (.cells #[.int .i64 n, .slice A rs.length c] 24)
  go_enter Try.func13, Try.ntmps13
  go_wp2_with fail
  obtain ⟨W, hW⟩ : ∃ W, w.alloc (.cells #[.int .i64 n, .slice A rs.length c] 24) = W := ⟨_, rfl⟩
  rw [hW] at HB0 HA0 hgm
  rw [hW]
  have c0 := hgm.cell 0 (v := .int .i64 n) rfl
  have c1 := hgm.cell 1 (v := .slice A rs.length c) rfl
  have hl0 := hgm.lt
  clear hW hgm
  have HCG := Lib.hid (And.intro c0 c1)
  have HL0 := Lib.hid hl0
  have HT0 := Lib.hid (hT.below HB0.out (Nat.le_refl _))
  clear c0 c1 hl0
  refine (small_any n A rs.length c W).mono ?_
  rintro e w1 ⟨rfl, hB1⟩
  have HI1 := Lib.hid hB1
  obtain ⟨bs, HS⟩ : ∃ b, Hid (decide (rs.length ≤ 30) = b) := ⟨_, rfl⟩
  rw [HS.out]
  clear hB1
  cases bs with
  | false =>
    go_wp2_with (go_at_call 20; go_must (refine (known_any _).mono ?_); rintro e wz ⟨rfl, hBz⟩)
    go_ret
    exact ⟨rfl, below_in HB0.out (below_in HI1.out hBz)⟩
  | true =>
  cases lw with
  | true =>
    go_wp2_with (go_at_call 20; go_must (refine (known_any _).mono ?_); rintro e wz ⟨rfl, hBz⟩)
    go_ret
    exact ⟨rfl, below_in HB0.out (below_in HI1.out hBz)⟩
  | false =>
  have x0 := cell_chain HI1.out HL0.out HCG.out.1
  have x1 := cell_chain HI1.out HL0.out HCG.out.2
  go_wp2_with fail
  refine (Tree_any n A c rs known has first w1 (HA0.out.below HI1.out (Nat.le_refl _))).mono ?_
  rintro e w2 ⟨A2, c2, rfl, hC2, hB2⟩
  obtain ⟨tt, HTT⟩ : ∃ t, Hid (treeT n rs known has first = t) := ⟨_, rfl⟩
  obtain ⟨td, HTD⟩ : ∃ t, Hid (treeD n rs known has first = t) := ⟨_, rfl⟩
  obtain ⟨te, HTE⟩ : ∃ t, Hid (errI (treeOk n rs known has) = t) := ⟨_, rfl⟩
  rw [HTT.out] at hC2 ⊢
  rw [HTD.out, HTE.out]
  have HI2 := Lib.hid (below_in HI1.out hB2)
  have HC2 := Lib.hid hC2
  clear hB2 hC2 x0 x1
  have x0 := cell_chain HI2.out HL0.out HCG.out.1
  have x1 := cell_chain HI2.out HL0.out HCG.out.2
  go_wp2_with fail
  refine (Ask_any n A c rs T f u s w2 (HA0.out.below HI2.out (Nat.le_refl _)) (HT0.out.below HI2.out (Nat.le_refl _))).mono ?_
  rintro e w3 ⟨A3, c3, rfl, hC3, hB3⟩
  have HI3 := Lib.hid (below_in HI2.out hB3)
  have HC3 := Lib.hid hC3
  have HJ3 := Lib.hid hB3
  clear hB3 hC3 x0 x1
  have x0 := cell_chain HI3.out HL0.out HCG.out.1
  have x1 := cell_chain HI3.out HL0.out HCG.out.2
  go_wp2_with fail
  refine (group_any n A c rs w3 (HA0.out.below HI3.out (Nat.le_refl _))).mono ?_
  rintro e w4 ⟨rfl, hB4⟩
  have HI4 := Lib.hid (below_in HI3.out hB4)
  have HK4 := Lib.hid hB4
  have HJ4 := Lib.hid (below_in HJ3.out hB4)
  obtain ⟨bg, HG⟩ : ∃ b, Hid (grpOk n rs = b) := ⟨_, rfl⟩
  rw [HG.out]
  clear hB4 x0 x1
  have x0 := cell_chain HI4.out HL0.out HCG.out.1
  have x1 := cell_chain HI4.out HL0.out HCG.out.2
  cases bg with
  | false =>
    have HAO : Hid (askOk n rs u s = false) := by show _ = _; unfold askOk; rw [HG.out]; rfl
    have hto : treeOk n rs known has = false := by unfold treeOk; rw [HG.out]; rfl
    have h1 := (tree_no (first := first) hto).1
    have h2 := (tree_no (first := first) hto).2
    have htt := HTT.out
    have htd := HTD.out
    have hte := HTE.out
    rw [h1] at htt
    rw [h2] at htd
    rw [hto] at hte
    have hte' : te = 2 := hte.symm
    subst htt htd hte'
    clear h1 h2 hto hte
    rw [ask_no HAO.out]
    rw [HAO.out]
    have eE : errI false = 2 := rfl
    simp only [eE, List.length_nil]
    clear eE
    go_wp2_with fail
    refine (group_any n A c rs w4 (HA0.out.below HI4.out (Nat.le_refl _))).mono ?_
    rintro e w5 ⟨rfl, hB5⟩
    have HI5 := Lib.hid (below_in HI4.out hB5)
    rw [HG.out]
    clear hB5
    go_wp2_with (go_at_call 20; go_must (refine (known_any _).mono ?_); rintro e wz ⟨rfl, hBz⟩)
    go_ret
    exact ⟨rfl, below_in HB0.out (below_in HI5.out hBz)⟩
  | true =>
  obtain ⟨hn1, hn6, hrl, _⟩ := grpOk_true HG.out
  go_wp2_with fail
  refine (Formable_any n A c rs T f u w4 (HA0.out.below HI4.out (Nat.le_refl _)) (HT0.out.below HI4.out (Nat.le_refl _))).mono ?_
  rintro e w5 ⟨rfl, hB5⟩
  have HI5 := Lib.hid (below_in HI4.out hB5)
  have HK5 := Lib.hid (below_in HK4.out hB5)
  have HJ5 := Lib.hid (below_in HJ4.out hB5)
  obtain ⟨bf, HF⟩ : ∃ b, Hid (treeB n rs.length u = b) := ⟨_, rfl⟩
  rw [HF.out]
  clear hB5 x0 x1
  have x0 := cell_chain HI5.out HL0.out HCG.out.1
  have x1 := cell_chain HI5.out HL0.out HCG.out.2
  cases bf with
  | false =>
    have HAO : Hid (askOk n rs u s = false) := by show _ = _; unfold askOk; rw [HF.out, Bool.and_false, Bool.false_and]
    rw [ask_no HAO.out]
    rw [HAO.out]
    have eE : errI false = 2 := rfl
    simp only [eE, List.length_nil]
    clear eE
    obtain ⟨wE, HIE, HJE, HWE⟩ : ∃ wE, Hid (Below W.heap.size W wE) ∧ Hid (Below w2.heap.size w2 wE) ∧ Hid (w5 = wE) := ⟨w5, HI5, HJ5, Lib.hid rfl⟩
    rw [HWE.out]
    clear x0 x1
    have x0 := cell_chain HIE.out HL0.out HCG.out.1
    have x1 := cell_chain HIE.out HL0.out HCG.out.2
    go_wp2_with fail
    refine (group_any n A c rs wE (HA0.out.below HIE.out (Nat.le_refl _))).mono ?_
    rintro e w6 ⟨rfl, hB6⟩
    have HI6 := Lib.hid (below_in HIE.out hB6)
    have HJ6 := Lib.hid (below_in HJE.out hB6)
    rw [HG.out]
    clear hB6 x0 x1
    have x0 := cell_chain HI6.out HL0.out HCG.out.1
    have x1 := cell_chain HI6.out HL0.out HCG.out.2
    go_wp2_with fail
    refine (Part_any n A c rs known has w6 (by omega) (by omega)).mono ?_
    rintro e w7 ⟨rfl, hB7⟩
    have HI7 := Lib.hid (below_in HI6.out hB7)
    have HJ7 := Lib.hid (below_in HJ6.out hB7)
    obtain ⟨bp, HP⟩ : ∃ b, Hid ((setI n known && setI n has && withinI has known) = b) := ⟨_, rfl⟩
    rw [HP.out]
    clear hB7 x0 x1
    cases bp with
    | false =>
      have hto : treeOk n rs known has = false := by unfold treeOk partOk; rw [HP.out, Bool.and_false]
      have h1 := (tree_no (first := first) hto).1
      have h2 := (tree_no (first := first) hto).2
      have htt := HTT.out
      have htd := HTD.out
      have hte := HTE.out
      rw [h1] at htt
      rw [h2] at htd
      rw [hto] at hte
      have hte' : te = 2 := hte.symm
      subst htt htd hte'
      clear h1 h2 hto hte
      go_wp2_with (go_at_call 20; go_must (refine (known_any _).mono ?_); rintro e wz ⟨rfl, hBz⟩)
      go_ret
      exact ⟨rfl, below_in HB0.out (below_in HI7.out hBz)⟩
    | true =>
      obtain ⟨N, rfl⟩ := Int.eq_ofNat_of_zero_le (a := n) (by omega)
      have hto : treeOk (N : Int) rs known has = true := by
        have hpo : partOk (N : Int) known has = true := HP.out
        unfold treeOk; rw [HG.out, hpo]; rfl
      have h1 : treeT (N : Int) rs known has first = growA rs N first known has 0 := by unfold treeT; rw [if_pos hto, Int.toNat_natCast]
      have h2 : treeD (N : Int) rs known has first = (planA rs N first known has).depth := by unfold treeD; rw [if_pos hto, Int.toNat_natCast]
      have htt := HTT.out
      have htd := HTD.out
      have hte := HTE.out
      rw [h1] at htt
      rw [h2] at htd
      rw [hto] at hte
      have hte' : te = 0 := hte.symm
      have HT2 := Lib.hid htt
      have HD2 := Lib.hid htd
      subst hte'
      have hkk : inN N known ∧ inN N has := by
        have h := HP.out
        simp only [setI, Bool.and_eq_true, decide_eq_true_eq, Int.toNat_natCast] at h
        exact ⟨⟨h.1.1.1, h.1.1.2⟩, ⟨h.1.2.1, h.1.2.2⟩⟩
      clear h1 h2 hto hte htt htd
      have x0 := cell_chain HI7.out HL0.out HCG.out.1
      have x1 := cell_chain HI7.out HL0.out HCG.out.2
      go_wp2_with fail
      refine (RefTree_any N A c rs known has first w7 (HA0.out.below HI7.out (Nat.le_refl _)) HG.out hkk.1 hkk.2).mono ?_
      rintro e w8 ⟨A8, c8, rfl, hC8, hB8⟩
      rw [HT2.out] at hC8 ⊢
      rw [HD2.out]
      have HI8 := Lib.hid (below_in HI7.out hB8)
      have HC8 := Lib.hid hC8
      have HC28 := Lib.hid (HC2.out.below (below_in HJ7.out hB8) (Nat.le_refl _))
      clear hB8 hC8 x0 x1 hkk
      go_wp2_with fail
      refine (Nodes_any tt tt A2 A8 c2 c8 w8 HC28.out HC8.out).mono ?_
      rintro e w9 ⟨rfl, hB9⟩
      have HI9 := Lib.hid (below_in HI8.out hB9)
      rw [decide_eq_true (rfl : tt = tt)]
      clear hB9
      go_wp2_with (go_at_call 20; go_must (refine (known_any _).mono ?_); rintro e wz ⟨rfl, hBz⟩)
      go_ret
      exact ⟨rfl, below_in HB0.out (below_in HI9.out hBz)⟩
  | true =>
  go_wp2_with fail
  refine (set_any n s A rs.length c w5 (by omega) (by omega)).mono ?_
  rintro e w6 ⟨rfl, hB6⟩
  have HI6 := Lib.hid (below_in HI5.out hB6)
  have HK6 := Lib.hid (below_in HK5.out hB6)
  have HJ6 := Lib.hid (below_in HJ5.out hB6)
  obtain ⟨bs2, HSE⟩ : ∃ b, Hid (setI n s = b) := ⟨_, rfl⟩
  rw [HSE.out]
  clear hB6 x0 x1
  have x0 := cell_chain HI6.out HL0.out HCG.out.1
  have x1 := cell_chain HI6.out HL0.out HCG.out.2
  cases bs2 with
  | false =>
    have HAO : Hid (askOk n rs u s = false) := by show _ = _; unfold askOk; rw [HSE.out, Bool.and_false]
    rw [ask_no HAO.out]
    rw [HAO.out]
    have eE : errI false = 2 := rfl
    simp only [eE, List.length_nil]
    clear eE
    obtain ⟨wE, HIE, HJE, HWE⟩ : ∃ wE, Hid (Below W.heap.size W wE) ∧ Hid (Below w2.heap.size w2 wE) ∧ Hid (w6 = wE) := ⟨w6, HI6, HJ6, Lib.hid rfl⟩
    rw [HWE.out]
    clear x0 x1
    have x0 := cell_chain HIE.out HL0.out HCG.out.1
    have x1 := cell_chain HIE.out HL0.out HCG.out.2
    go_wp2_with fail
    refine (group_any n A c rs wE (HA0.out.below HIE.out (Nat.le_refl _))).mono ?_
    rintro e w6 ⟨rfl, hB6⟩
    have HI6 := Lib.hid (below_in HIE.out hB6)
    have HJ6 := Lib.hid (below_in HJE.out hB6)
    rw [HG.out]
    clear hB6 x0 x1
    have x0 := cell_chain HI6.out HL0.out HCG.out.1
    have x1 := cell_chain HI6.out HL0.out HCG.out.2
    go_wp2_with fail
    refine (Part_any n A c rs known has w6 (by omega) (by omega)).mono ?_
    rintro e w7 ⟨rfl, hB7⟩
    have HI7 := Lib.hid (below_in HI6.out hB7)
    have HJ7 := Lib.hid (below_in HJ6.out hB7)
    obtain ⟨bp, HP⟩ : ∃ b, Hid ((setI n known && setI n has && withinI has known) = b) := ⟨_, rfl⟩
    rw [HP.out]
    clear hB7 x0 x1
    cases bp with
    | false =>
      have hto : treeOk n rs known has = false := by unfold treeOk partOk; rw [HP.out, Bool.and_false]
      have h1 := (tree_no (first := first) hto).1
      have h2 := (tree_no (first := first) hto).2
      have htt := HTT.out
      have htd := HTD.out
      have hte := HTE.out
      rw [h1] at htt
      rw [h2] at htd
      rw [hto] at hte
      have hte' : te = 2 := hte.symm
      subst htt htd hte'
      clear h1 h2 hto hte
      go_wp2_with (go_at_call 20; go_must (refine (known_any _).mono ?_); rintro e wz ⟨rfl, hBz⟩)
      go_ret
      exact ⟨rfl, below_in HB0.out (below_in HI7.out hBz)⟩
    | true =>
      obtain ⟨N, rfl⟩ := Int.eq_ofNat_of_zero_le (a := n) (by omega)
      have hto : treeOk (N : Int) rs known has = true := by
        have hpo : partOk (N : Int) known has = true := HP.out
        unfold treeOk; rw [HG.out, hpo]; rfl
      have h1 : treeT (N : Int) rs known has first = growA rs N first known has 0 := by unfold treeT; rw [if_pos hto, Int.toNat_natCast]
      have h2 : treeD (N : Int) rs known has first = (planA rs N first known has).depth := by unfold treeD; rw [if_pos hto, Int.toNat_natCast]
      have htt := HTT.out
      have htd := HTD.out
      have hte := HTE.out
      rw [h1] at htt
      rw [h2] at htd
      rw [hto] at hte
      have hte' : te = 0 := hte.symm
      have HT2 := Lib.hid htt
      have HD2 := Lib.hid htd
      subst hte'
      have hkk : inN N known ∧ inN N has := by
        have h := HP.out
        simp only [setI, Bool.and_eq_true, decide_eq_true_eq, Int.toNat_natCast] at h
        exact ⟨⟨h.1.1.1, h.1.1.2⟩, ⟨h.1.2.1, h.1.2.2⟩⟩
      clear h1 h2 hto hte htt htd
      have x0 := cell_chain HI7.out HL0.out HCG.out.1
      have x1 := cell_chain HI7.out HL0.out HCG.out.2
      go_wp2_with fail
      refine (RefTree_any N A c rs known has first w7 (HA0.out.below HI7.out (Nat.le_refl _)) HG.out hkk.1 hkk.2).mono ?_
      rintro e w8 ⟨A8, c8, rfl, hC8, hB8⟩
      rw [HT2.out] at hC8 ⊢
      rw [HD2.out]
      have HI8 := Lib.hid (below_in HI7.out hB8)
      have HC8 := Lib.hid hC8
      have HC28 := Lib.hid (HC2.out.below (below_in HJ7.out hB8) (Nat.le_refl _))
      clear hB8 hC8 x0 x1 hkk
      go_wp2_with fail
      refine (Nodes_any tt tt A2 A8 c2 c8 w8 HC28.out HC8.out).mono ?_
      rintro e w9 ⟨rfl, hB9⟩
      have HI9 := Lib.hid (below_in HI8.out hB9)
      rw [decide_eq_true (rfl : tt = tt)]
      clear hB9
      go_wp2_with (go_at_call 20; go_must (refine (known_any _).mono ?_); rintro e wz ⟨rfl, hBz⟩)
      go_ret
      exact ⟨rfl, below_in HB0.out (below_in HI9.out hBz)⟩
  | true =>
  have HAO : Hid (askOk n rs u s = true) := by show _ = _; unfold askOk; rw [HG.out, HF.out, HSE.out]; rfl
  have HAR : Hid (askR n rs u s = askT s u) := by show _ = _; unfold askR; rw [HAO.out]; rfl
  rw [HAR.out, HAO.out]
  have eE : errI true = 0 := rfl
  simp only [eE]
  clear eE
  obtain ⟨ar, al, HAT⟩ : ∃ r l, Hid (askT s u = (r, l)) := ⟨_, _, rfl⟩
  rw [HAT.out]
  simp only
  have hC3 := HC3.out
  rw [HAR.out, HAT.out] at hC3
  simp only at hC3
  have HC3' := Lib.hid hC3
  clear hC3
  go_wp2_with fail
  refine (RefAsk_any n rs.length T f u s w6 (HT0.out.below HI6.out (Nat.le_refl _)) HF.out hn6).mono ?_
  rintro e w7 ⟨A7, c7, rfl, hC7, hB7⟩
  rw [HAT.out] at hC7 ⊢
  simp only at hC7 ⊢
  have HC7 := Lib.hid hC7
  have HI7 := Lib.hid (below_in HI6.out hB7)
  have HK7 := Lib.hid (below_in HK6.out hB7)
  have HJ7 := Lib.hid (below_in HJ6.out hB7)
  clear hB7 hC7 x0 x1
  go_wp2_with fail
  refine (Ints_any al al A3 A7 c3 c7 w7 (HC3'.out.below HK7.out (Nat.le_refl _)) HC7.out).mono ?_
  rintro e w8 ⟨rfl, hB8⟩
  rw [decide_eq_true (rfl : al = al)]
  have HI8 := Lib.hid (below_in HI7.out hB8)
  have HJ8 := Lib.hid (below_in HJ7.out hB8)
  clear hB8
  have x0 := cell_chain HI8.out HL0.out HCG.out.1
  have x1 := cell_chain HI8.out HL0.out HCG.out.2
  obtain ⟨wE, HIE, HJE, HWE⟩ : ∃ wE, Hid (Below W.heap.size W wE) ∧ Hid (Below w2.heap.size w2 wE) ∧ Hid (w8 = wE) := ⟨w8, HI8, HJ8, Lib.hid rfl⟩
  rw [HWE.out]
  clear x0 x1
  have x0 := cell_chain HIE.out HL0.out HCG.out.1
  have x1 := cell_chain HIE.out HL0.out HCG.out.2
  go_wp2_with fail
  refine (group_any n A c rs wE (HA0.out.below HIE.out (Nat.le_refl _))).mono ?_
  rintro e w6 ⟨rfl, hB6⟩
  have HI6 := Lib.hid (below_in HIE.out hB6)
  have HJ6 := Lib.hid (below_in HJE.out hB6)
  rw [HG.out]
  clear hB6 x0 x1
  have x0 := cell_chain HI6.out HL0.out HCG.out.1
  have x1 := cell_chain HI6.out HL0.out HCG.out.2
  go_wp2_with fail
  refine (Part_any n A c rs known has w6 (by omega) (by omega)).mono ?_
  rintro e w7 ⟨rfl, hB7⟩
  have HI7 := Lib.hid (below_in HI6.out hB7)
  have HJ7 := Lib.hid (below_in HJ6.out hB7)
  obtain ⟨bp, HP⟩ : ∃ b, Hid ((setI n known && setI n has && withinI has known) = b) := ⟨_, rfl⟩
  rw [HP.out]
  clear hB7 x0 x1
  cases bp with
  | false =>
    have hto : treeOk n rs known has = false := by unfold treeOk partOk; rw [HP.out, Bool.and_false]
    have h1 := (tree_no (first := first) hto).1
    have h2 := (tree_no (first := first) hto).2
    have htt := HTT.out
    have htd := HTD.out
    have hte := HTE.out
    rw [h1] at htt
    rw [h2] at htd
    rw [hto] at hte
    have hte' : te = 2 := hte.symm
    subst htt htd hte'
    clear h1 h2 hto hte
    go_wp2_with (go_at_call 20; go_must (refine (known_any _).mono ?_); rintro e wz ⟨rfl, hBz⟩)
    go_ret
    exact ⟨rfl, below_in HB0.out (below_in HI7.out hBz)⟩
  | true =>
    obtain ⟨N, rfl⟩ := Int.eq_ofNat_of_zero_le (a := n) (by omega)
    have hto : treeOk (N : Int) rs known has = true := by
      have hpo : partOk (N : Int) known has = true := HP.out
      unfold treeOk; rw [HG.out, hpo]; rfl
    have h1 : treeT (N : Int) rs known has first = growA rs N first known has 0 := by unfold treeT; rw [if_pos hto, Int.toNat_natCast]
    have h2 : treeD (N : Int) rs known has first = (planA rs N first known has).depth := by unfold treeD; rw [if_pos hto, Int.toNat_natCast]
    have htt := HTT.out
    have htd := HTD.out
    have hte := HTE.out
    rw [h1] at htt
    rw [h2] at htd
    rw [hto] at hte
    have hte' : te = 0 := hte.symm
    have HT2 := Lib.hid htt
    have HD2 := Lib.hid htd
    subst hte'
    have hkk : inN N known ∧ inN N has := by
      have h := HP.out
      simp only [setI, Bool.and_eq_true, decide_eq_true_eq, Int.toNat_natCast] at h
      exact ⟨⟨h.1.1.1, h.1.1.2⟩, ⟨h.1.2.1, h.1.2.2⟩⟩
    clear h1 h2 hto hte htt htd
    have x0 := cell_chain HI7.out HL0.out HCG.out.1
    have x1 := cell_chain HI7.out HL0.out HCG.out.2
    go_wp2_with fail
    refine (RefTree_any N A c rs known has first w7 (HA0.out.below HI7.out (Nat.le_refl _)) HG.out hkk.1 hkk.2).mono ?_
    rintro e w8 ⟨A8, c8, rfl, hC8, hB8⟩
    rw [HT2.out] at hC8 ⊢
    rw [HD2.out]
    have HI8 := Lib.hid (below_in HI7.out hB8)
    have HC8 := Lib.hid hC8
    have HC28 := Lib.hid (HC2.out.below (below_in HJ7.out hB8) (Nat.le_refl _))
    clear hB8 hC8 x0 x1 hkk
    go_wp2_with fail
    refine (Nodes_any tt tt A2 A8 c2 c8 w8 HC28.out HC8.out).mono ?_
    rintro e w9 ⟨rfl, hB9⟩
    have HI9 := Lib.hid (below_in HI8.out hB9)
    rw [decide_eq_true (rfl : tt = tt)]
    clear hB9
    go_wp2_with (go_at_call 20; go_must (refine (known_any _).mono ?_); rintro e wz ⟨rfl, hBz⟩)
    go_ret
    exact ⟨rfl, below_in HB0.out (below_in HI9.out hBz)⟩
end Go.Proofs.Ytlnonadkdonhmaa

/- AutoTrees returns true for every group, part, manner, tree and set, and leaves its arguments as they were. No condition. -/
namespace Go.Proofs.Ytlnonadkdonhmaa
open Go.ChangeShapes Go.WideShapes Go.ChangeAt Go.RowKit

theorem own_trees : ownKnob Try.prog.godebug = none := by kernel_rfl
theorem laid_trees : laidOutB Try.prog = true := by kernel_rfl

set_option maxRecDepth 100000 in
theorem lifted_trees (os : Os) (started : os.Started) (H : Type) (enc : TypeId × Value → H) :
    ReturnsInHanded {} Try.checked os 13 .any (Rows.autoTreesSpec.pre6 enc Try.prog Try.f13 Rows.autoTreesRow.domain false) (Rows.autoTreesSpec.post enc Try.prog Try.f13 false true false false) := by
  refine returnsInHanded_of_change_sized (C := Try.checked) own_trees started (by kernel_rfl) Try.func13
    (ChangeSpec.witness6 (enc := enc) (C := Try.checked) false ⟨#[], #[.agg #[.int .i64 0, .slice none 0 0], .int .i64 0, .int .i64 0, .bool false, .slice none 0 0, .int .i64 0], []⟩ 8 (by kernel_rfl) (by kernel_rfl) (by kernel_rfl) (by kernel_rfl)) ?_
  intro W base args ds gs before hval0 hW hcnd hsz0 _
  have hval : ∀ (j : Nat) t v, Try.f13.params[j]? = some t → args[j]? = some v → Value.okWide Try.prog W .any base t v := hval0
  have hsz : (DataW.weightsEach Try.prog (Try.f13.params.toList ++ Rows.autoTreesSpec.plain.varTypes Try.prog) (ds ++ gs)).all (· ≤ reachBytes) = true := hsz0
  have hW' := hW
  obtain ⟨p, q, hA0, hV, rfl, hfz, hnd⟩ := hW
  have hA : DataW.TrodAll enc Try.prog W 0 (fun _ => true) true Try.f13.params.toList args.toList ds p := hA0
  rw [Try.params13] at hA hval hsz
  obtain ⟨v0, vs0, d0, ds0, p0, q0, hargs, rfl, rfl, h0, r0⟩ := trodAll_cons hA
  obtain ⟨v1, vs1, d1, ds1, p1, q1, rfl, rfl, rfl, h1, r1⟩ := trodAll_cons r0
  obtain ⟨v2, vs2, d2, ds2, p2, q2, rfl, rfl, rfl, h2, r2⟩ := trodAll_cons r1
  obtain ⟨v3, vs3, d3, ds3, p3, q3, rfl, rfl, rfl, h3, r3⟩ := trodAll_cons r2
  obtain ⟨v4, vs4, d4, ds4, p4, q4, rfl, rfl, rfl, h4, r4⟩ := trodAll_cons r3
  obtain ⟨v5, vs5, d5, ds5, p5, q5, rfl, rfl, rfl, h5, r5⟩ := trodAll_cons r4
  obtain ⟨rfl, rfl, rfl⟩ := trodAll_nil r5
  obtain rfl : args = #[v0, v1, v2, v3, v4, v5] := by cases args; simp_all
  obtain ⟨rfl, rfl⟩ := trodVars_none hV
  have s0 : sz Try.prog 24 d0 := sz_arg hsz (j := 0) rfl rfl
  obtain ⟨n0, A0, rs0, c0, rfl, hC0, hw0⟩ := arg_group (hval 0 24 v0 rfl rfl) h0 s0
  have k0 := h0
  have lt0 : ∀ x ∈ p0, x.block < W.heap.size := by obtain ⟨m, hm⟩ := k0; exact DataW.trod_lt m _ _ _ hm
  obtain ⟨i1, rfl, rfl, rfl, hw1⟩ := open_int Try.underlying3 (hval 1 3 v1 rfl rfl) h1
  obtain ⟨i2, rfl, rfl, rfl, hw2⟩ := open_int Try.underlying3 (hval 2 3 v2 rfl rfl) h2
  obtain ⟨i3, rfl, rfl, rfl⟩ := open_bool Try.underlying4 (hval 3 4 v3 rfl rfl) h3
  have s4 : sz Try.prog 79 d4 := sz_arg hsz (j := 4) rfl rfl
  obtain ⟨D4, xs4, f4, rfl, hC4⟩ := arg_tree (hval 4 79 v4 rfl rfl) h4 s4
  have k4 := h4
  have lt4 : ∀ x ∈ p4, x.block < W.heap.size := by obtain ⟨m, hm⟩ := k4; exact DataW.trod_lt m _ _ _ hm
  obtain ⟨i5, rfl, rfl, rfl, hw5⟩ := open_int Try.underlying3 (hval 5 3 v5 rfl rfl) h5
  clear hA0 hval0
  refine (walk_trees n0 A0 c0 rs0 i1 i2 i3 D4 f4 xs4 i5 W hC0 hC4).mono fun e W' ⟨he, bel⟩ => ?_
  subst he
  exact ⟨_, rfl, _, _, _, [], _, [], hW', trodAll_mk1 (shut_bool Try.underlying4 _), (trodAll_cons_mk (Below.trod laid_trees (by kernel_rfl) (of_decide_eq_true (by kernel_rfl)) k0 bel lt0) (trodAll_cons_mk (shut_int Try.underlying3 hw1) (trodAll_cons_mk (shut_int Try.underlying3 hw2) (trodAll_cons_mk (shut_bool Try.underlying4 _) (trodAll_cons_mk (Below.trod laid_trees (by kernel_rfl) (of_decide_eq_true (by kernel_rfl)) k4 bel lt4) (trodAll_cons_mk (shut_int Try.underlying3 hw5) trodAll_mk0)))))), rfl, bel.frame _, fun h => by cases h⟩

theorem trees_holds : Rows.AutoTreesSaid :=
  OpenClaim.holds_of_wide 13 Try.f13 rfl rfl rfl rfl rfl rfl rfl ⟨rfl, rfl, rfl, rfl, rfl⟩ rfl rfl rfl rfl rfl (by kernel_rfl) Try.func13 (by kernel_rfl)
    (of_decide_eq_true (by kernel_rfl)) (by unfold Func.isWrapper; first | (rw [if_pos (by decide +kernel)]; kernel_rfl) | (rw [if_neg (by decide +kernel)]; exact ⟨rfl, rfl⟩))
    (fun os started H enc _ => lifted_trees os started H enc)
#print axioms trees_holds
end Go.Proofs.Ytlnonadkdonhmaa
