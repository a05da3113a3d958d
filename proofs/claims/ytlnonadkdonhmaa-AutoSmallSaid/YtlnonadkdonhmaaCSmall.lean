/- AutoSmall returns true for every group, two machines and word, and leaves its arguments as they were. No condition. -/
import Derived.Test.YtlnonadkdonhmaaL37
import Derived.Test.YtlnonadkdonhmaaL33
import Derived.Test.YtlnonadkdonhmaaL35
import Derived.Test.YtlnonadkdonhmaaL34
import Derived.Test.YtlnonadkdonhmaaL9
import Derived.Test.YtlnonadkdonhmaaL1
import Derived.Test.YtlnonadkdonhmaaL11
import Derived.Test.YtlnonadkdonhmaaL36
import Derived.Test.YtlnonadkdonhmaaL10
import Derived.Test.YtlnonadkdonhmaaRows

/- The walk of AutoSmall. -/
namespace Go.Proofs.Ytlnonadkdonhmaa
open Go.RowKit Go.Maps

/-- What AutoSmall asks of the least machine. -/
structure SmallOk (n : Int) (rs : List Int) (m : Mach) (word : List Lt) (M : Mach) (C : List Int) : Prop where
  formed : formedA n rs M = true
  formedR : formedR n rs M = true
  compact : compactB M = true
  clen : C.length = m.length
  le : M.length ≤ m.length
  pos : 1 ≤ M.length
  go : (goTo rs M 0 word word.length).1 = (goTo rs m 0 word word.length).1
  cls : ∃ s t : Nat, (goTo rs m 0 word word.length).2 = (s : Int) ∧ (goTo rs M 0 word word.length).2 = (t : Int) ∧ C[s]? = some (t : Int)
  apart : ∀ i k, Sim M M i k → i = k
  small : ∀ o, formedA n rs o = true → Sim M o 0 0 → M.length ≤ o.length
theorem small_ok {n : Int} {rs : List Int} {m : Mach} {word : List Lt} (hf : formedA n rs m = true) (hw : word.all (letterB n) = true) : SmallOk n rs m word (leastM m) (leastC m) := by
  have hF := least_formed hf
  obtain ⟨h1, h2, h3⟩ := least_go hf hw
  have hs0 : stateB (leastM m) 0 = true := by
    have := (formed_len hF).1
    simp only [stateB, Bool.and_eq_true, decide_eq_true_eq]
    omega
  have ht := goTo_ok hF hs0 hw word.length (Nat.le_refl _)
  simp only [stateB, Bool.and_eq_true, decide_eq_true_eq] at ht
  obtain ⟨s, hs⟩ := Int.eq_ofNat_of_zero_le h2
  obtain ⟨t, ht'⟩ := Int.eq_ofNat_of_zero_le ht.1
  refine ⟨hF, by rw [← formed_eq _ (formed_grp hF)]; exact hF, formed_compact hF, leastC_len m, leastM_le hf, (formed_len hF).1, h1, ⟨s, t, hs, ht', ?_⟩, fun i k => least_apart hf, fun o => least_small hf⟩
  rw [hs, ht', Int.toNat_natCast] at h3
  exact h3
/-- Apart on the least machine. -/
theorem small_apart {n : Int} {rs : List Int} {m : Mach} {word : List Lt} {M : Mach} {C : List Int} (h : SmallOk n rs m word M C) {i k : Nat} (hi : i < M.length) (hk : k < M.length) (hne : i ≠ k) : ∃ R, ShortOk n rs M i k R true := by
  obtain ⟨R, I, hI⟩ := short_ok h.formed hi hk
  have := hI.sim.2 fun hs => hne (h.apart i k hs)
  subst this
  exact ⟨R, hI⟩


set_option maxRecDepth 100000 in
set_option maxHeartbeats 16000000 in
theorem walk_small (n : Int) (A : Option Addr) (c : Nat) (rs : List Int) (B : Option Addr) (d : Nat) (m : Mach) (B2 : Option Addr) (d2 : Nat) (o : Mach) (D : Option Addr) (f : Nat) (word : List Lt) (w : World) (hA : Cells w A (ints rs)) (hM : MachAt w B m) (hM2 : MachAt w B2 o) (hD : Cells w D (lts word)) :
    Calls Try.prog 16 #[.agg #[.int .i64 n, .slice A rs.length c], .agg #[.slice B m.length d], .agg #[.slice B2 o.length d2], .slice D word.length f] w fun e w' => e = .returned (.bool true) ∧ Below w.heap.size w w' := by
  have hgm := gm_new w n A rs.length c B m.length d
  have hg3 := hgm.g.alloc (.cells #[.slice B2 o.length d2] 27)
  have hm3 := hgm.m.alloc (.cells #[.slice B2 o.length d2] 27)
  have ho3 := Blk.new (gbox w n A rs.length c B m.length d) (.cells #[.slice B2 o.length d2] 27)
  have hsz : (gbox w n A rs.length c B m.length d).heap.size = w.heap.size + 2 := by simp [gbox]
  rw [hsz] at ho3
  have HB0 : Hid (Below w.heap.size w ((gbox w n A rs.length c B m.length d).alloc (.cells #[.slice B2 o.length d2] 27))) := (gbox_below w n A rs.length c B m.length d).alloc (by rw [hsz]; omega) _
  go_enter Try.func16, Try.ntmps16
  go_wp2_with fail
  obtain ⟨W, hW⟩ : ∃ W, (gbox w n A rs.length c B m.length d).alloc (.cells #[.slice B2 o.length d2] 27) = W := ⟨_, rfl⟩
  have hW' : ((w.alloc (.cells #[.int .i64 n, .slice A rs.length c] 24)).alloc (.cells #[.slice B m.length d] 27)).alloc (.cells #[.slice B2 o.length d2] 27) = W := hW
  rw [hW] at HB0 hg3 hm3 ho3
  rw [hW']
  have HA0 := Lib.hid (hA.below HB0.out (Nat.le_refl _))
  have HM0 := Lib.hid (hM.below HB0.out (Nat.le_refl _))
  have HO0 := Lib.hid (hM2.below HB0.out (Nat.le_refl _))
  have HD0 := Lib.hid (hD.below HB0.out (Nat.le_refl _))
  have HCG := Lib.hid (And.intro (hg3.cell 0 (v := .int .i64 n) rfl) (hg3.cell 1 (v := .slice A rs.length c) rfl))
  have HCM := Lib.hid (hm3.cell 0 (v := .slice B m.length d) rfl)
  have HCO := Lib.hid (ho3.cell 0 (v := .slice B2 o.length d2) rfl)
  have HL0 := Lib.hid hg3.lt
  have HL1 := Lib.hid hm3.lt
  have HL2 := Lib.hid ho3.lt
  clear hW hW' hgm hg3 hm3 ho3 hsz
  refine (small_any n A rs.length c W).mono ?_
  rintro e w1 ⟨rfl, hB1⟩
  have HI1 := Lib.hid hB1
  obtain ⟨bs, HS⟩ : ∃ b, Hid (decide (rs.length ≤ 30) = b) := ⟨_, rfl⟩
  rw [HS.out]
  clear hB1
  cases bs with
  | false =>
    go_wp2_with (go_at_call 20; go_must (refine (known_any _).mono ?_); rintro e wz ⟨rfl, hBz⟩)
    go_ret
    exact ⟨rfl, below_in HB0.out (below_in HI1.out hBz)⟩
  | true =>
  have x2 := cell_chain HI1.out HL1.out HCM.out
  go_wp2_with fail
  refine (compact_any B d m w1 (HM0.out.below HI1.out (Nat.le_refl _))).mono ?_
  rintro e w2 ⟨rfl, hB2⟩
  have HI2 := Lib.hid (below_in HI1.out hB2)
  obtain ⟨bs, HC⟩ : ∃ b, Hid (compactB m = b) := ⟨_, rfl⟩
  rw [HC.out]
  clear hB2 x2
  cases bs with
  | false =>
    go_wp2_with (go_at_call 20; go_must (refine (known_any _).mono ?_); rintro e wz ⟨rfl, hBz⟩)
    go_ret
    exact ⟨rfl, below_in HB0.out (below_in HI2.out hBz)⟩
  | true =>
  have x2 := cell_chain HI2.out HL2.out HCO.out
  go_wp2_with fail
  refine (compact_any B2 d2 o w2 (HO0.out.below HI2.out (Nat.le_refl _))).mono ?_
  rintro e w3 ⟨rfl, hB3⟩
  have HI3 := Lib.hid (below_in HI2.out hB3)
  obtain ⟨bs, HCO2⟩ : ∃ b, Hid (compactB o = b) := ⟨_, rfl⟩
  rw [HCO2.out]
  clear hB3 x2
  cases bs with
  | false =>
    go_wp2_with (go_at_call 20; go_must (refine (known_any _).mono ?_); rintro e wz ⟨rfl, hBz⟩)
    go_ret
    exact ⟨rfl, below_in HB0.out (below_in HI3.out hBz)⟩
  | true =>
  have x0 := cell_chain HI3.out HL0.out HCG.out.1
  have x1 := cell_chain HI3.out HL0.out HCG.out.2
  have x2 := cell_chain HI3.out HL1.out HCM.out
  go_wp2_with fail
  refine (lawFormed_any n A c rs B d m w3 (HA0.out.below HI3.out (Nat.le_refl _)) (HM0.out.below HI3.out (Nat.le_refl _))).mono ?_
  rintro e w4 ⟨rfl, hB4⟩
  have HI4 := Lib.hid (below_in HI3.out hB4)
  obtain ⟨bs, HF⟩ : ∃ b, Hid (formedA n rs m = b) := ⟨_, rfl⟩
  rw [HF.out]
  clear hB4 x0 x1 x2
  cases bs with
  | false =>
    go_wp2_with (go_at_call 20; go_must (refine (known_any _).mono ?_); rintro e wz ⟨rfl, hBz⟩)
    go_ret
    exact ⟨rfl, below_in HB0.out (below_in HI4.out hBz)⟩
  | true =>
  obtain ⟨hn1, hn6, _, _⟩ := grpOk_true (formed_grp HF.out)
  have x0 := cell_chain HI4.out HL0.out HCG.out.1
  have x1 := cell_chain HI4.out HL0.out HCG.out.2
  go_wp2_with fail
  refine (word_any n A rs.length c D f word w4 (by omega) (by omega) (HD0.out.below HI4.out (Nat.le_refl _))).mono ?_
  rintro e w5 ⟨rfl, hB5⟩
  have HI5 := Lib.hid (below_in HI4.out hB5)
  obtain ⟨bs, HWB⟩ : ∃ b, Hid (wordB n word = b) := ⟨_, rfl⟩
  rw [HWB.out]
  clear hB5 x0 x1
  cases bs with
  | false =>
    go_wp2_with (go_at_call 20; go_must (refine (known_any _).mono ?_); rintro e wz ⟨rfl, hBz⟩)
    go_ret
    exact ⟨rfl, below_in HB0.out (below_in HI5.out hBz)⟩
  | true =>
  have hwb := HWB.out
  simp only [wordB, Bool.and_eq_true, decide_eq_true_eq] at hwb
  have HWA := Lib.hid hwb.1
  have HWL := Lib.hid hwb.2
  clear hwb
  have hOK := small_ok HF.out HWA.out
  have x0 := cell_chain HI5.out HL0.out HCG.out.1
  have x1 := cell_chain HI5.out HL0.out HCG.out.2
  have x2 := cell_chain HI5.out HL1.out HCM.out
  go_wp2_with fail
  refine (Least_any n A c rs B d m w5 (HA0.out.below HI5.out (Nat.le_refl _)) (HM0.out.below HI5.out (Nat.le_refl _))).mono ?_
  rintro e w6 ⟨A6, c6, C6, d6, rfl, hM6, hC6, hB6⟩
  have e1 : leastMR n rs m = leastM m := by unfold leastMR; rw [if_pos HF.out]
  have e2 : leastCR n rs m = leastC m := by unfold leastCR; rw [if_pos HF.out]
  have e3 : errI (formedA n rs m) = 0 := by rw [HF.out]; rfl
  rw [e1] at hM6 ⊢
  rw [e2] at hC6 ⊢
  rw [e3]
  obtain ⟨M, HMl⟩ : ∃ M, Hid (leastM m = M) := ⟨_, rfl⟩
  obtain ⟨C, HCl⟩ : ∃ C, Hid (leastC m = C) := ⟨_, rfl⟩
  rw [HMl.out] at hM6 hOK ⊢
  rw [HCl.out] at hC6 hOK ⊢
  have HI6 := Lib.hid (below_in HI5.out hB6)
  have HOK := Lib.hid hOK
  clear e1 e2 e3 x0 x1 x2 hB6 hOK HMl HCl
  have hlM : M.length ≤ 64 := (formed_len HOK.out.formed).2
  have hlm : m.length ≤ 64 := (formed_len HF.out).2
  have hbV := Blk.new w6 (.cells #[.slice A6 M.length c6] 27)
  have HBV : Hid (Below W.heap.size W (w6.alloc (.cells #[.slice A6 M.length c6] 27))) := below_in HI6.out ((Below.refl _ w6).alloc (Nat.le_refl _) _)
  have HMV := Lib.hid (hM6.below ((Below.refl _ w6).alloc (Nat.le_refl _) (.cells #[.slice A6 M.length c6] 27)) (Nat.le_refl _))
  have HCV := Lib.hid (hC6.below ((Below.refl _ w6).alloc (Nat.le_refl _) (.cells #[.slice A6 M.length c6] 27)) (Nat.le_refl _))
  clear hM6 hC6
  go_wp2_with fail
  obtain ⟨V, hV⟩ : ∃ V, w6.alloc (.cells #[.slice A6 M.length c6] 27) = V := ⟨_, rfl⟩
  rw [hV] at HBV HMV HCV hbV ⊢
  have HSV : Hid (V.heap.size = w6.heap.size + 1) := by show _ = _; rw [← hV]; simp
  obtain ⟨bx, hbx⟩ : ∃ bx, w6.heap.size = bx := ⟨_, rfl⟩
  have HBX : Hid (W.heap.size ≤ bx) := by show _ ≤ _; rw [← hbx]; exact HI6.out.size
  rw [hbx] at hbV ⊢
  have HXV := Lib.hid (hbV.cell 0 (v := .slice A6 M.length c6) rfl)
  have HLX := Lib.hid hbV.lt
  clear hV hbx hbV HSV
  have hs0 : stateB m 0 = true := by
    have := (formed_len HF.out).1
    simp only [stateB, Bool.and_eq_true, decide_eq_true_eq]
    omega
  have hs0' : stateB M 0 = true := by
    have := HOK.out.pos
    simp only [stateB, Bool.and_eq_true, decide_eq_true_eq]
    omega
  have HS0 := Lib.hid hs0
  have HS0' := Lib.hid hs0'
  clear hs0 hs0'
  -- region 4
  refine (compact_any A6 c6 M V HMV.out).mono ?_
  rintro e v1 ⟨rfl, hB1⟩
  rw [HOK.out.compact]
  have HV1 := Lib.hid hB1
  have HW1 := Lib.hid (below_in HBV.out hB1)
  clear hB1
  have x0 := cell_chain HW1.out HL0.out HCG.out.1
  have x1 := cell_chain HW1.out HL0.out HCG.out.2
  have xx := cell_chain HV1.out HLX.out HXV.out
  go_wp2_with fail
  refine (FormedR_any n A c rs A6 c6 M v1 (HA0.out.below HW1.out (Nat.le_refl _)) (HMV.out.below HV1.out (Nat.le_refl _)) (by omega)).mono ?_
  rintro e v2 ⟨rfl, hB2⟩
  rw [HOK.out.formedR]
  have HV2 := Lib.hid (below_in HV1.out hB2)
  have HW2 := Lib.hid (below_in HBV.out HV2.out)
  clear hB2 x0 x1 xx
  have x0 := cell_chain HW2.out HL0.out HCG.out.1
  have x1 := cell_chain HW2.out HL0.out HCG.out.2
  have x2 := cell_chain HW2.out HL1.out HCM.out
  have xx := cell_chain HV2.out HLX.out HXV.out
  have hcl : ((C.length : Int) != (m.length : Int)) = false := by rw [HOK.out.clen]; exact bne_self_eq_false _
  have hle : decide ((m.length : Int) < (M.length : Int)) = false := by have := HOK.out.le; simp; omega
  have hle2 : decide (m.length < M.length) = false := by have := HOK.out.le; simp; omega
  go_wp2_with fail
  refine (RefGo_any n A c rs B d m 0 D f word v2 (HA0.out.below HW2.out (Nat.le_refl _)) (HM0.out.below HW2.out (Nat.le_refl _)) (HD0.out.below HW2.out (Nat.le_refl _)) HF.out HS0.out HWA.out (Nat.le_trans HWL.out (by decide))).mono ?_
  rintro e v3 ⟨A3, c3, rfl, hC3, hB3⟩
  have HV3 := Lib.hid (below_in HV2.out hB3)
  have HW3 := Lib.hid (below_in HBV.out HV3.out)
  have HC3 := Lib.hid hC3
  clear hB3 hC3 x0 x1 x2 xx hcl hle hle2
  have x0 := cell_chain HW3.out HL0.out HCG.out.1
  have x1 := cell_chain HW3.out HL0.out HCG.out.2
  have xx := cell_chain HV3.out HLX.out HXV.out
  go_wp2_with fail
  refine (RefGo_any n A c rs A6 c6 M 0 D f word v3 (HA0.out.below HW3.out (Nat.le_refl _)) (HMV.out.below HV3.out (Nat.le_refl _)) (HD0.out.below HW3.out (Nat.le_refl _)) HOK.out.formed HS0'.out HWA.out (Nat.le_trans HWL.out (by decide))).mono ?_
  rintro e v4 ⟨A4, c4, rfl, hC4, hB4⟩
  rw [HOK.out.go] at hC4
  obtain ⟨s, t, hs, ht, hst⟩ := HOK.out.cls
  rw [hs, ht]
  have HV4 := Lib.hid (below_in HV3.out hB4)
  have HW4 := Lib.hid (below_in HBV.out HV4.out)
  have HC34 := Lib.hid (HC3.out.below hB4 (Nat.le_refl _))
  have HC4 := Lib.hid hC4
  have hrl := goTo_len rs m 0 word word.length
  have HCC := Lib.hid (HCV.out.below HV4.out (Nat.le_refl _))
  obtain ⟨X, HX⟩ : ∃ X, Hid ((goTo rs m 0 word word.length).1 = X) := ⟨_, rfl⟩
  rw [HX.out] at HC34 HC4 hrl
  have hwl := HWL.out
  have hxl : X.length ≤ 60 := by omega
  have HST := Lib.hid hst
  rw [← hrl]
  clear hB4 hC4 x0 x1 xx hs ht HX hrl hst hwl
  go_wp2_with fail
  refine (Ints_refl X A3 A4 c3 c4 v4 HC34.out HC4.out).mono ?_
  rintro e v5 ⟨rfl, hB5⟩
  have HV5 := Lib.hid (below_in HV4.out hB5)
  have HW5 := Lib.hid (below_in HBV.out HV5.out)
  have hst := HST.out
  have hsl := (List.getElem?_eq_some_iff.1 hst).1
  obtain ⟨z, b5, o5, hz5, hb5, hix, hc5⟩ := ints_at (c := d6) (HCC.out.below hB5 (Nat.le_refl _)) Try.underlying22 szInt hsl
  obtain rfl : z = (t : Int) := by rw [hz5] at hst; injection hst
  clear hB5 hst hz5
  have htt : ((t : Int) != (t : Int)) = false := bne_self_eq_false _
  have xx := cell_chain HV5.out HLX.out HXV.out
  go_wp2
  clear hix hb5 hc5 htt xx
  have x0 := cell_chain HW5.out HL0.out HCG.out.1
  go_loopw [113] (fun i wr => ∃ k : Nat, i = .int .i64 k ∧ k ≤ M.length ∧ Below V.heap.size V wr) (fun i _ => M.length - (intOf i).toNat)
  case atStart => exact ⟨0, rfl, Nat.zero_le _, HV5.out⟩
  case round =>
    obtain ⟨i, rfl, hi, hBq⟩ := hrel
    obtain ⟨wq, rfl⟩ : ∃ wq : World, wq = wr := ⟨_, rfl⟩
    have HVQ := Lib.hid hBq
    clear hBq x0
    by_cases hiM : i < M.length
    · have yy := hiM
      go_wp2
      go_loopw [117] (fun z wr => ∃ k : Nat, z = .int .i64 k ∧ k ≤ i ∧ Below V.heap.size V wr) (fun z _ => i - (intOf z).toNat)
      case atStart => exact ⟨0, rfl, Nat.zero_le _, HVQ.out⟩
      case round =>
        obtain ⟨k, rfl, hk, hBr⟩ := hrel
        have HVR := Lib.hid hBr
        clear hBr
        by_cases hki : k < i
        · have hkM : k < M.length := by omega
          have HWR := Lib.hid (below_in HBV.out HVR.out)
          have x0 := cell_chain HWR.out HL0.out HCG.out.1
          have x1 := cell_chain HWR.out HL0.out HCG.out.2
          have xx := cell_chain HVR.out HLX.out HXV.out
          have lx0 := Nat.lt_of_lt_of_le HL0.out HWR.out.size
          have lxx := Nat.lt_of_lt_of_le HLX.out HVR.out.size
          have HMR := Lib.hid (HMV.out.below HVR.out (Nat.le_refl _))
          go_wp2
          refine draw (fun w' => Below wr.heap.size wr w') 8 rfl (by kernel_rfl) (fun Qd hQd => ?_)
          apply anyI_step 0 rfl (by kernel_rfl)
          focus (intro wI hI Kv hKv; have t0 := cell_chain hI lx0 x0; have t1 := cell_chain hI lx0 x1; have t2 := cell_chain hI lxx xx; go_simp; exact hKv)
          intro Kd hKd
          go_simp
          refine hKd _ ?_
          clear hKd Kd
          apply anyI_step 1 rfl (by kernel_rfl)
          focus (intro wI hI Kv hKv; have t0 := cell_chain hI lx0 x0; have t1 := cell_chain hI lx0 x1; have t2 := cell_chain hI lxx xx; go_simp; exact hKv)
          intro Kd hKd
          go_simp
          refine hKd _ ?_
          clear hKd Kd
          apply anyI_step 2 rfl (by kernel_rfl)
          focus (intro wI hI Kv hKv; have t0 := cell_chain hI lx0 x0; have t1 := cell_chain hI lx0 x1; have t2 := cell_chain hI lxx xx; go_simp; exact hKv)
          intro Kd hKd
          go_simp
          refine hKd _ ?_
          clear hKd Kd
          apply anyI_step 4 rfl (by kernel_rfl)
          focus (intro wI hI Kv hKv; have t0 := cell_chain hI lx0 x0; have t1 := cell_chain hI lx0 x1; have t2 := cell_chain hI lxx xx; go_simp; exact hKv)
          intro Kd hKd
          go_simp
          refine hKd _ ?_
          clear hKd Kd
          apply anyI_step 5 rfl (by kernel_rfl)
          focus (intro wI hI Kv hKv; have t0 := cell_chain hI lx0 x0; have t1 := cell_chain hI lx0 x1; have t2 := cell_chain hI lxx xx; go_simp; exact hKv)
          intro Kd hKd
          go_simp
          refine hKd _ ?_
          clear hKd Kd
          refine anyI_one' 3 rfl (by kernel_rfl) ((Below.refl _ _).drew) (fun Kd hKd => ?_)
          go_wp2_with (go_at_call 42; go_must (refine (from_any n rs A6 c6 M i _ (by exact HMR.out.drew) HOK.out.formed hiM).mono ?_); rintro e w7 ⟨A7, c7, rfl, hM7, hB7⟩)
          have HB7 : Hid (Below wr.heap.size wr w7) := (Below.refl _ wr).drew.trans hB7
          have HM7 := Lib.hid hM7
          clear hB7 hM7
          refine anyI_one' 6 rfl (by kernel_rfl) (HB7.out) (fun Kd hKd => ?_)
          go_wp2_with (go_at_call 42; go_must (refine (from_any n rs A6 c6 M k _ (HMR.out.below HB7.out (Nat.le_refl _)) HOK.out.formed hkM).mono ?_); rintro e w8 ⟨A8, c8, rfl, hM8, hB8⟩)
          have HB8 : Hid (Below wr.heap.size wr w8) := below_in HB7.out hB8
          have HM78 := Lib.hid (HM7.out.below hB8 (Nat.le_refl _))
          have HM8 := Lib.hid hM8
          clear hB8 hM8
          refine anyI_one' 7 rfl (by kernel_rfl) (HB8.out) (fun Kd hKd => ?_)
          go_wp2_with (go_at_call 41; go_must (refine (alike_any n A c rs A7 c7 (fromM M i) A8 c8 (fromM M k) _ HM78.out HM8.out (fromM_formed HOK.out.formed hiM) (fromM_formed HOK.out.formed hkM)).mono ?_); rintro e w9 ⟨z, rfl, hz, hB9⟩)
          have hzf : z = false := by
            cases z with
            | false => rfl
            | true =>
              have := HOK.out.apart i k ((from_sim HOK.out.formed hiM hkM).1 (hz.1 rfl))
              omega
          subst hzf
          have HB9 : Hid (Below wr.heap.size wr w9) := below_in HB8.out hB9
          clear hz hB9
          refine anyI_end (by kernel_rfl) (HB9.out) (hQd _ _ ?_)
          clear hQd Qd
          clear x0 x1 xx lx0 lxx
          have HV9 := Lib.hid (below_in HVR.out HB9.out)
          have HW9 := Lib.hid (below_in HBV.out HV9.out)
          have x0 := cell_chain HW9.out HL0.out HCG.out.1
          have x1 := cell_chain HW9.out HL0.out HCG.out.2
          have xx := cell_chain HV9.out HLX.out HXV.out
          by_cases hskip : 10 < M.length ∧ 0 < k ∧ (k : Int) < (i : Int) - 1
          · obtain ⟨q1, q2, q3⟩ := hskip
            have q1' : decide ((10 : Int) < (M.length : Int)) = true := by simp; omega
            have q1'' : decide (10 < M.length) = true := by simp; omega
            have q2' : decide ((0 : Int) < (k : Int)) = true := by simp; omega
            have q2'' : decide (0 < k) = true := by simp; omega
            have q3' : decide ((k : Int) < (i : Int) - 1) = true := by simp; omega
            clear q1 q2 q3
            go_wp2
            go_roundw
            case rel => exact ⟨k + 1, by go_num, by omega, HV9.out⟩
            case measure => simp [intOf]; omega
          · obtain ⟨R, hAP⟩ := small_apart HOK.out hiM hkM (by omega)
            have HAPE := Lib.hid hAP.ap
            have HTL := Lib.hid (hAP.tells rfl)
            clear hAP
            by_cases q1 : 10 < M.length
            · have q1' : decide ((10 : Int) < (M.length : Int)) = true := by simp; omega
              have q1'' : decide (10 < M.length) = true := by simp; omega
              by_cases q2 : 0 < k
              · have q2' : decide ((0 : Int) < (k : Int)) = true := by simp; omega
                have q2'' : decide (0 < k) = true := by simp; omega
                have q3' : decide ((k : Int) < (i : Int) - 1) = false := by
                  rw [decide_eq_false_iff_not]
                  exact fun h => hskip ⟨q1, q2, h⟩
                clear q1 q2 hskip
                go_wp2_with fail
                refine (Apart_any n A c rs A6 c6 M i k w9 (HA0.out.below HW9.out (Nat.le_refl _)) (HMV.out.below HV9.out (Nat.le_refl _))).mono ?_
                rintro e wa ⟨Aa, ca, rfl, hCa, hBa⟩
                rw [HAPE.out] at hCa ⊢
                simp only at hCa ⊢
                have HVa := Lib.hid (below_in HV9.out hBa)
                have HWa := Lib.hid (below_in HBV.out HVa.out)
                have HCa := Lib.hid hCa
                clear hCa hBa x0 x1 xx
                have x0 := cell_chain HWa.out HL0.out HCG.out.1
                have x1 := cell_chain HWa.out HL0.out HCG.out.2
                have xx := cell_chain HVa.out HLX.out HXV.out
                go_wp2_with fail
                refine (tells_any n A c rs A6 c6 M Aa ca R i k wa (HA0.out.below HWa.out (Nat.le_refl _)) (HMV.out.below HVa.out (Nat.le_refl _)) HCa.out HOK.out.formed hiM hkM).mono ?_
                rintro e wb ⟨rfl, hBb⟩
                rw [HTL.out]
                have HVb := Lib.hid (below_in HVa.out hBb)
                clear hBb x0 x1 xx
                go_wp2
                go_roundw
                case rel => exact ⟨k + 1, by go_num, by omega, HVb.out⟩
                case measure => simp [intOf]; omega
              · have q2' : decide ((0 : Int) < (k : Int)) = false := by simp; omega
                have q2'' : decide (0 < k) = false := by simp; omega
                clear q1 q2 hskip
                go_wp2_with fail
                refine (Apart_any n A c rs A6 c6 M i k w9 (HA0.out.below HW9.out (Nat.le_refl _)) (HMV.out.below HV9.out (Nat.le_refl _))).mono ?_
                rintro e wa ⟨Aa, ca, rfl, hCa, hBa⟩
                rw [HAPE.out] at hCa ⊢
                simp only at hCa ⊢
                have HVa := Lib.hid (below_in HV9.out hBa)
                have HWa := Lib.hid (below_in HBV.out HVa.out)
                have HCa := Lib.hid hCa
                clear hCa hBa x0 x1 xx
                have x0 := cell_chain HWa.out HL0.out HCG.out.1
                have x1 := cell_chain HWa.out HL0.out HCG.out.2
                have xx := cell_chain HVa.out HLX.out HXV.out
                go_wp2_with fail
                refine (tells_any n A c rs A6 c6 M Aa ca R i k wa (HA0.out.below HWa.out (Nat.le_refl _)) (HMV.out.below HVa.out (Nat.le_refl _)) HCa.out HOK.out.formed hiM hkM).mono ?_
                rintro e wb ⟨rfl, hBb⟩
                rw [HTL.out]
                have HVb := Lib.hid (below_in HVa.out hBb)
                clear hBb x0 x1 xx
                go_wp2
                go_roundw
                case rel => exact ⟨k + 1, by go_num, by omega, HVb.out⟩
                case measure => simp [intOf]; omega
            · have q1' : decide ((10 : Int) < (M.length : Int)) = false := by simp; omega
              have q1'' : decide (10 < M.length) = false := by simp; omega
              clear q1 hskip
              go_wp2_with fail
              refine (Apart_any n A c rs A6 c6 M i k w9 (HA0.out.below HW9.out (Nat.le_refl _)) (HMV.out.below HV9.out (Nat.le_refl _))).mono ?_
              rintro e wa ⟨Aa, ca, rfl, hCa, hBa⟩
              rw [HAPE.out] at hCa ⊢
              simp only at hCa ⊢
              have HVa := Lib.hid (below_in HV9.out hBa)
              have HWa := Lib.hid (below_in HBV.out HVa.out)
              have HCa := Lib.hid hCa
              clear hCa hBa x0 x1 xx
              have x0 := cell_chain HWa.out HL0.out HCG.out.1
              have x1 := cell_chain HWa.out HL0.out HCG.out.2
              have xx := cell_chain HVa.out HLX.out HXV.out
              go_wp2_with fail
              refine (tells_any n A c rs A6 c6 M Aa ca R i k wa (HA0.out.below HWa.out (Nat.le_refl _)) (HMV.out.below HVa.out (Nat.le_refl _)) HCa.out HOK.out.formed hiM hkM).mono ?_
              rintro e wb ⟨rfl, hBb⟩
              rw [HTL.out]
              have HVb := Lib.hid (below_in HVa.out hBb)
              clear hBb x0 x1 xx
              go_wp2
              go_roundw
              case rel => exact ⟨k + 1, by go_num, by omega, HVb.out⟩
              case measure => simp [intOf]; omega
        · obtain rfl : k = i := by omega
          go_wp2
          go_roundw
          case rel => exact ⟨k + 1, by go_num, by omega, HVR.out⟩
          case measure => simp [intOf]; omega
    · obtain rfl : i = M.length := by omega
      have HWQ := Lib.hid (below_in HBV.out HVQ.out)
      have x0 := cell_chain HWQ.out HL0.out HCG.out.1
      have x1 := cell_chain HWQ.out HL0.out HCG.out.2
      have x2 := cell_chain HWQ.out HL2.out HCO.out
      go_wp2_with fail
      refine (lawFormed_any n A c rs B2 d2 o wq (HA0.out.below HWQ.out (Nat.le_refl _)) (HO0.out.below HWQ.out (Nat.le_refl _))).mono ?_
      rintro e v6 ⟨rfl, hB6⟩
      have HV6 := Lib.hid (below_in HVQ.out hB6)
      have HW6 := Lib.hid (below_in HBV.out HV6.out)
      clear hB6 x0 x1 x2
      obtain ⟨bo, HFO⟩ : ∃ b, Hid (formedA n rs o = b) := ⟨_, rfl⟩
      rw [HFO.out]
      cases bo with
      | false =>
        go_wp2_with (go_at_call 20; go_must (refine (known_any _).mono ?_); rintro e wz ⟨rfl, hBz⟩)
        go_ret
        exact ⟨rfl, below_in HB0.out (below_in HW6.out hBz)⟩
      | true =>
      have x0 := cell_chain HW6.out HL0.out HCG.out.1
      have x1 := cell_chain HW6.out HL0.out HCG.out.2
      have x2 := cell_chain HW6.out HL2.out HCO.out
      have xx := cell_chain HV6.out HLX.out HXV.out
      go_wp2_with fail
      refine (alike_any n A c rs A6 c6 M B2 d2 o v6 (HMV.out.below HV6.out (Nat.le_refl _)) (HO0.out.below HW6.out (Nat.le_refl _)) HOK.out.formed HFO.out).mono ?_
      rintro e v7 ⟨z, rfl, hz, hB7⟩
      have HV7 := Lib.hid (below_in HV6.out hB7)
      have HW7 := Lib.hid (below_in HBV.out HV7.out)
      clear hB7 x0 x1 x2 xx
      cases z with
      | false =>
        clear hz
        go_wp2_with (go_at_call 20; go_must (refine (known_any _).mono ?_); rintro e wz ⟨rfl, hBz⟩)
        go_ret
        exact ⟨rfl, below_in HB0.out (below_in HW7.out hBz)⟩
      | true =>
        have hsm := HOK.out.small o HFO.out (hz.1 rfl)
        have hlo : o.length ≤ 64 := (formed_len HFO.out).2
        have q1 : decide ((o.length : Int) < (M.length : Int)) = false := by simp; omega
        have q2 : decide (o.length < M.length) = false := by simp; omega
        have x2 := cell_chain HW7.out HL2.out HCO.out
        have xx := cell_chain HV7.out HLX.out HXV.out
        clear hz hsm
        go_wp2_with (go_at_call 20; go_must (refine (known_any _).mono ?_); rintro e wz ⟨rfl, hBz⟩)
        go_ret
        exact ⟨rfl, below_in HB0.out (below_in HW7.out hBz)⟩
end Go.Proofs.Ytlnonadkdonhmaa

/- AutoSmall returns true for every group, two machines and word, and leaves its arguments as they were. No condition. -/
namespace Go.Proofs.Ytlnonadkdonhmaa
open Go.ChangeShapes Go.WideShapes Go.ChangeAt Go.RowKit

theorem own_small : ownKnob Try.prog.godebug = none := by kernel_rfl
theorem laid_small : laidOutB Try.prog = true := by kernel_rfl

set_option maxRecDepth 100000 in
theorem lifted_small (os : Os) (started : os.Started) (H : Type) (enc : TypeId × Value → H) :
    ReturnsInHanded {} Try.checked os 16 .any (Rows.autoSmallSpec.pre6 enc Try.prog Try.f16 Rows.autoSmallRow.domain false) (Rows.autoSmallSpec.post enc Try.prog Try.f16 false true false false) := by
  refine returnsInHanded_of_change_sized (C := Try.checked) own_small started (by kernel_rfl) Try.func16
    (ChangeSpec.witness6 (enc := enc) (C := Try.checked) false ⟨#[], #[.agg #[.int .i64 0, .slice none 0 0], .agg #[.slice none 0 0], .agg #[.slice none 0 0], .slice none 0 0], []⟩ 8 (by kernel_rfl) (by kernel_rfl) (by kernel_rfl) (by kernel_rfl)) ?_
  intro W base args ds gs before hval0 hW hcnd hsz0 _
  have hval : ∀ (j : Nat) t v, Try.f16.params[j]? = some t → args[j]? = some v → Value.okWide Try.prog W .any base t v := hval0
  have hsz : (DataW.weightsEach Try.prog (Try.f16.params.toList ++ Rows.autoSmallSpec.plain.varTypes Try.prog) (ds ++ gs)).all (· ≤ reachBytes) = true := hsz0
  have hW' := hW
  obtain ⟨p, q, hA0, hV, rfl, hfz, hnd⟩ := hW
  have hA : DataW.TrodAll enc Try.prog W 0 (fun _ => true) true Try.f16.params.toList args.toList ds p := hA0
  rw [Try.params16] at hA hval hsz
  obtain ⟨v0, vs0, d0, ds0, p0, q0, hargs, rfl, rfl, h0, r0⟩ := trodAll_cons hA
  obtain ⟨v1, vs1, d1, ds1, p1, q1, rfl, rfl, rfl, h1, r1⟩ := trodAll_cons r0
  obtain ⟨v2, vs2, d2, ds2, p2, q2, rfl, rfl, rfl, h2, r2⟩ := trodAll_cons r1
  obtain ⟨v3, vs3, d3, ds3, p3, q3, rfl, rfl, rfl, h3, r3⟩ := trodAll_cons r2
  obtain ⟨rfl, rfl, rfl⟩ := trodAll_nil r3
  obtain rfl : args = #[v0, v1, v2, v3] := by cases args; simp_all
  obtain ⟨rfl, rfl⟩ := trodVars_none hV
  have s0 : sz Try.prog 24 d0 := sz_arg hsz (j := 0) rfl rfl
  obtain ⟨n0, A0, rs0, c0, rfl, hC0, hw0⟩ := arg_group (hval 0 24 v0 rfl rfl) h0 s0
  have k0 := h0
  have lt0 : ∀ x ∈ p0, x.block < W.heap.size := by obtain ⟨m, hm⟩ := k0; exact DataW.trod_lt m _ _ _ hm
  have s1 : sz Try.prog 27 d1 := sz_arg hsz (j := 1) rfl rfl
  obtain ⟨B1, m1, e1, rfl, hC1⟩ := arg_mach (hval 1 27 v1 rfl rfl) h1 s1
  have k1 := h1
  have lt1 : ∀ x ∈ p1, x.block < W.heap.size := by obtain ⟨m, hm⟩ := k1; exact DataW.trod_lt m _ _ _ hm
  have s2 : sz Try.prog 27 d2 := sz_arg hsz (j := 2) rfl rfl
  obtain ⟨B2, m2, e2, rfl, hC2⟩ := arg_mach (hval 2 27 v2 rfl rfl) h2 s2
  have k2 := h2
  have lt2 : ∀ x ∈ p2, x.block < W.heap.size := by obtain ⟨m, hm⟩ := k2; exact DataW.trod_lt m _ _ _ hm
  have s3 : sz Try.prog 38 d3 := sz_arg hsz (j := 3) rfl rfl
  obtain ⟨D3, xs3, f3, rfl, hC3⟩ := arg_word (hval 3 38 v3 rfl rfl) h3 s3
  have k3 := h3
  have lt3 : ∀ x ∈ p3, x.block < W.heap.size := by obtain ⟨m, hm⟩ := k3; exact DataW.trod_lt m _ _ _ hm
  clear hA0 hval0
  refine (walk_small n0 A0 c0 rs0 B1 e1 m1 B2 e2 m2 D3 f3 xs3 W hC0 hC1 hC2 hC3).mono fun e W' ⟨he, bel⟩ => ?_
  subst he
  exact ⟨_, rfl, _, _, _, [], _, [], hW', trodAll_mk1 (shut_bool Try.underlying4 _), (trodAll_cons_mk (Below.trod laid_small (by kernel_rfl) (of_decide_eq_true (by kernel_rfl)) k0 bel lt0) (trodAll_cons_mk (Below.trod laid_small (by kernel_rfl) (of_decide_eq_true (by kernel_rfl)) k1 bel lt1) (trodAll_cons_mk (Below.trod laid_small (by kernel_rfl) (of_decide_eq_true (by kernel_rfl)) k2 bel lt2) (trodAll_cons_mk (Below.trod laid_small (by kernel_rfl) (of_decide_eq_true (by kernel_rfl)) k3 bel lt3) trodAll_mk0)))), rfl, bel.frame _, fun h => by cases h⟩

theorem small_holds : Rows.AutoSmallSaid :=
  OpenClaim.holds_of_wide 16 Try.f16 rfl rfl rfl rfl rfl rfl rfl ⟨rfl, rfl, rfl, rfl, rfl⟩ rfl rfl rfl rfl rfl (by kernel_rfl) Try.func16 (by kernel_rfl)
    (of_decide_eq_true (by kernel_rfl)) (by unfold Func.isWrapper; first | (rw [if_pos (by decide +kernel)]; kernel_rfl) | (rw [if_neg (by decide +kernel)]; exact ⟨rfl, rfl⟩))
    (fun os started H enc _ => lifted_small os started H enc)
#print axioms small_holds
end Go.Proofs.Ytlnonadkdonhmaa
