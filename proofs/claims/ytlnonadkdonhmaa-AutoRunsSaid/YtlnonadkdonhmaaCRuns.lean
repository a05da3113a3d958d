/- AutoRuns returns true for every group, machine, messages and picks, and leaves its arguments as they were. No condition. -/
import Derived.Test.YtlnonadkdonhmaaL14
import Derived.Test.YtlnonadkdonhmaaL12
import Derived.Test.YtlnonadkdonhmaaL9
import Derived.Test.YtlnonadkdonhmaaL10
import Derived.Test.YtlnonadkdonhmaaRows

/- The walk of AutoRuns. -/
namespace Go.Proofs.Ytlnonadkdonhmaa
open Go.RowKit Go.Maps

def runR (n : Int) (rs : List Int) (m : Mach) (l : List Int) : List Int := if runB n rs m l then (match rnTo rs m n.toNat l l.length with | some q => q.out | none => []) else []
def runL (n : Int) (rs : List Int) (m : Mach) (l : List Int) : List Int := if runB n rs m l then (match rnTo rs m n.toNat l l.length with | some q => q.many | none => []) else []
def runE (n : Int) (rs : List Int) (m : Mach) (l : List Int) : Int := if runB n rs m l then (match rnTo rs m n.toNat l l.length with | some _ => 0 | none => 7) else 2

theorem Run_any (n : Int) (A : Option Addr) (c : Nat) (rs : List Int) (B : Option Addr) (d : Nat) (m : Mach) (D : Option Addr) (f : Nat) (l : List Int) (w : World) (hA : Cells w A (ints rs)) (hM : MachAt w B m) (hD : Cells w D (ints l)) :
    Calls Try.prog 54 #[.agg #[.int .i64 n, .slice A rs.length c], .agg #[.slice B m.length d], .slice D l.length f] w fun e w' => ∃ A' c' B' d', e = .returned (.tuple #[.slice A' (runR n rs m l).length c', .slice B' (runL n rs m l).length d', .int .i64 (runE n rs m l)]) ∧
      Cells w' A' (ints (runR n rs m l)) ∧ Cells w' B' (ints (runL n rs m l)) ∧ Below w.heap.size w w' := by
  cases hb : runB n rs m l with
  | false =>
    have e1 : runR n rs m l = [] := by unfold runR; rw [hb]; rfl
    have e2 : runL n rs m l = [] := by unfold runL; rw [hb]; rfl
    have e3 : runE n rs m l = 2 := by unfold runE; rw [hb]; rfl
    rw [e1, e2, e3]
    exact (Run_no n A c rs B d m D f l w hA hM hD hb).mono fun _ _ h => ⟨none, 0, none, 0, h.1, Cells.nil _ _, Cells.nil _ _, h.2⟩
  | true =>
    have hb' := hb
    simp only [runB, comeI, Bool.and_eq_true] at hb'
    obtain ⟨hn1, _⟩ := grpOk_true hb'.1.1.1
    obtain ⟨N, rfl⟩ := Int.eq_ofNat_of_zero_le (a := n) (by omega)
    have h := Run_yes N A c rs B d m D f l w hA hM hD hb
    cases ho : rnTo rs m N l l.length with
    | none =>
      have e1 : runR N rs m l = [] := by unfold runR; rw [hb, Int.toNat_natCast, ho]; rfl
      have e2 : runL N rs m l = [] := by unfold runL; rw [hb, Int.toNat_natCast, ho]; rfl
      have e3 : runE N rs m l = 7 := by unfold runE; rw [hb, Int.toNat_natCast, ho]; rfl
      rw [e1, e2, e3]
      rw [ho] at h
      exact h.mono fun _ _ h => ⟨none, 0, none, 0, h.1, Cells.nil _ _, Cells.nil _ _, h.2⟩
    | some q =>
      have e1 : runR N rs m l = q.out := by unfold runR; rw [hb, Int.toNat_natCast, ho]; rfl
      have e2 : runL N rs m l = q.many := by unfold runL; rw [hb, Int.toNat_natCast, ho]; rfl
      have e3 : runE N rs m l = 0 := by unfold runE; rw [hb, Int.toNat_natCast, ho]; rfl
      rw [e1, e2, e3]
      rw [ho] at h
      refine h.mono fun _ _ h => ?_
      obtain ⟨⟨A', c', B', d', h1, h2, h3⟩, h4⟩ := h
      exact ⟨A', c', B', d', h1, h2, h3, h4⟩

def runsB (rs : List Int) (m : Mach) (l p : List Int) : Bool := decide (rs.length ≤ 30) && compactB m && decide (l.length ≤ 80) && decide (p.length ≤ 80)


set_option maxRecDepth 100000 in
set_option maxHeartbeats 4000000 in
theorem runs_big (n : Int) (A : Option Addr) (c : Nat) (rs : List Int) (B : Option Addr) (d : Nat) (m : Mach) (D : Option Addr) (f : Nat) (l : List Int) (E : Option Addr) (g : Nat) (p : List Int) (w : World) (hA : Cells w A (ints rs)) (hM : MachAt w B m) (h : runsB rs m l p = false) :
    Calls Try.prog 12 #[.agg #[.int .i64 n, .slice A rs.length c], .agg #[.slice B m.length d], .slice D l.length f, .slice E p.length g] w fun e w' => e = .returned (.bool true) ∧ Below w.heap.size w w' := by
  unfold runsB at h
  have HB0 : Hid (Below w.heap.size w (gbox w n A rs.length c B m.length d)) := gbox_below w n A rs.length c B m.length d
  have HA0 := Lib.hid (hA.below HB0.out (Nat.le_refl _))
  have HM0 := Lib.hid (hM.below HB0.out (Nat.le_refl _))
  have hgm := gm_new w n A rs.length c B m.length d
  cases hs : decide (rs.length ≤ 30) with
  | false =>
    have HS := Lib.hid hs
    clear h hs
    go_enter Try.func12, Try.ntmps12
    go_wp2_with fail
    obtain ⟨W, hW⟩ : ∃ W, gbox w n A rs.length c B m.length d = W := ⟨_, rfl⟩
    have hW' : (w.alloc (.cells #[.int .i64 n, .slice A rs.length c] 24)).alloc (.cells #[.slice B m.length d] 27) = W := hW
    rw [hW] at HB0 HA0 HM0 hgm
    rw [hW']
    have c0 := hgm.g.cell 0 (v := .int .i64 n) rfl
    have c1 := hgm.g.cell 1 (v := .slice A rs.length c) rfl
    have c2 := hgm.m.cell 0 (v := .slice B m.length d) rfl
    have hl0 := hgm.g.lt
    have hl1 := hgm.m.lt
    clear hW hW' hgm
    refine (small_any n A rs.length c W).mono ?_
    rintro e w1 ⟨rfl, hB1⟩
    rw [HS.out]
    go_wp2_with (go_at_call 20; go_must (refine (known_any _).mono ?_); rintro e w9 ⟨rfl, hB9⟩)
    go_ret
    exact ⟨rfl, below_in HB0.out (below_in hB1 hB9)⟩
  | true =>
    have HS := Lib.hid hs
    cases hc : compactB m with
    | false =>
      have HC := Lib.hid hc
      clear h hs hc
      go_enter Try.func12, Try.ntmps12
      go_wp2_with fail
      obtain ⟨W, hW⟩ : ∃ W, gbox w n A rs.length c B m.length d = W := ⟨_, rfl⟩
      have hW' : (w.alloc (.cells #[.int .i64 n, .slice A rs.length c] 24)).alloc (.cells #[.slice B m.length d] 27) = W := hW
      rw [hW] at HB0 HA0 HM0 hgm
      rw [hW']
      have c0 := hgm.g.cell 0 (v := .int .i64 n) rfl
      have c1 := hgm.g.cell 1 (v := .slice A rs.length c) rfl
      have c2 := hgm.m.cell 0 (v := .slice B m.length d) rfl
      have hl0 := hgm.g.lt
      have hl1 := hgm.m.lt
      clear hW hW' hgm
      refine (small_any n A rs.length c W).mono ?_
      rintro e w1 ⟨rfl, hB1⟩
      rw [HS.out]
      have d2 := cell_chain hB1 hl1 c2
      go_wp2_with fail
      refine (compact_any B d m w1 (HM0.out.below hB1 (Nat.le_refl _))).mono ?_
      rintro e w2 ⟨rfl, hB2⟩
      rw [HC.out]
      have hI2 := below_in hB1 hB2
      clear d2
      go_wp2_with (go_at_call 20; go_must (refine (known_any _).mono ?_); rintro e w9 ⟨rfl, hB9⟩)
      go_ret
      exact ⟨rfl, below_in HB0.out (below_in hI2 hB9)⟩
    | true =>
      have HC := Lib.hid hc
      by_cases hl : l.length ≤ 80
      · have hd1 : decide ((80 : Int) < (l.length : Int)) = false := by simp <;> omega
        have hp : ¬ p.length ≤ 80 := by rw [hs, hc, decide_eq_true hl] at h; simpa using h
        have hd : decide ((80 : Int) < (p.length : Int)) = true := by simp <;> omega
        clear h hs hc hl hp
        go_enter Try.func12, Try.ntmps12
        go_wp2_with fail
        obtain ⟨W, hW⟩ : ∃ W, gbox w n A rs.length c B m.length d = W := ⟨_, rfl⟩
        have hW' : (w.alloc (.cells #[.int .i64 n, .slice A rs.length c] 24)).alloc (.cells #[.slice B m.length d] 27) = W := hW
        rw [hW] at HB0 HA0 HM0 hgm
        rw [hW']
        have c0 := hgm.g.cell 0 (v := .int .i64 n) rfl
        have c1 := hgm.g.cell 1 (v := .slice A rs.length c) rfl
        have c2 := hgm.m.cell 0 (v := .slice B m.length d) rfl
        have hl0 := hgm.g.lt
        have hl1 := hgm.m.lt
        clear hW hW' hgm
        refine (small_any n A rs.length c W).mono ?_
        rintro e w1 ⟨rfl, hB1⟩
        rw [HS.out]
        have d2 := cell_chain hB1 hl1 c2
        go_wp2_with fail
        refine (compact_any B d m w1 (HM0.out.below hB1 (Nat.le_refl _))).mono ?_
        rintro e w2 ⟨rfl, hB2⟩
        rw [HC.out]
        have hI2 := below_in hB1 hB2
        clear d2
        go_wp2_with (go_at_call 20; go_must (refine (known_any _).mono ?_); rintro e w9 ⟨rfl, hB9⟩)
        go_ret
        exact ⟨rfl, below_in HB0.out (below_in hI2 hB9)⟩
      · have hd : decide ((80 : Int) < (l.length : Int)) = true := by simp <;> omega
        clear h hs hc hl
        go_enter Try.func12, Try.ntmps12
        go_wp2_with fail
        obtain ⟨W, hW⟩ : ∃ W, gbox w n A rs.length c B m.length d = W := ⟨_, rfl⟩
        have hW' : (w.alloc (.cells #[.int .i64 n, .slice A rs.length c] 24)).alloc (.cells #[.slice B m.length d] 27) = W := hW
        rw [hW] at HB0 HA0 HM0 hgm
        rw [hW']
        have c0 := hgm.g.cell 0 (v := .int .i64 n) rfl
        have c1 := hgm.g.cell 1 (v := .slice A rs.length c) rfl
        have c2 := hgm.m.cell 0 (v := .slice B m.length d) rfl
        have hl0 := hgm.g.lt
        have hl1 := hgm.m.lt
        clear hW hW' hgm
        refine (small_any n A rs.length c W).mono ?_
        rintro e w1 ⟨rfl, hB1⟩
        rw [HS.out]
        have d2 := cell_chain hB1 hl1 c2
        go_wp2_with fail
        refine (compact_any B d m w1 (HM0.out.below hB1 (Nat.le_refl _))).mono ?_
        rintro e w2 ⟨rfl, hB2⟩
        rw [HC.out]
        have hI2 := below_in hB1 hB2
        clear d2
        go_wp2_with (go_at_call 20; go_must (refine (known_any _).mono ?_); rintro e w9 ⟨rfl, hB9⟩)
        go_ret
        exact ⟨rfl, below_in HB0.out (below_in hI2 hB9)⟩




set_option maxRecDepth 100000 in
set_option maxHeartbeats 8000000 in
theorem runs_g (n : Int) (A : Option Addr) (c : Nat) (rs : List Int) (B : Option Addr) (d : Nat) (m : Mach) (D : Option Addr) (f : Nat) (l : List Int) (E : Option Addr) (g : Nat) (p : List Int) (w : World) (hA : Cells w A (ints rs)) (hM : MachAt w B m) (hD : Cells w D (ints l)) (hE : Cells w E (ints p)) (h : runsB rs m l p = true) (hg : grpOk n rs = false) :
    Calls Try.prog 12 #[.agg #[.int .i64 n, .slice A rs.length c], .agg #[.slice B m.length d], .slice D l.length f, .slice E p.length g] w fun e w' => e = .returned (.bool true) ∧ Below w.heap.size w w' := by
  have hco : comeI n rs l = false := by unfold comeI; rw [hg]; rfl
  have hf : formedA n rs m = false := formedA_false m hg
  have hrb : runB n rs m l = false := by unfold runB; rw [hco]; rfl
  have HRR : Hid (runR n rs m l = []) := by show _ = _; unfold runR; rw [hrb]; rfl
  have HRL : Hid (runL n rs m l = []) := by show _ = _; unfold runL; rw [hrb]; rfl
  have HRE : Hid (runE n rs m l = 2) := by show _ = _; unfold runE; rw [hrb]; rfl
  have hpb : pickedB n rs l p = false := by unfold pickedB; rw [hco]; rfl
  have HPR : Hid (pickedR n rs l p = []) := by show _ = _; unfold pickedR; rw [hpb]; rfl
  have HPL : Hid (pickedL n rs l p = []) := by show _ = _; unfold pickedL; rw [hpb]; rfl
  have HPE : Hid (errI (pickedB n rs l p) = 2) := by show _ = _; rw [hpb]; rfl
  have HG := Lib.hid hg
  have HF := Lib.hid hf
  clear hco hf hg hrb hpb
  have hs : decide (rs.length ≤ 30) = true := by simp only [runsB, Bool.and_eq_true] at h; exact h.1.1.1
  have hc : compactB m = true := by simp only [runsB, Bool.and_eq_true] at h; exact h.1.1.2
  have hd1 : decide ((80 : Int) < (l.length : Int)) = false := by simp only [runsB, Bool.and_eq_true, decide_eq_true_eq] at h; simp <;> omega
  have hd2 : decide ((80 : Int) < (p.length : Int)) = false := by simp only [runsB, Bool.and_eq_true, decide_eq_true_eq] at h; simp <;> omega
  have HS := Lib.hid hs
  have HC := Lib.hid hc
  clear h hs hc
  have HB0 : Hid (Below w.heap.size w (gbox w n A rs.length c B m.length d)) := gbox_below w n A rs.length c B m.length d
  have HA0 := Lib.hid (hA.below HB0.out (Nat.le_refl _))
  have HM0 := Lib.hid (hM.below HB0.out (Nat.le_refl _))
  have hgm := gm_new w n A rs.length c B m.length d
  go_enter Try.func12, Try.ntmps12
  go_wp2_with fail
  obtain ⟨W, hW⟩ : ∃ W, gbox w n A rs.length c B m.length d = W := ⟨_, rfl⟩
  have hW' : (w.alloc (.cells #[.int .i64 n, .slice A rs.length c] 24)).alloc (.cells #[.slice B m.length d] 27) = W := hW
  rw [hW] at HB0 HA0 HM0 hgm
  rw [hW']
  have c0 := hgm.g.cell 0 (v := .int .i64 n) rfl
  have c1 := hgm.g.cell 1 (v := .slice A rs.length c) rfl
  have c2 := hgm.m.cell 0 (v := .slice B m.length d) rfl
  have hl0 := hgm.g.lt
  have hl1 := hgm.m.lt
  clear hW hW' hgm
  refine (small_any n A rs.length c W).mono ?_
  rintro e w1 ⟨rfl, hB1⟩
  rw [HS.out]
  have HD0 := Lib.hid (hD.below HB0.out (Nat.le_refl _))
  have HE0 := Lib.hid (hE.below HB0.out (Nat.le_refl _))
  have d2 := cell_chain hB1 hl1 c2
  go_wp2_with fail
  refine (compact_any B d m w1 (HM0.out.below hB1 (Nat.le_refl _))).mono ?_
  rintro e w2 ⟨rfl, hB2⟩
  rw [HC.out]
  have hI2 := below_in hB1 hB2
  have e0 := cell_chain hI2 hl0 c0
  have e1 := cell_chain hI2 hl0 c1
  have e2 := cell_chain hI2 hl1 c2
  clear d2 hB1 hB2
  go_wp2_with fail
  refine (Run_any n A c rs B d m D f l w2 (HA0.out.below hI2 (Nat.le_refl _)) (HM0.out.below hI2 (Nat.le_refl _)) (HD0.out.below hI2 (Nat.le_refl _))).mono ?_
  rintro e w3 ⟨A3, c3, B3, d3, rfl, hC3, hE3, hB3⟩
  rw [HRR.out] at hC3 ⊢
  rw [HRL.out] at hE3 ⊢
  rw [HRE.out]
  have hI3 := below_in hI2 hB3
  have f0 := cell_chain hI3 hl0 c0
  have f1 := cell_chain hI3 hl0 c1
  clear e0 e1 e2 hB3
  have HC3 := Lib.hid hC3
  have HE3 := Lib.hid hE3
  clear hC3 hE3
  go_wp2_with fail
  refine (Picked_any n A c rs D f l E g p w3 (HA0.out.below hI3 (Nat.le_refl _)) (HD0.out.below hI3 (Nat.le_refl _)) (HE0.out.below hI3 (Nat.le_refl _))).mono ?_
  rintro e w4 ⟨A4, c4, B4, d4, rfl, hC4, hE4, hB4⟩
  rw [HPR.out] at hC4 ⊢
  rw [HPL.out] at hE4 ⊢
  rw [HPE.out]
  have HC34 := Lib.hid (HC3.out.below hB4 (Nat.le_refl _))
  have HE34 := Lib.hid (HE3.out.below hB4 (Nat.le_refl _))
  have HC4 := Lib.hid hC4
  have HE4 := Lib.hid hE4
  have hI4 := below_in hI3 hB4
  have g0 := cell_chain hI4 hl0 c0
  have g1 := cell_chain hI4 hl0 c1
  clear f0 f1 hC4 hE4 hB4
  go_wp2_with fail
  refine (group_any n A c rs w4 (HA0.out.below hI4 (Nat.le_refl _))).mono ?_
  rintro e w5 ⟨rfl, hB5⟩
  rw [HG.out]
  have hI5 := below_in hI4 hB5
  have hJ5 : Below w4.heap.size w4 w5 := hB5
  have x0 := cell_chain hI5 hl0 c0
  have x1 := cell_chain hI5 hl0 c1
  have x2 := cell_chain hI5 hl1 c2
  clear g0 g1
  go_wp2_with fail
  obtain ⟨w8, hw8⟩ : ∃ w8, w8 = w5 := ⟨_, rfl⟩
  rw [← hw8] at hI5 hJ5 ⊢
  have hI8 := hI5
  have hJ8 := hJ5
  clear hw8 x0 x1 x2
  refine (lawFormed_any n A c rs B d m w8 (HA0.out.below hI8 (Nat.le_refl _)) (HM0.out.below hI8 (Nat.le_refl _))).mono ?_
  rintro e w9 ⟨rfl, hB9⟩
  rw [HF.out]
  have hI9 := below_in hI8 hB9
  have hJ9 := below_in hJ8 hB9
  have x0 := cell_chain hI9 hl0 c0
  have x1 := cell_chain hI9 hl0 c1
  have x2 := cell_chain hI9 hl1 c2
  go_wp2_with (go_at_call 20; go_must (refine (known_any _).mono ?_); rintro e wz ⟨rfl, hBz⟩)
  go_ret
  exact ⟨rfl, below_in HB0.out (below_in hI9 hBz)⟩

set_option maxRecDepth 100000 in
set_option maxHeartbeats 8000000 in
theorem runs_c (n : Int) (A : Option Addr) (c : Nat) (rs : List Int) (B : Option Addr) (d : Nat) (m : Mach) (D : Option Addr) (f : Nat) (l : List Int) (E : Option Addr) (g : Nat) (p : List Int) (w : World) (hA : Cells w A (ints rs)) (hM : MachAt w B m) (hD : Cells w D (ints l)) (hE : Cells w E (ints p)) (h : runsB rs m l p = true) (hg : grpOk n rs = true) (hr : comeR n l = false) :
    Calls Try.prog 12 #[.agg #[.int .i64 n, .slice A rs.length c], .agg #[.slice B m.length d], .slice D l.length f, .slice E p.length g] w fun e w' => e = .returned (.bool true) ∧ Below w.heap.size w w' := by
  have hco : comeI n rs l = false := by
    have e : comeI n rs l = (grpOk n rs && comeR n l) := by unfold comeI comeR; rw [Bool.and_assoc]
    rw [e, hr, Bool.and_false]
  have hrb : runB n rs m l = false := by unfold runB; rw [hco]; rfl
  have HRR : Hid (runR n rs m l = []) := by show _ = _; unfold runR; rw [hrb]; rfl
  have HRL : Hid (runL n rs m l = []) := by show _ = _; unfold runL; rw [hrb]; rfl
  have HRE : Hid (runE n rs m l = 2) := by show _ = _; unfold runE; rw [hrb]; rfl
  have hpb : pickedB n rs l p = false := by unfold pickedB; rw [hco]; rfl
  have HPR : Hid (pickedR n rs l p = []) := by show _ = _; unfold pickedR; rw [hpb]; rfl
  have HPL : Hid (pickedL n rs l p = []) := by show _ = _; unfold pickedL; rw [hpb]; rfl
  have HPE : Hid (errI (pickedB n rs l p) = 2) := by show _ = _; rw [hpb]; rfl
  have HG := Lib.hid hg
  have HCR := Lib.hid hr
  clear hco hg hr hrb hpb
  have hs : decide (rs.length ≤ 30) = true := by simp only [runsB, Bool.and_eq_true] at h; exact h.1.1.1
  have hc : compactB m = true := by simp only [runsB, Bool.and_eq_true] at h; exact h.1.1.2
  have hd1 : decide ((80 : Int) < (l.length : Int)) = false := by simp only [runsB, Bool.and_eq_true, decide_eq_true_eq] at h; simp <;> omega
  have hd2 : decide ((80 : Int) < (p.length : Int)) = false := by simp only [runsB, Bool.and_eq_true, decide_eq_true_eq] at h; simp <;> omega
  have HS := Lib.hid hs
  have HC := Lib.hid hc
  clear h hs hc
  have HB0 : Hid (Below w.heap.size w (gbox w n A rs.length c B m.length d)) := gbox_below w n A rs.length c B m.length d
  have HA0 := Lib.hid (hA.below HB0.out (Nat.le_refl _))
  have HM0 := Lib.hid (hM.below HB0.out (Nat.le_refl _))
  have hgm := gm_new w n A rs.length c B m.length d
  go_enter Try.func12, Try.ntmps12
  go_wp2_with fail
  obtain ⟨W, hW⟩ : ∃ W, gbox w n A rs.length c B m.length d = W := ⟨_, rfl⟩
  have hW' : (w.alloc (.cells #[.int .i64 n, .slice A rs.length c] 24)).alloc (.cells #[.slice B m.length d] 27) = W := hW
  rw [hW] at HB0 HA0 HM0 hgm
  rw [hW']
  have c0 := hgm.g.cell 0 (v := .int .i64 n) rfl
  have c1 := hgm.g.cell 1 (v := .slice A rs.length c) rfl
  have c2 := hgm.m.cell 0 (v := .slice B m.length d) rfl
  have hl0 := hgm.g.lt
  have hl1 := hgm.m.lt
  clear hW hW' hgm
  refine (small_any n A rs.length c W).mono ?_
  rintro e w1 ⟨rfl, hB1⟩
  rw [HS.out]
  have HD0 := Lib.hid (hD.below HB0.out (Nat.le_refl _))
  have HE0 := Lib.hid (hE.below HB0.out (Nat.le_refl _))
  have d2 := cell_chain hB1 hl1 c2
  go_wp2_with fail
  refine (compact_any B d m w1 (HM0.out.below hB1 (Nat.le_refl _))).mono ?_
  rintro e w2 ⟨rfl, hB2⟩
  rw [HC.out]
  have hI2 := below_in hB1 hB2
  have e0 := cell_chain hI2 hl0 c0
  have e1 := cell_chain hI2 hl0 c1
  have e2 := cell_chain hI2 hl1 c2
  clear d2 hB1 hB2
  go_wp2_with fail
  refine (Run_any n A c rs B d m D f l w2 (HA0.out.below hI2 (Nat.le_refl _)) (HM0.out.below hI2 (Nat.le_refl _)) (HD0.out.below hI2 (Nat.le_refl _))).mono ?_
  rintro e w3 ⟨A3, c3, B3, d3, rfl, hC3, hE3, hB3⟩
  rw [HRR.out] at hC3 ⊢
  rw [HRL.out] at hE3 ⊢
  rw [HRE.out]
  have hI3 := below_in hI2 hB3
  have f0 := cell_chain hI3 hl0 c0
  have f1 := cell_chain hI3 hl0 c1
  clear e0 e1 e2 hB3
  have HC3 := Lib.hid hC3
  have HE3 := Lib.hid hE3
  clear hC3 hE3
  go_wp2_with fail
  refine (Picked_any n A c rs D f l E g p w3 (HA0.out.below hI3 (Nat.le_refl _)) (HD0.out.below hI3 (Nat.le_refl _)) (HE0.out.below hI3 (Nat.le_refl _))).mono ?_
  rintro e w4 ⟨A4, c4, B4, d4, rfl, hC4, hE4, hB4⟩
  rw [HPR.out] at hC4 ⊢
  rw [HPL.out] at hE4 ⊢
  rw [HPE.out]
  have HC34 := Lib.hid (HC3.out.below hB4 (Nat.le_refl _))
  have HE34 := Lib.hid (HE3.out.below hB4 (Nat.le_refl _))
  have HC4 := Lib.hid hC4
  have HE4 := Lib.hid hE4
  have hI4 := below_in hI3 hB4
  have g0 := cell_chain hI4 hl0 c0
  have g1 := cell_chain hI4 hl0 c1
  clear f0 f1 hC4 hE4 hB4
  go_wp2_with fail
  refine (group_any n A c rs w4 (HA0.out.below hI4 (Nat.le_refl _))).mono ?_
  rintro e w5 ⟨rfl, hB5⟩
  rw [HG.out]
  have hI5 := below_in hI4 hB5
  have hJ5 : Below w4.heap.size w4 w5 := hB5
  have x0 := cell_chain hI5 hl0 c0
  have x1 := cell_chain hI5 hl0 c1
  have x2 := cell_chain hI5 hl1 c2
  clear g0 g1
  go_wp2_with fail
  refine (Come_any n A c rs D f l w5 (HD0.out.below hI5 (Nat.le_refl _))).mono ?_
  rintro e w8 ⟨rfl, hB8⟩
  rw [HCR.out]
  have hI8 := below_in hI5 hB8
  have hJ8 := below_in hJ5 hB8
  clear x0 x1 x2
  have x0 := cell_chain hI8 hl0 c0
  have x1 := cell_chain hI8 hl0 c1
  have x2 := cell_chain hI8 hl1 c2
  go_wp2_with fail
  clear x0 x1 x2
  cases hf : formedA n rs m with
  | false =>
    have HF := Lib.hid hf
    clear hf
    refine (lawFormed_any n A c rs B d m w8 (HA0.out.below hI8 (Nat.le_refl _)) (HM0.out.below hI8 (Nat.le_refl _))).mono ?_
    rintro e w9 ⟨rfl, hB9⟩
    rw [HF.out]
    have hI9 := below_in hI8 hB9
    have hJ9 := below_in hJ8 hB9
    have x0 := cell_chain hI9 hl0 c0
    have x1 := cell_chain hI9 hl0 c1
    have x2 := cell_chain hI9 hl1 c2
    go_wp2_with (go_at_call 20; go_must (refine (known_any _).mono ?_); rintro e wz ⟨rfl, hBz⟩)
    go_ret
    exact ⟨rfl, below_in HB0.out (below_in hI9 hBz)⟩
  | true =>
    have HF := Lib.hid hf
    clear hf
    refine (lawFormed_any n A c rs B d m w8 (HA0.out.below hI8 (Nat.le_refl _)) (HM0.out.below hI8 (Nat.le_refl _))).mono ?_
    rintro e w9 ⟨rfl, hB9⟩
    rw [HF.out]
    have hI9 := below_in hI8 hB9
    have hJ9 := below_in hJ8 hB9
    have x0 := cell_chain hI9 hl0 c0
    have x1 := cell_chain hI9 hl0 c1
    have x2 := cell_chain hI9 hl1 c2
    go_wp2_with fail
    refine (Come_any n A c rs D f l w9 (HD0.out.below hI9 (Nat.le_refl _))).mono ?_
    rintro e w10 ⟨rfl, hB10⟩
    rw [HCR.out]
    have hI10 := below_in hI9 hB10
    have hJ10 := below_in hJ9 hB10
    have y0 := cell_chain hI10 hl0 c0
    have y1 := cell_chain hI10 hl0 c1
    have y2 := cell_chain hI10 hl1 c2
    clear x0 x1 x2
    go_wp2_with (go_at_call 20; go_must (refine (known_any _).mono ?_); rintro e wz ⟨rfl, hBz⟩)
    go_ret
    exact ⟨rfl, below_in HB0.out (below_in hI10 hBz)⟩


set_option maxRecDepth 100000 in
set_option maxHeartbeats 8000000 in
theorem runs_PF (n : Int) (A : Option Addr) (c : Nat) (rs : List Int) (B : Option Addr) (d : Nat) (m : Mach) (D : Option Addr) (f : Nat) (l : List Int) (E : Option Addr) (g : Nat) (p : List Int) (w : World) (hA : Cells w A (ints rs)) (hM : MachAt w B m) (hD : Cells w D (ints l)) (hE : Cells w E (ints p)) (h : runsB rs m l p = true) (hco : comeI n rs l = true)
    (hpk : picksB p = false) (hf : formedA n rs m = false) :
    Calls Try.prog 12 #[.agg #[.int .i64 n, .slice A rs.length c], .agg #[.slice B m.length d], .slice D l.length f, .slice E p.length g] w fun e w' => e = .returned (.bool true) ∧ Below w.heap.size w w' := by
  have hco' := hco
  simp only [comeI, Bool.and_eq_true, decide_eq_true_eq, Bool.not_eq_true'] at hco'
  obtain ⟨⟨hg, hl60⟩, hbad⟩ := hco'
  have hr : comeR n l = true := by unfold comeR; rw [hbad]; simpa using hl60
  obtain ⟨hn1, hn6, _, _⟩ := grpOk_true hg
  obtain ⟨N, hN⟩ := Int.eq_ofNat_of_zero_le (show 0 ≤ n by omega)
  have hnN : n.toNat = N := by omega
  have HN : Hid ((N : Int) = n) := hN.symm
  have hl : Hid (∀ x ∈ l, 0 ≤ x ∧ x < (N : Int)) := by
    intro x hx
    have hb : badC n x = false := by
      rw [List.any_eq_false] at hbad
      simpa using hbad x hx
    simp [badC] at hb
    omega
  have HG := Lib.hid hg
  have HCR := Lib.hid hr
  clear hg hr hbad hn1 hn6
  have hrb : runB n rs m l = false := by unfold runB; rw [hf, Bool.and_false]
  have HRR : Hid (runR n rs m l = []) := by show _ = _; unfold runR; rw [hrb]; rfl
  have HRL : Hid (runL n rs m l = []) := by show _ = _; unfold runL; rw [hrb]; rfl
  have HRE : Hid (runE n rs m l = 2) := by show _ = _; unfold runE; rw [hrb]; rfl
  have HF := Lib.hid hf
  have hpb : pickedB n rs l p = false := by unfold pickedB; rw [hpk, Bool.and_false]
  have HPR : Hid (pickedR n rs l p = []) := by show _ = _; unfold pickedR; rw [hpb]; rfl
  have HPL : Hid (pickedL n rs l p = []) := by show _ = _; unfold pickedL; rw [hpb]; rfl
  have HPE : Hid (errI (pickedB n rs l p) = 2) := by show _ = _; rw [hpb]; rfl
  have HPK := Lib.hid hpk
  clear hco hf hpk hrb hpb hnN hN
  have hs : decide (rs.length ≤ 30) = true := by simp only [runsB, Bool.and_eq_true] at h; exact h.1.1.1
  have hc : compactB m = true := by simp only [runsB, Bool.and_eq_true] at h; exact h.1.1.2
  have hd1 : decide ((80 : Int) < (l.length : Int)) = false := by simp only [runsB, Bool.and_eq_true, decide_eq_true_eq] at h; simp <;> omega
  have hd2 : decide ((80 : Int) < (p.length : Int)) = false := by simp only [runsB, Bool.and_eq_true, decide_eq_true_eq] at h; simp <;> omega
  have HS := Lib.hid hs
  have HC := Lib.hid hc
  clear h hs hc
  have HB0 : Hid (Below w.heap.size w (gbox w n A rs.length c B m.length d)) := gbox_below w n A rs.length c B m.length d
  have HA0 := Lib.hid (hA.below HB0.out (Nat.le_refl _))
  have HM0 := Lib.hid (hM.below HB0.out (Nat.le_refl _))
  have hgm := gm_new w n A rs.length c B m.length d
  go_enter Try.func12, Try.ntmps12
  go_wp2_with fail
  obtain ⟨W, hW⟩ : ∃ W, gbox w n A rs.length c B m.length d = W := ⟨_, rfl⟩
  have hW' : (w.alloc (.cells #[.int .i64 n, .slice A rs.length c] 24)).alloc (.cells #[.slice B m.length d] 27) = W := hW
  rw [hW] at HB0 HA0 HM0 hgm
  rw [hW']
  have c0 := hgm.g.cell 0 (v := .int .i64 n) rfl
  have c1 := hgm.g.cell 1 (v := .slice A rs.length c) rfl
  have c2 := hgm.m.cell 0 (v := .slice B m.length d) rfl
  have hl0 := hgm.g.lt
  have hl1 := hgm.m.lt
  clear hW hW' hgm
  refine (small_any n A rs.length c W).mono ?_
  rintro e w1 ⟨rfl, hB1⟩
  rw [HS.out]
  have HD0 := Lib.hid (hD.below HB0.out (Nat.le_refl _))
  have HE0 := Lib.hid (hE.below HB0.out (Nat.le_refl _))
  have d2 := cell_chain hB1 hl1 c2
  go_wp2_with fail
  refine (compact_any B d m w1 (HM0.out.below hB1 (Nat.le_refl _))).mono ?_
  rintro e w2 ⟨rfl, hB2⟩
  rw [HC.out]
  have hI2 := below_in hB1 hB2
  have e0 := cell_chain hI2 hl0 c0
  have e1 := cell_chain hI2 hl0 c1
  have e2 := cell_chain hI2 hl1 c2
  clear d2 hB1 hB2
  go_wp2_with fail
  refine (Run_any n A c rs B d m D f l w2 (HA0.out.below hI2 (Nat.le_refl _)) (HM0.out.below hI2 (Nat.le_refl _)) (HD0.out.below hI2 (Nat.le_refl _))).mono ?_
  rintro e w3 ⟨A3, c3, B3, d3, rfl, hC3, hE3, hB3⟩
  rw [HRR.out] at hC3 ⊢
  rw [HRL.out] at hE3 ⊢
  rw [HRE.out]
  have hI3 := below_in hI2 hB3
  have f0 := cell_chain hI3 hl0 c0
  have f1 := cell_chain hI3 hl0 c1
  clear e0 e1 e2 hB3
  have HC3 := Lib.hid hC3
  have HE3 := Lib.hid hE3
  clear hC3 hE3
  go_wp2_with fail
  refine (Picked_any n A c rs D f l E g p w3 (HA0.out.below hI3 (Nat.le_refl _)) (HD0.out.below hI3 (Nat.le_refl _)) (HE0.out.below hI3 (Nat.le_refl _))).mono ?_
  rintro e w4 ⟨A4, c4, B4, d4, rfl, hC4, hE4, hB4⟩
  rw [HPR.out] at hC4 ⊢
  rw [HPL.out] at hE4 ⊢
  rw [HPE.out]
  have HC34 := Lib.hid (HC3.out.below hB4 (Nat.le_refl _))
  have HE34 := Lib.hid (HE3.out.below hB4 (Nat.le_refl _))
  have HC4 := Lib.hid hC4
  have HE4 := Lib.hid hE4
  have hI4 := below_in hI3 hB4
  have g0 := cell_chain hI4 hl0 c0
  have g1 := cell_chain hI4 hl0 c1
  clear f0 f1 hC4 hE4 hB4
  go_wp2_with fail
  refine (group_any n A c rs w4 (HA0.out.below hI4 (Nat.le_refl _))).mono ?_
  rintro e w5 ⟨rfl, hB5⟩
  rw [HG.out]
  have hI5 := below_in hI4 hB5
  have hJ5 : Below w4.heap.size w4 w5 := hB5
  have x0 := cell_chain hI5 hl0 c0
  have x1 := cell_chain hI5 hl0 c1
  have x2 := cell_chain hI5 hl1 c2
  clear g0 g1
  go_wp2_with fail
  refine (Come_any n A c rs D f l w5 (HD0.out.below hI5 (Nat.le_refl _))).mono ?_
  rintro e w8 ⟨rfl, hB8⟩
  rw [HCR.out]
  have hI8 := below_in hI5 hB8
  have hJ8 := below_in hJ5 hB8
  clear x0 x1 x2
  have x0 := cell_chain hI8 hl0 c0
  have x1 := cell_chain hI8 hl0 c1
  have x2 := cell_chain hI8 hl1 c2
  go_wp2_with fail
  refine (Picks_any p E g w8 (HE0.out.below hI8 (Nat.le_refl _))).mono ?_
  rintro e wp ⟨rfl, rfl⟩
  rw [HPK.out]
  go_wp2_with fail
  clear x0 x1 x2
  refine (lawFormed_any n A c rs B d m w8 (HA0.out.below hI8 (Nat.le_refl _)) (HM0.out.below hI8 (Nat.le_refl _))).mono ?_
  rintro e w9 ⟨rfl, hB9⟩
  rw [HF.out]
  have hI9 := below_in hI8 hB9
  have hJ9 := below_in hJ8 hB9
  have x0 := cell_chain hI9 hl0 c0
  have x1 := cell_chain hI9 hl0 c1
  have x2 := cell_chain hI9 hl1 c2
  go_wp2_with (go_at_call 20; go_must (refine (known_any _).mono ?_); rintro e wz ⟨rfl, hBz⟩)
  go_ret
  exact ⟨rfl, below_in HB0.out (below_in hI9 hBz)⟩

set_option maxRecDepth 100000 in
set_option maxHeartbeats 8000000 in
theorem runs_PN (n : Int) (A : Option Addr) (c : Nat) (rs : List Int) (B : Option Addr) (d : Nat) (m : Mach) (D : Option Addr) (f : Nat) (l : List Int) (E : Option Addr) (g : Nat) (p : List Int) (w : World) (hA : Cells w A (ints rs)) (hM : MachAt w B m) (hD : Cells w D (ints l)) (hE : Cells w E (ints p)) (h : runsB rs m l p = true) (hco : comeI n rs l = true)
    (hpk : picksB p = false) (hf : formedA n rs m = true) (ho : rnTo rs m n.toNat l l.length = none) :
    Calls Try.prog 12 #[.agg #[.int .i64 n, .slice A rs.length c], .agg #[.slice B m.length d], .slice D l.length f, .slice E p.length g] w fun e w' => e = .returned (.bool true) ∧ Below w.heap.size w w' := by
  have hco' := hco
  simp only [comeI, Bool.and_eq_true, decide_eq_true_eq, Bool.not_eq_true'] at hco'
  obtain ⟨⟨hg, hl60⟩, hbad⟩ := hco'
  have hr : comeR n l = true := by unfold comeR; rw [hbad]; simpa using hl60
  obtain ⟨hn1, hn6, _, _⟩ := grpOk_true hg
  obtain ⟨N, hN⟩ := Int.eq_ofNat_of_zero_le (show 0 ≤ n by omega)
  have hnN : n.toNat = N := by omega
  have HN : Hid ((N : Int) = n) := hN.symm
  have hl : Hid (∀ x ∈ l, 0 ≤ x ∧ x < (N : Int)) := by
    intro x hx
    have hb : badC n x = false := by
      rw [List.any_eq_false] at hbad
      simpa using hbad x hx
    simp [badC] at hb
    omega
  have HG := Lib.hid hg
  have HCR := Lib.hid hr
  clear hg hr hbad hn1 hn6
  rw [hnN] at ho
  have hrb : runB n rs m l = true := by unfold runB; rw [hf, hco]; rfl
  have HRR : Hid (runR n rs m l = []) := by show _ = _; unfold runR; rw [hrb, hnN, ho]; rfl
  have HRL : Hid (runL n rs m l = []) := by show _ = _; unfold runL; rw [hrb, hnN, ho]; rfl
  have HRE : Hid (runE n rs m l = 7) := by show _ = _; unfold runE; rw [hrb, hnN, ho]; rfl
  have HF := Lib.hid hf
  have HO := Lib.hid ho
  have hpb : pickedB n rs l p = false := by unfold pickedB; rw [hpk, Bool.and_false]
  have HPR : Hid (pickedR n rs l p = []) := by show _ = _; unfold pickedR; rw [hpb]; rfl
  have HPL : Hid (pickedL n rs l p = []) := by show _ = _; unfold pickedL; rw [hpb]; rfl
  have HPE : Hid (errI (pickedB n rs l p) = 2) := by show _ = _; rw [hpb]; rfl
  have HPK := Lib.hid hpk
  clear hco hf ho hpk hrb hpb hnN hN
  have hs : decide (rs.length ≤ 30) = true := by simp only [runsB, Bool.and_eq_true] at h; exact h.1.1.1
  have hc : compactB m = true := by simp only [runsB, Bool.and_eq_true] at h; exact h.1.1.2
  have hd1 : decide ((80 : Int) < (l.length : Int)) = false := by simp only [runsB, Bool.and_eq_true, decide_eq_true_eq] at h; simp <;> omega
  have hd2 : decide ((80 : Int) < (p.length : Int)) = false := by simp only [runsB, Bool.and_eq_true, decide_eq_true_eq] at h; simp <;> omega
  have HS := Lib.hid hs
  have HC := Lib.hid hc
  clear h hs hc
  have HB0 : Hid (Below w.heap.size w (gbox w n A rs.length c B m.length d)) := gbox_below w n A rs.length c B m.length d
  have HA0 := Lib.hid (hA.below HB0.out (Nat.le_refl _))
  have HM0 := Lib.hid (hM.below HB0.out (Nat.le_refl _))
  have hgm := gm_new w n A rs.length c B m.length d
  go_enter Try.func12, Try.ntmps12
  go_wp2_with fail
  obtain ⟨W, hW⟩ : ∃ W, gbox w n A rs.length c B m.length d = W := ⟨_, rfl⟩
  have hW' : (w.alloc (.cells #[.int .i64 n, .slice A rs.length c] 24)).alloc (.cells #[.slice B m.length d] 27) = W := hW
  rw [hW] at HB0 HA0 HM0 hgm
  rw [hW']
  have c0 := hgm.g.cell 0 (v := .int .i64 n) rfl
  have c1 := hgm.g.cell 1 (v := .slice A rs.length c) rfl
  have c2 := hgm.m.cell 0 (v := .slice B m.length d) rfl
  have hl0 := hgm.g.lt
  have hl1 := hgm.m.lt
  clear hW hW' hgm
  refine (small_any n A rs.length c W).mono ?_
  rintro e w1 ⟨rfl, hB1⟩
  rw [HS.out]
  have HD0 := Lib.hid (hD.below HB0.out (Nat.le_refl _))
  have HE0 := Lib.hid (hE.below HB0.out (Nat.le_refl _))
  have d2 := cell_chain hB1 hl1 c2
  go_wp2_with fail
  refine (compact_any B d m w1 (HM0.out.below hB1 (Nat.le_refl _))).mono ?_
  rintro e w2 ⟨rfl, hB2⟩
  rw [HC.out]
  have hI2 := below_in hB1 hB2
  have e0 := cell_chain hI2 hl0 c0
  have e1 := cell_chain hI2 hl0 c1
  have e2 := cell_chain hI2 hl1 c2
  clear d2 hB1 hB2
  go_wp2_with fail
  refine (Run_any n A c rs B d m D f l w2 (HA0.out.below hI2 (Nat.le_refl _)) (HM0.out.below hI2 (Nat.le_refl _)) (HD0.out.below hI2 (Nat.le_refl _))).mono ?_
  rintro e w3 ⟨A3, c3, B3, d3, rfl, hC3, hE3, hB3⟩
  rw [HRR.out] at hC3 ⊢
  rw [HRL.out] at hE3 ⊢
  rw [HRE.out]
  have hI3 := below_in hI2 hB3
  have f0 := cell_chain hI3 hl0 c0
  have f1 := cell_chain hI3 hl0 c1
  clear e0 e1 e2 hB3
  have HC3 := Lib.hid hC3
  have HE3 := Lib.hid hE3
  clear hC3 hE3
  go_wp2_with fail
  refine (Picked_any n A c rs D f l E g p w3 (HA0.out.below hI3 (Nat.le_refl _)) (HD0.out.below hI3 (Nat.le_refl _)) (HE0.out.below hI3 (Nat.le_refl _))).mono ?_
  rintro e w4 ⟨A4, c4, B4, d4, rfl, hC4, hE4, hB4⟩
  rw [HPR.out] at hC4 ⊢
  rw [HPL.out] at hE4 ⊢
  rw [HPE.out]
  have HC34 := Lib.hid (HC3.out.below hB4 (Nat.le_refl _))
  have HE34 := Lib.hid (HE3.out.below hB4 (Nat.le_refl _))
  have HC4 := Lib.hid hC4
  have HE4 := Lib.hid hE4
  have hI4 := below_in hI3 hB4
  have g0 := cell_chain hI4 hl0 c0
  have g1 := cell_chain hI4 hl0 c1
  clear f0 f1 hC4 hE4 hB4
  go_wp2_with fail
  refine (group_any n A c rs w4 (HA0.out.below hI4 (Nat.le_refl _))).mono ?_
  rintro e w5 ⟨rfl, hB5⟩
  rw [HG.out]
  have hI5 := below_in hI4 hB5
  have hJ5 : Below w4.heap.size w4 w5 := hB5
  have x0 := cell_chain hI5 hl0 c0
  have x1 := cell_chain hI5 hl0 c1
  have x2 := cell_chain hI5 hl1 c2
  clear g0 g1
  go_wp2_with fail
  refine (Come_any n A c rs D f l w5 (HD0.out.below hI5 (Nat.le_refl _))).mono ?_
  rintro e w8 ⟨rfl, hB8⟩
  rw [HCR.out]
  have hI8 := below_in hI5 hB8
  have hJ8 := below_in hJ5 hB8
  clear x0 x1 x2
  have x0 := cell_chain hI8 hl0 c0
  have x1 := cell_chain hI8 hl0 c1
  have x2 := cell_chain hI8 hl1 c2
  go_wp2_with fail
  refine (Picks_any p E g w8 (HE0.out.below hI8 (Nat.le_refl _))).mono ?_
  rintro e wp ⟨rfl, rfl⟩
  rw [HPK.out]
  go_wp2_with fail
  clear x0 x1 x2
  refine (lawFormed_any n A c rs B d m w8 (HA0.out.below hI8 (Nat.le_refl _)) (HM0.out.below hI8 (Nat.le_refl _))).mono ?_
  rintro e w9 ⟨rfl, hB9⟩
  rw [HF.out]
  have hI9 := below_in hI8 hB9
  have hJ9 := below_in hJ8 hB9
  have x0 := cell_chain hI9 hl0 c0
  have x1 := cell_chain hI9 hl0 c1
  have x2 := cell_chain hI9 hl1 c2
  go_wp2_with fail
  refine (Come_any n A c rs D f l w9 (HD0.out.below hI9 (Nat.le_refl _))).mono ?_
  rintro e w10 ⟨rfl, hB10⟩
  rw [HCR.out]
  have hI10 := below_in hI9 hB10
  have hJ10 := below_in hJ9 hB10
  have y0 := cell_chain hI10 hl0 c0
  have y1 := cell_chain hI10 hl0 c1
  have y2 := cell_chain hI10 hl1 c2
  clear x0 x1 x2
  go_wp2_with fail
  clear y0 y1 y2
  have e56 := RefRun_any N A c rs B d m D f l w10 (HA0.out.below hI10 (Nat.le_refl _)) (HM0.out.below hI10 (Nat.le_refl _)) (HD0.out.below hI10 (Nat.le_refl _)) (by rw [HN.out]; exact HF.out) hl hl60
  rw [HN.out, HO.out] at e56
  refine e56.mono ?_
  rintro e w11 ⟨he, hB11⟩
  have he : e = .returned (.tuple #[.slice none 0 0, .slice none 0 0, .bool false]) := he
  subst he
  have hI11 := below_in hI10 hB11
  clear e56
  go_wp2_with (go_at_call 20; go_must (refine (known_any _).mono ?_); rintro e wz ⟨rfl, hBz⟩)
  go_ret
  exact ⟨rfl, below_in HB0.out (below_in hI11 hBz)⟩

set_option maxRecDepth 100000 in
set_option maxHeartbeats 8000000 in
theorem runs_PS (n : Int) (A : Option Addr) (c : Nat) (rs : List Int) (B : Option Addr) (d : Nat) (m : Mach) (D : Option Addr) (f : Nat) (l : List Int) (E : Option Addr) (g : Nat) (p : List Int) (w : World) (hA : Cells w A (ints rs)) (hM : MachAt w B m) (hD : Cells w D (ints l)) (hE : Cells w E (ints p)) (h : runsB rs m l p = true) (hco : comeI n rs l = true)
    (hpk : picksB p = false) (hf : formedA n rs m = true) (q : RnS) (ho : rnTo rs m n.toNat l l.length = some q) :
    Calls Try.prog 12 #[.agg #[.int .i64 n, .slice A rs.length c], .agg #[.slice B m.length d], .slice D l.length f, .slice E p.length g] w fun e w' => e = .returned (.bool true) ∧ Below w.heap.size w w' := by
  have hco' := hco
  simp only [comeI, Bool.and_eq_true, decide_eq_true_eq, Bool.not_eq_true'] at hco'
  obtain ⟨⟨hg, hl60⟩, hbad⟩ := hco'
  have hr : comeR n l = true := by unfold comeR; rw [hbad]; simpa using hl60
  obtain ⟨hn1, hn6, _, _⟩ := grpOk_true hg
  obtain ⟨N, hN⟩ := Int.eq_ofNat_of_zero_le (show 0 ≤ n by omega)
  have hnN : n.toNat = N := by omega
  have HN : Hid ((N : Int) = n) := hN.symm
  have hl : Hid (∀ x ∈ l, 0 ≤ x ∧ x < (N : Int)) := by
    intro x hx
    have hb : badC n x = false := by
      rw [List.any_eq_false] at hbad
      simpa using hbad x hx
    simp [badC] at hb
    omega
  have HG := Lib.hid hg
  have HCR := Lib.hid hr
  clear hg hr hbad hn1 hn6
  rw [hnN] at ho
  have hrb : runB n rs m l = true := by unfold runB; rw [hf, hco]; rfl
  have HRR : Hid (runR n rs m l = q.out) := by show _ = _; unfold runR; rw [hrb, hnN, ho]; rfl
  have HRL : Hid (runL n rs m l = q.many) := by show _ = _; unfold runL; rw [hrb, hnN, ho]; rfl
  have HRE : Hid (runE n rs m l = 0) := by show _ = _; unfold runE; rw [hrb, hnN, ho]; rfl
  have HF := Lib.hid hf
  have HO := Lib.hid ho
  have hpb : pickedB n rs l p = false := by unfold pickedB; rw [hpk, Bool.and_false]
  have HPR : Hid (pickedR n rs l p = []) := by show _ = _; unfold pickedR; rw [hpb]; rfl
  have HPL : Hid (pickedL n rs l p = []) := by show _ = _; unfold pickedL; rw [hpb]; rfl
  have HPE : Hid (errI (pickedB n rs l p) = 2) := by show _ = _; rw [hpb]; rfl
  have HPK := Lib.hid hpk
  clear hco hf ho hpk hrb hpb hnN hN
  have hs : decide (rs.length ≤ 30) = true := by simp only [runsB, Bool.and_eq_true] at h; exact h.1.1.1
  have hc : compactB m = true := by simp only [runsB, Bool.and_eq_true] at h; exact h.1.1.2
  have hd1 : decide ((80 : Int) < (l.length : Int)) = false := by simp only [runsB, Bool.and_eq_true, decide_eq_true_eq] at h; simp <;> omega
  have hd2 : decide ((80 : Int) < (p.length : Int)) = false := by simp only [runsB, Bool.and_eq_true, decide_eq_true_eq] at h; simp <;> omega
  have HS := Lib.hid hs
  have HC := Lib.hid hc
  clear h hs hc
  have HB0 : Hid (Below w.heap.size w (gbox w n A rs.length c B m.length d)) := gbox_below w n A rs.length c B m.length d
  have HA0 := Lib.hid (hA.below HB0.out (Nat.le_refl _))
  have HM0 := Lib.hid (hM.below HB0.out (Nat.le_refl _))
  have hgm := gm_new w n A rs.length c B m.length d
  go_enter Try.func12, Try.ntmps12
  go_wp2_with fail
  obtain ⟨W, hW⟩ : ∃ W, gbox w n A rs.length c B m.length d = W := ⟨_, rfl⟩
  have hW' : (w.alloc (.cells #[.int .i64 n, .slice A rs.length c] 24)).alloc (.cells #[.slice B m.length d] 27) = W := hW
  rw [hW] at HB0 HA0 HM0 hgm
  rw [hW']
  have c0 := hgm.g.cell 0 (v := .int .i64 n) rfl
  have c1 := hgm.g.cell 1 (v := .slice A rs.length c) rfl
  have c2 := hgm.m.cell 0 (v := .slice B m.length d) rfl
  have hl0 := hgm.g.lt
  have hl1 := hgm.m.lt
  clear hW hW' hgm
  refine (small_any n A rs.length c W).mono ?_
  rintro e w1 ⟨rfl, hB1⟩
  rw [HS.out]
  have HD0 := Lib.hid (hD.below HB0.out (Nat.le_refl _))
  have HE0 := Lib.hid (hE.below HB0.out (Nat.le_refl _))
  have d2 := cell_chain hB1 hl1 c2
  go_wp2_with fail
  refine (compact_any B d m w1 (HM0.out.below hB1 (Nat.le_refl _))).mono ?_
  rintro e w2 ⟨rfl, hB2⟩
  rw [HC.out]
  have hI2 := below_in hB1 hB2
  have e0 := cell_chain hI2 hl0 c0
  have e1 := cell_chain hI2 hl0 c1
  have e2 := cell_chain hI2 hl1 c2
  clear d2 hB1 hB2
  go_wp2_with fail
  refine (Run_any n A c rs B d m D f l w2 (HA0.out.below hI2 (Nat.le_refl _)) (HM0.out.below hI2 (Nat.le_refl _)) (HD0.out.below hI2 (Nat.le_refl _))).mono ?_
  rintro e w3 ⟨A3, c3, B3, d3, rfl, hC3, hE3, hB3⟩
  rw [HRR.out] at hC3 ⊢
  rw [HRL.out] at hE3 ⊢
  rw [HRE.out]
  have hI3 := below_in hI2 hB3
  have f0 := cell_chain hI3 hl0 c0
  have f1 := cell_chain hI3 hl0 c1
  clear e0 e1 e2 hB3
  have HC3 := Lib.hid hC3
  have HE3 := Lib.hid hE3
  clear hC3 hE3
  go_wp2_with fail
  refine (Picked_any n A c rs D f l E g p w3 (HA0.out.below hI3 (Nat.le_refl _)) (HD0.out.below hI3 (Nat.le_refl _)) (HE0.out.below hI3 (Nat.le_refl _))).mono ?_
  rintro e w4 ⟨A4, c4, B4, d4, rfl, hC4, hE4, hB4⟩
  rw [HPR.out] at hC4 ⊢
  rw [HPL.out] at hE4 ⊢
  rw [HPE.out]
  have HC34 := Lib.hid (HC3.out.below hB4 (Nat.le_refl _))
  have HE34 := Lib.hid (HE3.out.below hB4 (Nat.le_refl _))
  have HC4 := Lib.hid hC4
  have HE4 := Lib.hid hE4
  have hI4 := below_in hI3 hB4
  have g0 := cell_chain hI4 hl0 c0
  have g1 := cell_chain hI4 hl0 c1
  clear f0 f1 hC4 hE4 hB4
  go_wp2_with fail
  refine (group_any n A c rs w4 (HA0.out.below hI4 (Nat.le_refl _))).mono ?_
  rintro e w5 ⟨rfl, hB5⟩
  rw [HG.out]
  have hI5 := below_in hI4 hB5
  have hJ5 : Below w4.heap.size w4 w5 := hB5
  have x0 := cell_chain hI5 hl0 c0
  have x1 := cell_chain hI5 hl0 c1
  have x2 := cell_chain hI5 hl1 c2
  clear g0 g1
  go_wp2_with fail
  refine (Come_any n A c rs D f l w5 (HD0.out.below hI5 (Nat.le_refl _))).mono ?_
  rintro e w8 ⟨rfl, hB8⟩
  rw [HCR.out]
  have hI8 := below_in hI5 hB8
  have hJ8 := below_in hJ5 hB8
  clear x0 x1 x2
  have x0 := cell_chain hI8 hl0 c0
  have x1 := cell_chain hI8 hl0 c1
  have x2 := cell_chain hI8 hl1 c2
  go_wp2_with fail
  refine (Picks_any p E g w8 (HE0.out.below hI8 (Nat.le_refl _))).mono ?_
  rintro e wp ⟨rfl, rfl⟩
  rw [HPK.out]
  go_wp2_with fail
  clear x0 x1 x2
  refine (lawFormed_any n A c rs B d m w8 (HA0.out.below hI8 (Nat.le_refl _)) (HM0.out.below hI8 (Nat.le_refl _))).mono ?_
  rintro e w9 ⟨rfl, hB9⟩
  rw [HF.out]
  have hI9 := below_in hI8 hB9
  have hJ9 := below_in hJ8 hB9
  have x0 := cell_chain hI9 hl0 c0
  have x1 := cell_chain hI9 hl0 c1
  have x2 := cell_chain hI9 hl1 c2
  go_wp2_with fail
  refine (Come_any n A c rs D f l w9 (HD0.out.below hI9 (Nat.le_refl _))).mono ?_
  rintro e w10 ⟨rfl, hB10⟩
  rw [HCR.out]
  have hI10 := below_in hI9 hB10
  have hJ10 := below_in hJ9 hB10
  have y0 := cell_chain hI10 hl0 c0
  have y1 := cell_chain hI10 hl0 c1
  have y2 := cell_chain hI10 hl1 c2
  clear x0 x1 x2
  go_wp2_with fail
  clear y0 y1 y2
  have e56 := RefRun_any N A c rs B d m D f l w10 (HA0.out.below hI10 (Nat.le_refl _)) (HM0.out.below hI10 (Nat.le_refl _)) (HD0.out.below hI10 (Nat.le_refl _)) (by rw [HN.out]; exact HF.out) hl hl60
  rw [HN.out, HO.out] at e56
  refine e56.mono ?_
  rintro e w11 ⟨⟨A11, c11, B11, d11, he, hC11, hE11⟩, hB11⟩
  subst he
  have hI11 := below_in hI10 hB11
  have hJ11 := below_in hJ10 hB11
  have HCa := Lib.hid (HC34.out.below hJ11 (Nat.le_refl _))
  have HEa := Lib.hid (HE34.out.below hJ11 (Nat.le_refl _))
  have HCb := Lib.hid hC11
  have HEb := Lib.hid hE11
  clear e56 hC11 hE11
  go_wp2_with fail
  refine (Ints_refl q.out A3 A11 c3 c11 w11 HCa.out HCb.out).mono ?_
  rintro e w12 ⟨rfl, hB12⟩
  go_wp2_with fail
  refine (Ints_refl q.many B3 B11 d3 d11 w12 (HEa.out.below hB12 (Nat.le_refl _)) (HEb.out.below hB12 (Nat.le_refl _))).mono ?_
  rintro e w13 ⟨rfl, hB13⟩
  go_wp2_with (go_at_call 20; go_must (refine (known_any _).mono ?_); rintro e wz ⟨rfl, hBz⟩)
  go_ret
  exact ⟨rfl, below_in HB0.out (below_in hI11 (below_in hB12 (below_in hB13 hBz)))⟩

set_option maxRecDepth 100000 in
set_option maxHeartbeats 8000000 in
theorem runs_YF (n : Int) (A : Option Addr) (c : Nat) (rs : List Int) (B : Option Addr) (d : Nat) (m : Mach) (D : Option Addr) (f : Nat) (l : List Int) (E : Option Addr) (g : Nat) (p : List Int) (w : World) (hA : Cells w A (ints rs)) (hM : MachAt w B m) (hD : Cells w D (ints l)) (hE : Cells w E (ints p)) (h : runsB rs m l p = true) (hco : comeI n rs l = true)
    (hpk : picksB p = true) (hf : formedA n rs m = false) :
    Calls Try.prog 12 #[.agg #[.int .i64 n, .slice A rs.length c], .agg #[.slice B m.length d], .slice D l.length f, .slice E p.length g] w fun e w' => e = .returned (.bool true) ∧ Below w.heap.size w w' := by
  have hco' := hco
  simp only [comeI, Bool.and_eq_true, decide_eq_true_eq, Bool.not_eq_true'] at hco'
  obtain ⟨⟨hg, hl60⟩, hbad⟩ := hco'
  have hr : comeR n l = true := by unfold comeR; rw [hbad]; simpa using hl60
  obtain ⟨hn1, hn6, _, _⟩ := grpOk_true hg
  obtain ⟨N, hN⟩ := Int.eq_ofNat_of_zero_le (show 0 ≤ n by omega)
  have hnN : n.toNat = N := by omega
  have HN : Hid ((N : Int) = n) := hN.symm
  have hl : Hid (∀ x ∈ l, 0 ≤ x ∧ x < (N : Int)) := by
    intro x hx
    have hb : badC n x = false := by
      rw [List.any_eq_false] at hbad
      simpa using hbad x hx
    simp [badC] at hb
    omega
  have HG := Lib.hid hg
  have HCR := Lib.hid hr
  clear hg hr hbad hn1 hn6
  have hrb : runB n rs m l = false := by unfold runB; rw [hf, Bool.and_false]
  have HRR : Hid (runR n rs m l = []) := by show _ = _; unfold runR; rw [hrb]; rfl
  have HRL : Hid (runL n rs m l = []) := by show _ = _; unfold runL; rw [hrb]; rfl
  have HRE : Hid (runE n rs m l = 2) := by show _ = _; unfold runE; rw [hrb]; rfl
  have HF := Lib.hid hf
  obtain ⟨Q, hQ⟩ : ∃ Q, qTo rs (chPick p) N () l l.length = Q := ⟨_, rfl⟩
  have hpb : pickedB n rs l p = true := by unfold pickedB; rw [hpk, hco]; rfl
  have hpq : pickedQ n rs l p = Q := by unfold pickedQ; rw [hnN]; exact hQ
  have HPR : Hid (pickedR n rs l p = Q.out) := by show _ = _; unfold pickedR; rw [hpb, hpq]; rfl
  have HPL : Hid (pickedL n rs l p = Q.many) := by show _ = _; unfold pickedL; rw [hpb, hpq]; rfl
  have HPE : Hid (errI (pickedB n rs l p) = 0) := by show _ = _; rw [hpb]; rfl
  have HPK := Lib.hid hpk
  have HQ := Lib.hid hQ
  have hpn : Hid (∀ x ∈ p, 0 ≤ x) := by
    intro x hx
    have e := hpk
    simp only [picksB, Bool.and_eq_true, Bool.not_eq_true', List.any_eq_false] at e
    have := e.1 x hx
    simp [negB] at this
    exact this
  clear hQ hpq
  clear hco hf hpk hrb hpb hnN hN
  have hs : decide (rs.length ≤ 30) = true := by simp only [runsB, Bool.and_eq_true] at h; exact h.1.1.1
  have hc : compactB m = true := by simp only [runsB, Bool.and_eq_true] at h; exact h.1.1.2
  have hd1 : decide ((80 : Int) < (l.length : Int)) = false := by simp only [runsB, Bool.and_eq_true, decide_eq_true_eq] at h; simp <;> omega
  have hd2 : decide ((80 : Int) < (p.length : Int)) = false := by simp only [runsB, Bool.and_eq_true, decide_eq_true_eq] at h; simp <;> omega
  have HS := Lib.hid hs
  have HC := Lib.hid hc
  clear h hs hc
  have HB0 : Hid (Below w.heap.size w (gbox w n A rs.length c B m.length d)) := gbox_below w n A rs.length c B m.length d
  have HA0 := Lib.hid (hA.below HB0.out (Nat.le_refl _))
  have HM0 := Lib.hid (hM.below HB0.out (Nat.le_refl _))
  have hgm := gm_new w n A rs.length c B m.length d
  go_enter Try.func12, Try.ntmps12
  go_wp2_with fail
  obtain ⟨W, hW⟩ : ∃ W, gbox w n A rs.length c B m.length d = W := ⟨_, rfl⟩
  have hW' : (w.alloc (.cells #[.int .i64 n, .slice A rs.length c] 24)).alloc (.cells #[.slice B m.length d] 27) = W := hW
  rw [hW] at HB0 HA0 HM0 hgm
  rw [hW']
  have c0 := hgm.g.cell 0 (v := .int .i64 n) rfl
  have c1 := hgm.g.cell 1 (v := .slice A rs.length c) rfl
  have c2 := hgm.m.cell 0 (v := .slice B m.length d) rfl
  have hl0 := hgm.g.lt
  have hl1 := hgm.m.lt
  clear hW hW' hgm
  refine (small_any n A rs.length c W).mono ?_
  rintro e w1 ⟨rfl, hB1⟩
  rw [HS.out]
  have HD0 := Lib.hid (hD.below HB0.out (Nat.le_refl _))
  have HE0 := Lib.hid (hE.below HB0.out (Nat.le_refl _))
  have d2 := cell_chain hB1 hl1 c2
  go_wp2_with fail
  refine (compact_any B d m w1 (HM0.out.below hB1 (Nat.le_refl _))).mono ?_
  rintro e w2 ⟨rfl, hB2⟩
  rw [HC.out]
  have hI2 := below_in hB1 hB2
  have e0 := cell_chain hI2 hl0 c0
  have e1 := cell_chain hI2 hl0 c1
  have e2 := cell_chain hI2 hl1 c2
  clear d2 hB1 hB2
  go_wp2_with fail
  refine (Run_any n A c rs B d m D f l w2 (HA0.out.below hI2 (Nat.le_refl _)) (HM0.out.below hI2 (Nat.le_refl _)) (HD0.out.below hI2 (Nat.le_refl _))).mono ?_
  rintro e w3 ⟨A3, c3, B3, d3, rfl, hC3, hE3, hB3⟩
  rw [HRR.out] at hC3 ⊢
  rw [HRL.out] at hE3 ⊢
  rw [HRE.out]
  have hI3 := below_in hI2 hB3
  have f0 := cell_chain hI3 hl0 c0
  have f1 := cell_chain hI3 hl0 c1
  clear e0 e1 e2 hB3
  have HC3 := Lib.hid hC3
  have HE3 := Lib.hid hE3
  clear hC3 hE3
  go_wp2_with fail
  refine (Picked_any n A c rs D f l E g p w3 (HA0.out.below hI3 (Nat.le_refl _)) (HD0.out.below hI3 (Nat.le_refl _)) (HE0.out.below hI3 (Nat.le_refl _))).mono ?_
  rintro e w4 ⟨A4, c4, B4, d4, rfl, hC4, hE4, hB4⟩
  rw [HPR.out] at hC4 ⊢
  rw [HPL.out] at hE4 ⊢
  rw [HPE.out]
  have HC34 := Lib.hid (HC3.out.below hB4 (Nat.le_refl _))
  have HE34 := Lib.hid (HE3.out.below hB4 (Nat.le_refl _))
  have HC4 := Lib.hid hC4
  have HE4 := Lib.hid hE4
  have hI4 := below_in hI3 hB4
  have g0 := cell_chain hI4 hl0 c0
  have g1 := cell_chain hI4 hl0 c1
  clear f0 f1 hC4 hE4 hB4
  go_wp2_with fail
  refine (group_any n A c rs w4 (HA0.out.below hI4 (Nat.le_refl _))).mono ?_
  rintro e w5 ⟨rfl, hB5⟩
  rw [HG.out]
  have hI5 := below_in hI4 hB5
  have hJ5 : Below w4.heap.size w4 w5 := hB5
  have x0 := cell_chain hI5 hl0 c0
  have x1 := cell_chain hI5 hl0 c1
  have x2 := cell_chain hI5 hl1 c2
  clear g0 g1
  go_wp2_with fail
  refine (Come_any n A c rs D f l w5 (HD0.out.below hI5 (Nat.le_refl _))).mono ?_
  rintro e w6 ⟨rfl, hB6⟩
  rw [HCR.out]
  have hI6 := below_in hI5 hB6
  have hJ6 := below_in hJ5 hB6
  clear x0 x1 x2
  have x0 := cell_chain hI6 hl0 c0
  have x1 := cell_chain hI6 hl0 c1
  go_wp2_with fail
  refine (Picks_any p E g w6 (HE0.out.below hI6 (Nat.le_refl _))).mono ?_
  rintro e wp ⟨rfl, rfl⟩
  rw [HPK.out]
  go_wp2_with fail
  have e55 := RefPicked_any N A c rs D f l E g p w6 (HA0.out.below hI6 (Nat.le_refl _)) (HD0.out.below hI6 (Nat.le_refl _)) (HE0.out.below hI6 (Nat.le_refl _)) (by rw [HN.out]; exact HG.out) hl hl60 hpn
  rw [HN.out, HQ.out] at e55
  refine e55.mono ?_
  rintro e w7 ⟨A7, c7, B7, d7, rfl, hC7, hE7, hB7⟩
  have hI7 := below_in hI6 hB7
  have hJ7 := below_in hJ6 hB7
  have HC47 := Lib.hid (HC4.out.below hJ7 (Nat.le_refl _))
  have HE47 := Lib.hid (HE4.out.below hJ7 (Nat.le_refl _))
  have HC7 := Lib.hid hC7
  have HE7 := Lib.hid hE7
  clear e55 hC7 hE7 x0 x1
  go_wp2_with fail
  refine (Ints_refl Q.out A4 A7 c4 c7 w7 HC47.out HC7.out).mono ?_
  rintro e wi ⟨rfl, hBi⟩
  have hIi := below_in hI7 hBi
  have hJi := below_in hJ7 hBi
  go_wp2_with fail
  refine (Ints_refl Q.many B4 B7 d4 d7 wi (HE47.out.below hBi (Nat.le_refl _)) (HE7.out.below hBi (Nat.le_refl _))).mono ?_
  rintro e w8 ⟨rfl, hB8⟩
  have hI8 := below_in hIi hB8
  have hJ8 := below_in hJi hB8
  have x0 := cell_chain hI8 hl0 c0
  have x1 := cell_chain hI8 hl0 c1
  have x2 := cell_chain hI8 hl1 c2
  go_wp2_with fail
  clear x0 x1 x2
  refine (lawFormed_any n A c rs B d m w8 (HA0.out.below hI8 (Nat.le_refl _)) (HM0.out.below hI8 (Nat.le_refl _))).mono ?_
  rintro e w9 ⟨rfl, hB9⟩
  rw [HF.out]
  have hI9 := below_in hI8 hB9
  have hJ9 := below_in hJ8 hB9
  have x0 := cell_chain hI9 hl0 c0
  have x1 := cell_chain hI9 hl0 c1
  have x2 := cell_chain hI9 hl1 c2
  go_wp2_with (go_at_call 20; go_must (refine (known_any _).mono ?_); rintro e wz ⟨rfl, hBz⟩)
  go_ret
  exact ⟨rfl, below_in HB0.out (below_in hI9 hBz)⟩

set_option maxRecDepth 100000 in
set_option maxHeartbeats 8000000 in
theorem runs_YN (n : Int) (A : Option Addr) (c : Nat) (rs : List Int) (B : Option Addr) (d : Nat) (m : Mach) (D : Option Addr) (f : Nat) (l : List Int) (E : Option Addr) (g : Nat) (p : List Int) (w : World) (hA : Cells w A (ints rs)) (hM : MachAt w B m) (hD : Cells w D (ints l)) (hE : Cells w E (ints p)) (h : runsB rs m l p = true) (hco : comeI n rs l = true)
    (hpk : picksB p = true) (hf : formedA n rs m = true) (ho : rnTo rs m n.toNat l l.length = none) :
    Calls Try.prog 12 #[.agg #[.int .i64 n, .slice A rs.length c], .agg #[.slice B m.length d], .slice D l.length f, .slice E p.length g] w fun e w' => e = .returned (.bool true) ∧ Below w.heap.size w w' := by
  have hco' := hco
  simp only [comeI, Bool.and_eq_true, decide_eq_true_eq, Bool.not_eq_true'] at hco'
  obtain ⟨⟨hg, hl60⟩, hbad⟩ := hco'
  have hr : comeR n l = true := by unfold comeR; rw [hbad]; simpa using hl60
  obtain ⟨hn1, hn6, _, _⟩ := grpOk_true hg
  obtain ⟨N, hN⟩ := Int.eq_ofNat_of_zero_le (show 0 ≤ n by omega)
  have hnN : n.toNat = N := by omega
  have HN : Hid ((N : Int) = n) := hN.symm
  have hl : Hid (∀ x ∈ l, 0 ≤ x ∧ x < (N : Int)) := by
    intro x hx
    have hb : badC n x = false := by
      rw [List.any_eq_false] at hbad
      simpa using hbad x hx
    simp [badC] at hb
    omega
  have HG := Lib.hid hg
  have HCR := Lib.hid hr
  clear hg hr hbad hn1 hn6
  rw [hnN] at ho
  have hrb : runB n rs m l = true := by unfold runB; rw [hf, hco]; rfl
  have HRR : Hid (runR n rs m l = []) := by show _ = _; unfold runR; rw [hrb, hnN, ho]; rfl
  have HRL : Hid (runL n rs m l = []) := by show _ = _; unfold runL; rw [hrb, hnN, ho]; rfl
  have HRE : Hid (runE n rs m l = 7) := by show _ = _; unfold runE; rw [hrb, hnN, ho]; rfl
  have HF := Lib.hid hf
  have HO := Lib.hid ho
  obtain ⟨Q, hQ⟩ : ∃ Q, qTo rs (chPick p) N () l l.length = Q := ⟨_, rfl⟩
  have hpb : pickedB n rs l p = true := by unfold pickedB; rw [hpk, hco]; rfl
  have hpq : pickedQ n rs l p = Q := by unfold pickedQ; rw [hnN]; exact hQ
  have HPR : Hid (pickedR n rs l p = Q.out) := by show _ = _; unfold pickedR; rw [hpb, hpq]; rfl
  have HPL : Hid (pickedL n rs l p = Q.many) := by show _ = _; unfold pickedL; rw [hpb, hpq]; rfl
  have HPE : Hid (errI (pickedB n rs l p) = 0) := by show _ = _; rw [hpb]; rfl
  have HPK := Lib.hid hpk
  have HQ := Lib.hid hQ
  have hpn : Hid (∀ x ∈ p, 0 ≤ x) := by
    intro x hx
    have e := hpk
    simp only [picksB, Bool.and_eq_true, Bool.not_eq_true', List.any_eq_false] at e
    have := e.1 x hx
    simp [negB] at this
    exact this
  clear hQ hpq
  clear hco hf ho hpk hrb hpb hnN hN
  have hs : decide (rs.length ≤ 30) = true := by simp only [runsB, Bool.and_eq_true] at h; exact h.1.1.1
  have hc : compactB m = true := by simp only [runsB, Bool.and_eq_true] at h; exact h.1.1.2
  have hd1 : decide ((80 : Int) < (l.length : Int)) = false := by simp only [runsB, Bool.and_eq_true, decide_eq_true_eq] at h; simp <;> omega
  have hd2 : decide ((80 : Int) < (p.length : Int)) = false := by simp only [runsB, Bool.and_eq_true, decide_eq_true_eq] at h; simp <;> omega
  have HS := Lib.hid hs
  have HC := Lib.hid hc
  clear h hs hc
  have HB0 : Hid (Below w.heap.size w (gbox w n A rs.length c B m.length d)) := gbox_below w n A rs.length c B m.length d
  have HA0 := Lib.hid (hA.below HB0.out (Nat.le_refl _))
  have HM0 := Lib.hid (hM.below HB0.out (Nat.le_refl _))
  have hgm := gm_new w n A rs.length c B m.length d
  go_enter Try.func12, Try.ntmps12
  go_wp2_with fail
  obtain ⟨W, hW⟩ : ∃ W, gbox w n A rs.length c B m.length d = W := ⟨_, rfl⟩
  have hW' : (w.alloc (.cells #[.int .i64 n, .slice A rs.length c] 24)).alloc (.cells #[.slice B m.length d] 27) = W := hW
  rw [hW] at HB0 HA0 HM0 hgm
  rw [hW']
  have c0 := hgm.g.cell 0 (v := .int .i64 n) rfl
  have c1 := hgm.g.cell 1 (v := .slice A rs.length c) rfl
  have c2 := hgm.m.cell 0 (v := .slice B m.length d) rfl
  have hl0 := hgm.g.lt
  have hl1 := hgm.m.lt
  clear hW hW' hgm
  refine (small_any n A rs.length c W).mono ?_
  rintro e w1 ⟨rfl, hB1⟩
  rw [HS.out]
  have HD0 := Lib.hid (hD.below HB0.out (Nat.le_refl _))
  have HE0 := Lib.hid (hE.below HB0.out (Nat.le_refl _))
  have d2 := cell_chain hB1 hl1 c2
  go_wp2_with fail
  refine (compact_any B d m w1 (HM0.out.below hB1 (Nat.le_refl _))).mono ?_
  rintro e w2 ⟨rfl, hB2⟩
  rw [HC.out]
  have hI2 := below_in hB1 hB2
  have e0 := cell_chain hI2 hl0 c0
  have e1 := cell_chain hI2 hl0 c1
  have e2 := cell_chain hI2 hl1 c2
  clear d2 hB1 hB2
  go_wp2_with fail
  refine (Run_any n A c rs B d m D f l w2 (HA0.out.below hI2 (Nat.le_refl _)) (HM0.out.below hI2 (Nat.le_refl _)) (HD0.out.below hI2 (Nat.le_refl _))).mono ?_
  rintro e w3 ⟨A3, c3, B3, d3, rfl, hC3, hE3, hB3⟩
  rw [HRR.out] at hC3 ⊢
  rw [HRL.out] at hE3 ⊢
  rw [HRE.out]
  have hI3 := below_in hI2 hB3
  have f0 := cell_chain hI3 hl0 c0
  have f1 := cell_chain hI3 hl0 c1
  clear e0 e1 e2 hB3
  have HC3 := Lib.hid hC3
  have HE3 := Lib.hid hE3
  clear hC3 hE3
  go_wp2_with fail
  refine (Picked_any n A c rs D f l E g p w3 (HA0.out.below hI3 (Nat.le_refl _)) (HD0.out.below hI3 (Nat.le_refl _)) (HE0.out.below hI3 (Nat.le_refl _))).mono ?_
  rintro e w4 ⟨A4, c4, B4, d4, rfl, hC4, hE4, hB4⟩
  rw [HPR.out] at hC4 ⊢
  rw [HPL.out] at hE4 ⊢
  rw [HPE.out]
  have HC34 := Lib.hid (HC3.out.below hB4 (Nat.le_refl _))
  have HE34 := Lib.hid (HE3.out.below hB4 (Nat.le_refl _))
  have HC4 := Lib.hid hC4
  have HE4 := Lib.hid hE4
  have hI4 := below_in hI3 hB4
  have g0 := cell_chain hI4 hl0 c0
  have g1 := cell_chain hI4 hl0 c1
  clear f0 f1 hC4 hE4 hB4
  go_wp2_with fail
  refine (group_any n A c rs w4 (HA0.out.below hI4 (Nat.le_refl _))).mono ?_
  rintro e w5 ⟨rfl, hB5⟩
  rw [HG.out]
  have hI5 := below_in hI4 hB5
  have hJ5 : Below w4.heap.size w4 w5 := hB5
  have x0 := cell_chain hI5 hl0 c0
  have x1 := cell_chain hI5 hl0 c1
  have x2 := cell_chain hI5 hl1 c2
  clear g0 g1
  go_wp2_with fail
  refine (Come_any n A c rs D f l w5 (HD0.out.below hI5 (Nat.le_refl _))).mono ?_
  rintro e w6 ⟨rfl, hB6⟩
  rw [HCR.out]
  have hI6 := below_in hI5 hB6
  have hJ6 := below_in hJ5 hB6
  clear x0 x1 x2
  have x0 := cell_chain hI6 hl0 c0
  have x1 := cell_chain hI6 hl0 c1
  go_wp2_with fail
  refine (Picks_any p E g w6 (HE0.out.below hI6 (Nat.le_refl _))).mono ?_
  rintro e wp ⟨rfl, rfl⟩
  rw [HPK.out]
  go_wp2_with fail
  have e55 := RefPicked_any N A c rs D f l E g p w6 (HA0.out.below hI6 (Nat.le_refl _)) (HD0.out.below hI6 (Nat.le_refl _)) (HE0.out.below hI6 (Nat.le_refl _)) (by rw [HN.out]; exact HG.out) hl hl60 hpn
  rw [HN.out, HQ.out] at e55
  refine e55.mono ?_
  rintro e w7 ⟨A7, c7, B7, d7, rfl, hC7, hE7, hB7⟩
  have hI7 := below_in hI6 hB7
  have hJ7 := below_in hJ6 hB7
  have HC47 := Lib.hid (HC4.out.below hJ7 (Nat.le_refl _))
  have HE47 := Lib.hid (HE4.out.below hJ7 (Nat.le_refl _))
  have HC7 := Lib.hid hC7
  have HE7 := Lib.hid hE7
  clear e55 hC7 hE7 x0 x1
  go_wp2_with fail
  refine (Ints_refl Q.out A4 A7 c4 c7 w7 HC47.out HC7.out).mono ?_
  rintro e wi ⟨rfl, hBi⟩
  have hIi := below_in hI7 hBi
  have hJi := below_in hJ7 hBi
  go_wp2_with fail
  refine (Ints_refl Q.many B4 B7 d4 d7 wi (HE47.out.below hBi (Nat.le_refl _)) (HE7.out.below hBi (Nat.le_refl _))).mono ?_
  rintro e w8 ⟨rfl, hB8⟩
  have hI8 := below_in hIi hB8
  have hJ8 := below_in hJi hB8
  have x0 := cell_chain hI8 hl0 c0
  have x1 := cell_chain hI8 hl0 c1
  have x2 := cell_chain hI8 hl1 c2
  go_wp2_with fail
  clear x0 x1 x2
  refine (lawFormed_any n A c rs B d m w8 (HA0.out.below hI8 (Nat.le_refl _)) (HM0.out.below hI8 (Nat.le_refl _))).mono ?_
  rintro e w9 ⟨rfl, hB9⟩
  rw [HF.out]
  have hI9 := below_in hI8 hB9
  have hJ9 := below_in hJ8 hB9
  have x0 := cell_chain hI9 hl0 c0
  have x1 := cell_chain hI9 hl0 c1
  have x2 := cell_chain hI9 hl1 c2
  go_wp2_with fail
  refine (Come_any n A c rs D f l w9 (HD0.out.below hI9 (Nat.le_refl _))).mono ?_
  rintro e w10 ⟨rfl, hB10⟩
  rw [HCR.out]
  have hI10 := below_in hI9 hB10
  have hJ10 := below_in hJ9 hB10
  have y0 := cell_chain hI10 hl0 c0
  have y1 := cell_chain hI10 hl0 c1
  have y2 := cell_chain hI10 hl1 c2
  clear x0 x1 x2
  go_wp2_with fail
  clear y0 y1 y2
  have e56 := RefRun_any N A c rs B d m D f l w10 (HA0.out.below hI10 (Nat.le_refl _)) (HM0.out.below hI10 (Nat.le_refl _)) (HD0.out.below hI10 (Nat.le_refl _)) (by rw [HN.out]; exact HF.out) hl hl60
  rw [HN.out, HO.out] at e56
  refine e56.mono ?_
  rintro e w11 ⟨he, hB11⟩
  have he : e = .returned (.tuple #[.slice none 0 0, .slice none 0 0, .bool false]) := he
  subst he
  have hI11 := below_in hI10 hB11
  clear e56
  go_wp2_with (go_at_call 20; go_must (refine (known_any _).mono ?_); rintro e wz ⟨rfl, hBz⟩)
  go_ret
  exact ⟨rfl, below_in HB0.out (below_in hI11 hBz)⟩

set_option maxRecDepth 100000 in
set_option maxHeartbeats 8000000 in
theorem runs_YS (n : Int) (A : Option Addr) (c : Nat) (rs : List Int) (B : Option Addr) (d : Nat) (m : Mach) (D : Option Addr) (f : Nat) (l : List Int) (E : Option Addr) (g : Nat) (p : List Int) (w : World) (hA : Cells w A (ints rs)) (hM : MachAt w B m) (hD : Cells w D (ints l)) (hE : Cells w E (ints p)) (h : runsB rs m l p = true) (hco : comeI n rs l = true)
    (hpk : picksB p = true) (hf : formedA n rs m = true) (q : RnS) (ho : rnTo rs m n.toNat l l.length = some q) :
    Calls Try.prog 12 #[.agg #[.int .i64 n, .slice A rs.length c], .agg #[.slice B m.length d], .slice D l.length f, .slice E p.length g] w fun e w' => e = .returned (.bool true) ∧ Below w.heap.size w w' := by
  have hco' := hco
  simp only [comeI, Bool.and_eq_true, decide_eq_true_eq, Bool.not_eq_true'] at hco'
  obtain ⟨⟨hg, hl60⟩, hbad⟩ := hco'
  have hr : comeR n l = true := by unfold comeR; rw [hbad]; simpa using hl60
  obtain ⟨hn1, hn6, _, _⟩ := grpOk_true hg
  obtain ⟨N, hN⟩ := Int.eq_ofNat_of_zero_le (show 0 ≤ n by omega)
  have hnN : n.toNat = N := by omega
  have HN : Hid ((N : Int) = n) := hN.symm
  have hl : Hid (∀ x ∈ l, 0 ≤ x ∧ x < (N : Int)) := by
    intro x hx
    have hb : badC n x = false := by
      rw [List.any_eq_false] at hbad
      simpa using hbad x hx
    simp [badC] at hb
    omega
  have HG := Lib.hid hg
  have HCR := Lib.hid hr
  clear hg hr hbad hn1 hn6
  rw [hnN] at ho
  have hrb : runB n rs m l = true := by unfold runB; rw [hf, hco]; rfl
  have HRR : Hid (runR n rs m l = q.out) := by show _ = _; unfold runR; rw [hrb, hnN, ho]; rfl
  have HRL : Hid (runL n rs m l = q.many) := by show _ = _; unfold runL; rw [hrb, hnN, ho]; rfl
  have HRE : Hid (runE n rs m l = 0) := by show _ = _; unfold runE; rw [hrb, hnN, ho]; rfl
  have HF := Lib.hid hf
  have HO := Lib.hid ho
  obtain ⟨Q, hQ⟩ : ∃ Q, qTo rs (chPick p) N () l l.length = Q := ⟨_, rfl⟩
  have hpb : pickedB n rs l p = true := by unfold pickedB; rw [hpk, hco]; rfl
  have hpq : pickedQ n rs l p = Q := by unfold pickedQ; rw [hnN]; exact hQ
  have HPR : Hid (pickedR n rs l p = Q.out) := by show _ = _; unfold pickedR; rw [hpb, hpq]; rfl
  have HPL : Hid (pickedL n rs l p = Q.many) := by show _ = _; unfold pickedL; rw [hpb, hpq]; rfl
  have HPE : Hid (errI (pickedB n rs l p) = 0) := by show _ = _; rw [hpb]; rfl
  have HPK := Lib.hid hpk
  have HQ := Lib.hid hQ
  have hpn : Hid (∀ x ∈ p, 0 ≤ x) := by
    intro x hx
    have e := hpk
    simp only [picksB, Bool.and_eq_true, Bool.not_eq_true', List.any_eq_false] at e
    have := e.1 x hx
    simp [negB] at this
    exact this
  clear hQ hpq
  clear hco hf ho hpk hrb hpb hnN hN
  have hs : decide (rs.length ≤ 30) = true := by simp only [runsB, Bool.and_eq_true] at h; exact h.1.1.1
  have hc : compactB m = true := by simp only [runsB, Bool.and_eq_true] at h; exact h.1.1.2
  have hd1 : decide ((80 : Int) < (l.length : Int)) = false := by simp only [runsB, Bool.and_eq_true, decide_eq_true_eq] at h; simp <;> omega
  have hd2 : decide ((80 : Int) < (p.length : Int)) = false := by simp only [runsB, Bool.and_eq_true, decide_eq_true_eq] at h; simp <;> omega
  have HS := Lib.hid hs
  have HC := Lib.hid hc
  clear h hs hc
  have HB0 : Hid (Below w.heap.size w (gbox w n A rs.length c B m.length d)) := gbox_below w n A rs.length c B m.length d
  have HA0 := Lib.hid (hA.below HB0.out (Nat.le_refl _))
  have HM0 := Lib.hid (hM.below HB0.out (Nat.le_refl _))
  have hgm := gm_new w n A rs.length c B m.length d
  go_enter Try.func12, Try.ntmps12
  go_wp2_with fail
  obtain ⟨W, hW⟩ : ∃ W, gbox w n A rs.length c B m.length d = W := ⟨_, rfl⟩
  have hW' : (w.alloc (.cells #[.int .i64 n, .slice A rs.length c] 24)).alloc (.cells #[.slice B m.length d] 27) = W := hW
  rw [hW] at HB0 HA0 HM0 hgm
  rw [hW']
  have c0 := hgm.g.cell 0 (v := .int .i64 n) rfl
  have c1 := hgm.g.cell 1 (v := .slice A rs.length c) rfl
  have c2 := hgm.m.cell 0 (v := .slice B m.length d) rfl
  have hl0 := hgm.g.lt
  have hl1 := hgm.m.lt
  clear hW hW' hgm
  refine (small_any n A rs.length c W).mono ?_
  rintro e w1 ⟨rfl, hB1⟩
  rw [HS.out]
  have HD0 := Lib.hid (hD.below HB0.out (Nat.le_refl _))
  have HE0 := Lib.hid (hE.below HB0.out (Nat.le_refl _))
  have d2 := cell_chain hB1 hl1 c2
  go_wp2_with fail
  refine (compact_any B d m w1 (HM0.out.below hB1 (Nat.le_refl _))).mono ?_
  rintro e w2 ⟨rfl, hB2⟩
  rw [HC.out]
  have hI2 := below_in hB1 hB2
  have e0 := cell_chain hI2 hl0 c0
  have e1 := cell_chain hI2 hl0 c1
  have e2 := cell_chain hI2 hl1 c2
  clear d2 hB1 hB2
  go_wp2_with fail
  refine (Run_any n A c rs B d m D f l w2 (HA0.out.below hI2 (Nat.le_refl _)) (HM0.out.below hI2 (Nat.le_refl _)) (HD0.out.below hI2 (Nat.le_refl _))).mono ?_
  rintro e w3 ⟨A3, c3, B3, d3, rfl, hC3, hE3, hB3⟩
  rw [HRR.out] at hC3 ⊢
  rw [HRL.out] at hE3 ⊢
  rw [HRE.out]
  have hI3 := below_in hI2 hB3
  have f0 := cell_chain hI3 hl0 c0
  have f1 := cell_chain hI3 hl0 c1
  clear e0 e1 e2 hB3
  have HC3 := Lib.hid hC3
  have HE3 := Lib.hid hE3
  clear hC3 hE3
  go_wp2_with fail
  refine (Picked_any n A c rs D f l E g p w3 (HA0.out.below hI3 (Nat.le_refl _)) (HD0.out.below hI3 (Nat.le_refl _)) (HE0.out.below hI3 (Nat.le_refl _))).mono ?_
  rintro e w4 ⟨A4, c4, B4, d4, rfl, hC4, hE4, hB4⟩
  rw [HPR.out] at hC4 ⊢
  rw [HPL.out] at hE4 ⊢
  rw [HPE.out]
  have HC34 := Lib.hid (HC3.out.below hB4 (Nat.le_refl _))
  have HE34 := Lib.hid (HE3.out.below hB4 (Nat.le_refl _))
  have HC4 := Lib.hid hC4
  have HE4 := Lib.hid hE4
  have hI4 := below_in hI3 hB4
  have g0 := cell_chain hI4 hl0 c0
  have g1 := cell_chain hI4 hl0 c1
  clear f0 f1 hC4 hE4 hB4
  go_wp2_with fail
  refine (group_any n A c rs w4 (HA0.out.below hI4 (Nat.le_refl _))).mono ?_
  rintro e w5 ⟨rfl, hB5⟩
  rw [HG.out]
  have hI5 := below_in hI4 hB5
  have hJ5 : Below w4.heap.size w4 w5 := hB5
  have x0 := cell_chain hI5 hl0 c0
  have x1 := cell_chain hI5 hl0 c1
  have x2 := cell_chain hI5 hl1 c2
  clear g0 g1
  go_wp2_with fail
  refine (Come_any n A c rs D f l w5 (HD0.out.below hI5 (Nat.le_refl _))).mono ?_
  rintro e w6 ⟨rfl, hB6⟩
  rw [HCR.out]
  have hI6 := below_in hI5 hB6
  have hJ6 := below_in hJ5 hB6
  clear x0 x1 x2
  have x0 := cell_chain hI6 hl0 c0
  have x1 := cell_chain hI6 hl0 c1
  go_wp2_with fail
  refine (Picks_any p E g w6 (HE0.out.below hI6 (Nat.le_refl _))).mono ?_
  rintro e wp ⟨rfl, rfl⟩
  rw [HPK.out]
  go_wp2_with fail
  have e55 := RefPicked_any N A c rs D f l E g p w6 (HA0.out.below hI6 (Nat.le_refl _)) (HD0.out.below hI6 (Nat.le_refl _)) (HE0.out.below hI6 (Nat.le_refl _)) (by rw [HN.out]; exact HG.out) hl hl60 hpn
  rw [HN.out, HQ.out] at e55
  refine e55.mono ?_
  rintro e w7 ⟨A7, c7, B7, d7, rfl, hC7, hE7, hB7⟩
  have hI7 := below_in hI6 hB7
  have hJ7 := below_in hJ6 hB7
  have HC47 := Lib.hid (HC4.out.below hJ7 (Nat.le_refl _))
  have HE47 := Lib.hid (HE4.out.below hJ7 (Nat.le_refl _))
  have HC7 := Lib.hid hC7
  have HE7 := Lib.hid hE7
  clear e55 hC7 hE7 x0 x1
  go_wp2_with fail
  refine (Ints_refl Q.out A4 A7 c4 c7 w7 HC47.out HC7.out).mono ?_
  rintro e wi ⟨rfl, hBi⟩
  have hIi := below_in hI7 hBi
  have hJi := below_in hJ7 hBi
  go_wp2_with fail
  refine (Ints_refl Q.many B4 B7 d4 d7 wi (HE47.out.below hBi (Nat.le_refl _)) (HE7.out.below hBi (Nat.le_refl _))).mono ?_
  rintro e w8 ⟨rfl, hB8⟩
  have hI8 := below_in hIi hB8
  have hJ8 := below_in hJi hB8
  have x0 := cell_chain hI8 hl0 c0
  have x1 := cell_chain hI8 hl0 c1
  have x2 := cell_chain hI8 hl1 c2
  go_wp2_with fail
  clear x0 x1 x2
  refine (lawFormed_any n A c rs B d m w8 (HA0.out.below hI8 (Nat.le_refl _)) (HM0.out.below hI8 (Nat.le_refl _))).mono ?_
  rintro e w9 ⟨rfl, hB9⟩
  rw [HF.out]
  have hI9 := below_in hI8 hB9
  have hJ9 := below_in hJ8 hB9
  have x0 := cell_chain hI9 hl0 c0
  have x1 := cell_chain hI9 hl0 c1
  have x2 := cell_chain hI9 hl1 c2
  go_wp2_with fail
  refine (Come_any n A c rs D f l w9 (HD0.out.below hI9 (Nat.le_refl _))).mono ?_
  rintro e w10 ⟨rfl, hB10⟩
  rw [HCR.out]
  have hI10 := below_in hI9 hB10
  have hJ10 := below_in hJ9 hB10
  have y0 := cell_chain hI10 hl0 c0
  have y1 := cell_chain hI10 hl0 c1
  have y2 := cell_chain hI10 hl1 c2
  clear x0 x1 x2
  go_wp2_with fail
  clear y0 y1 y2
  have e56 := RefRun_any N A c rs B d m D f l w10 (HA0.out.below hI10 (Nat.le_refl _)) (HM0.out.below hI10 (Nat.le_refl _)) (HD0.out.below hI10 (Nat.le_refl _)) (by rw [HN.out]; exact HF.out) hl hl60
  rw [HN.out, HO.out] at e56
  refine e56.mono ?_
  rintro e w11 ⟨⟨A11, c11, B11, d11, he, hC11, hE11⟩, hB11⟩
  subst he
  have hI11 := below_in hI10 hB11
  have hJ11 := below_in hJ10 hB11
  have HCa := Lib.hid (HC34.out.below hJ11 (Nat.le_refl _))
  have HEa := Lib.hid (HE34.out.below hJ11 (Nat.le_refl _))
  have HCb := Lib.hid hC11
  have HEb := Lib.hid hE11
  clear e56 hC11 hE11
  go_wp2_with fail
  refine (Ints_refl q.out A3 A11 c3 c11 w11 HCa.out HCb.out).mono ?_
  rintro e w12 ⟨rfl, hB12⟩
  go_wp2_with fail
  refine (Ints_refl q.many B3 B11 d3 d11 w12 (HEa.out.below hB12 (Nat.le_refl _)) (HEb.out.below hB12 (Nat.le_refl _))).mono ?_
  rintro e w13 ⟨rfl, hB13⟩
  go_wp2_with (go_at_call 20; go_must (refine (known_any _).mono ?_); rintro e wz ⟨rfl, hBz⟩)
  go_ret
  exact ⟨rfl, below_in HB0.out (below_in hI11 (below_in hB12 (below_in hB13 hBz)))⟩

theorem walk_runs (n : Int) (A : Option Addr) (c : Nat) (rs : List Int) (B : Option Addr) (d : Nat) (m : Mach) (D : Option Addr) (f : Nat) (l : List Int) (E : Option Addr) (g : Nat) (p : List Int) (w : World) (hA : Cells w A (ints rs)) (hM : MachAt w B m) (hD : Cells w D (ints l)) (hE : Cells w E (ints p)) :
    Calls Try.prog 12 #[.agg #[.int .i64 n, .slice A rs.length c], .agg #[.slice B m.length d], .slice D l.length f, .slice E p.length g] w fun e w' => e = .returned (.bool true) ∧ Below w.heap.size w w' := by
  cases h : runsB rs m l p with
  | false => exact runs_big n A c rs B d m D f l E g p w hA hM h
  | true =>
    cases hg : grpOk n rs with
    | false => exact runs_g n A c rs B d m D f l E g p w hA hM hD hE h hg
    | true =>
      cases hr : comeR n l with
      | false => exact runs_c n A c rs B d m D f l E g p w hA hM hD hE h hg hr
      | true =>
        have hco : comeI n rs l = true := by
          have e : comeI n rs l = (grpOk n rs && comeR n l) := by unfold comeI comeR; rw [Bool.and_assoc]
          rw [e, hg, hr]; rfl
        cases hpk : picksB p with
        | false =>
          cases hf : formedA n rs m with
          | false => exact runs_PF n A c rs B d m D f l E g p w hA hM hD hE h hco hpk hf
          | true =>
            cases ho : rnTo rs m n.toNat l l.length with
            | none => exact runs_PN n A c rs B d m D f l E g p w hA hM hD hE h hco hpk hf ho
            | some q => exact runs_PS n A c rs B d m D f l E g p w hA hM hD hE h hco hpk hf q ho
        | true =>
          cases hf : formedA n rs m with
          | false => exact runs_YF n A c rs B d m D f l E g p w hA hM hD hE h hco hpk hf
          | true =>
            cases ho : rnTo rs m n.toNat l l.length with
            | none => exact runs_YN n A c rs B d m D f l E g p w hA hM hD hE h hco hpk hf ho
            | some q => exact runs_YS n A c rs B d m D f l E g p w hA hM hD hE h hco hpk hf q ho
end Go.Proofs.Ytlnonadkdonhmaa

/- AutoRuns returns true for every group, machine, messages and picks, and leaves its arguments as they were. No condition. -/
namespace Go.Proofs.Ytlnonadkdonhmaa
open Go.ChangeShapes Go.WideShapes Go.ChangeAt Go.RowKit

theorem own_runs : ownKnob Try.prog.godebug = none := by kernel_rfl
theorem laid_runs : laidOutB Try.prog = true := by kernel_rfl

set_option maxRecDepth 100000 in
theorem lifted_runs (os : Os) (started : os.Started) (H : Type) (enc : TypeId × Value → H) :
    ReturnsInHanded {} Try.checked os 12 .any (Rows.autoRunsSpec.pre6 enc Try.prog Try.f12 Rows.autoRunsRow.domain false) (Rows.autoRunsSpec.post enc Try.prog Try.f12 false true false false) := by
  refine returnsInHanded_of_change_sized (C := Try.checked) own_runs started (by kernel_rfl) Try.func12
    (ChangeSpec.witness6 (enc := enc) (C := Try.checked) false ⟨#[], #[.agg #[.int .i64 0, .slice none 0 0], .agg #[.slice none 0 0], .slice none 0 0, .slice none 0 0], []⟩ 8 (by kernel_rfl) (by kernel_rfl) (by kernel_rfl) (by kernel_rfl)) ?_
  intro W base args ds gs before hval0 hW hcnd hsz0 _
  have hval : ∀ (j : Nat) t v, Try.f12.params[j]? = some t → args[j]? = some v → Value.okWide Try.prog W .any base t v := hval0
  have hsz : (DataW.weightsEach Try.prog (Try.f12.params.toList ++ Rows.autoRunsSpec.plain.varTypes Try.prog) (ds ++ gs)).all (· ≤ reachBytes) = true := hsz0
  have hW' := hW
  obtain ⟨p, q, hA0, hV, rfl, hfz, hnd⟩ := hW
  have hA : DataW.TrodAll enc Try.prog W 0 (fun _ => true) true Try.f12.params.toList args.toList ds p := hA0
  rw [Try.params12] at hA hval hsz
  obtain ⟨v0, vs0, d0, ds0, p0, q0, hargs, rfl, rfl, h0, r0⟩ := trodAll_cons hA
  obtain ⟨v1, vs1, d1, ds1, p1, q1, rfl, rfl, rfl, h1, r1⟩ := trodAll_cons r0
  obtain ⟨v2, vs2, d2, ds2, p2, q2, rfl, rfl, rfl, h2, r2⟩ := trodAll_cons r1
  obtain ⟨v3, vs3, d3, ds3, p3, q3, rfl, rfl, rfl, h3, r3⟩ := trodAll_cons r2
  obtain ⟨rfl, rfl, rfl⟩ := trodAll_nil r3
  obtain rfl : args = #[v0, v1, v2, v3] := by cases args; simp_all
  obtain ⟨rfl, rfl⟩ := trodVars_none hV
  have s0 : sz Try.prog 24 d0 := sz_arg hsz (j := 0) rfl rfl
  obtain ⟨n0, A0, rs0, c0, rfl, hC0, hw0⟩ := arg_group (hval 0 24 v0 rfl rfl) h0 s0
  have k0 := h0
  have lt0 : ∀ x ∈ p0, x.block < W.heap.size := by obtain ⟨m, hm⟩ := k0; exact DataW.trod_lt m _ _ _ hm
  have s1 : sz Try.prog 27 d1 := sz_arg hsz (j := 1) rfl rfl
  obtain ⟨B1, m1, e1, rfl, hC1⟩ := arg_mach (hval 1 27 v1 rfl rfl) h1 s1
  have k1 := h1
  have lt1 : ∀ x ∈ p1, x.block < W.heap.size := by obtain ⟨m, hm⟩ := k1; exact DataW.trod_lt m _ _ _ hm
  have s2 : sz Try.prog 22 d2 := sz_arg hsz (j := 2) rfl rfl
  obtain ⟨D2, xs2, f2, rfl, hC2⟩ := arg_slI (hval 2 22 v2 rfl rfl) h2 s2
  have k2 := h2
  have lt2 : ∀ x ∈ p2, x.block < W.heap.size := by obtain ⟨m, hm⟩ := k2; exact DataW.trod_lt m _ _ _ hm
  have s3 : sz Try.prog 22 d3 := sz_arg hsz (j := 3) rfl rfl
  obtain ⟨D3, xs3, f3, rfl, hC3⟩ := arg_slI (hval 3 22 v3 rfl rfl) h3 s3
  have k3 := h3
  have lt3 : ∀ x ∈ p3, x.block < W.heap.size := by obtain ⟨m, hm⟩ := k3; exact DataW.trod_lt m _ _ _ hm
  clear hA0 hval0
  refine (walk_runs n0 A0 c0 rs0 B1 e1 m1 D2 f2 xs2 D3 f3 xs3 W hC0 hC1 hC2 hC3).mono fun e W' ⟨he, bel⟩ => ?_
  subst he
  exact ⟨_, rfl, _, _, _, [], _, [], hW', trodAll_mk1 (shut_bool Try.underlying4 _), (trodAll_cons_mk (Below.trod laid_runs (by kernel_rfl) (of_decide_eq_true (by kernel_rfl)) k0 bel lt0) (trodAll_cons_mk (Below.trod laid_runs (by kernel_rfl) (of_decide_eq_true (by kernel_rfl)) k1 bel lt1) (trodAll_cons_mk (Below.trod laid_runs (by kernel_rfl) (of_decide_eq_true (by kernel_rfl)) k2 bel lt2) (trodAll_cons_mk (Below.trod laid_runs (by kernel_rfl) (of_decide_eq_true (by kernel_rfl)) k3 bel lt3) trodAll_mk0)))), rfl, bel.frame _, fun h => by cases h⟩

theorem runs_holds : Rows.AutoRunsSaid :=
  OpenClaim.holds_of_wide 12 Try.f12 rfl rfl rfl rfl rfl rfl rfl ⟨rfl, rfl, rfl, rfl, rfl⟩ rfl rfl rfl rfl rfl (by kernel_rfl) Try.func12 (by kernel_rfl)
    (of_decide_eq_true (by kernel_rfl)) (by unfold Func.isWrapper; first | (rw [if_pos (by decide +kernel)]; kernel_rfl) | (rw [if_neg (by decide +kernel)]; exact ⟨rfl, rfl⟩))
    (fun os started H enc _ => lifted_runs os started H enc)
#print axioms runs_holds
end Go.Proofs.Ytlnonadkdonhmaa
