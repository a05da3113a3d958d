/- Contracts and lemmas that a claim of this seat uses. -/
import Derived.Test.YtlnonadkdonhmaaL2
import Derived.Test.YtlnonadkdonhmaaL1

/- Contract: Formed of the reference. -/
namespace Go.Proofs.Ytlnonadkdonhmaa
open Go.RowKit

def manyR (rs : List Int) (c rule : Int) : Nat := if 0 ≤ rule then 2 ^ (othersI (rs.getD rule.toNat 0) c).length else 1
def actOkR (rs : List Int) (len : Nat) (c : Int) (a : AAct) : Bool := ruleOk rs c a.rule && (decide (a.next.length = manyR rs c a.rule) && a.next.all (nextOk len))
def rowOkR (n : Int) (rs : List Int) (len : Nat) (acts : List AAct) : Bool := decide ((acts.length : Int) = n) && allTo (fun c a => actOkR rs len c a) acts acts.length
def formedR (n : Int) (rs : List Int) (m : Mach) : Bool := decide (1 ≤ m.length) && decide (m.length ≤ 64) && m.all (rowOkR n rs m.length)

theorem ruleOk_lo {rs : List Int} {c r : Int} (h : r < -1) : ruleOk rs c r = false := by
  have h1 : decide (r = -1) = false := by simp <;> omega
  have h2 : decide (0 ≤ r) = false := by simp <;> omega
  unfold ruleOk; rw [h1, h2]; rfl
theorem ruleOk_hi {rs : List Int} {c r : Int} (h : (rs.length : Int) ≤ r) : ruleOk rs c r = false := by
  have h1 : decide (r = -1) = false := by simp <;> omega
  have h2 : decide (r < (rs.length : Int)) = false := by simp <;> omega
  unfold ruleOk; rw [h1, h2]; simp
theorem ruleOk_in {rs : List Int} {c r x : Int} (h0 : 0 ≤ r) (h : r < (rs.length : Int)) (hx : rs.getD r.toNat 0 = x) : ruleOk rs c r = inI x c := by
  have h1 : decide (r = -1) = false := by simp <;> omega
  unfold ruleOk; rw [h1, decide_eq_true h0, decide_eq_true h, hx]; rfl
theorem ruleOk_m1 {rs : List Int} {c r : Int} (h0 : ¬ r < -1) (h : ¬ 0 ≤ r) : ruleOk rs c r = true := by
  have h1 : r = -1 := by omega
  unfold ruleOk; rw [decide_eq_true h1]; rfl
theorem actOkR_no {rs : List Int} {len : Nat} {c : Int} {a : AAct} (h : ruleOk rs c a.rule = false) : actOkR rs len c a = false := by unfold actOkR; rw [h]; rfl
theorem actOkR_in {rs : List Int} {len : Nat} {c x : Int} {a : AAct} {M : Nat} (h0 : 0 ≤ a.rule) (h : a.rule < (rs.length : Int)) (hx : rs.getD a.rule.toNat 0 = x) (hi : inI x c = true) (hM : 2 ^ (othersI x c).length = M) : actOkR rs len c a = (decide (a.next.length = M) && a.next.all (nextOk len)) := by
  unfold actOkR manyR; rw [ruleOk_in h0 h hx, hi, if_pos h0, hx, hM]; rfl
theorem actOkR_m1 {rs : List Int} {len : Nat} {c : Int} {a : AAct} (h0 : ¬ a.rule < -1) (h : ¬ 0 ≤ a.rule) : actOkR rs len c a = (decide (a.next.length = 1) && a.next.all (nextOk len)) := by
  unfold actOkR manyR; rw [ruleOk_m1 h0 h, if_neg h]; rfl

set_option maxRecDepth 100000 in
set_option maxHeartbeats 8000000 in
theorem FormedR_loop (n : Int) (A : Option Addr) (c : Nat) (rs : List Int) (B : Option Addr) (d : Nat) (m : Mach) (w : World) (hA : Cells w A (ints rs)) (hM : MachAt w B m) (hn6 : n ≤ 60) (hl1 : 1 ≤ m.length) (hl2 : m.length ≤ 64) :
    Calls Try.prog 26 #[.agg #[.int .i64 n, .slice A rs.length c], .agg #[.slice B m.length d]] w fun e w' => e = .returned (.bool (m.all (rowOkR n rs m.length))) ∧ Below w.heap.size w w' := by
  have HB2 := Lib.hid (gbox_below w n A rs.length c B m.length d)
  have HA2 := Lib.hid (hA.below HB2.out (Nat.le_refl _))
  have hM2 : MachAt (gbox w n A rs.length c B m.length d) B m := hM.below HB2.out (Nat.le_refl _)
  have hd2 : decide ((m.length : Int) < 1) = false := by simp <;> omega
  have hd3 : decide ((64 : Int) < (m.length : Int)) = false := by simp <;> omega
  go_enter Try.func26, Try.ntmps26
  go_wp2
  go_loopw [25] (fun i wr => ∃ k : Nat, k ≤ m.length ∧ i = .int .i64 k ∧ (m.take k).all (rowOkR n rs m.length) = true ∧ Below (w.heap.size + 2) (gbox w n A rs.length c B m.length d) wr) (fun i _ => m.length - (intOf i).toNat)
  case atStart => exact ⟨0, Nat.zero_le _, rfl, rfl, Below.refl _ _⟩
  case round =>
    obtain ⟨k, hk, rfl, hall, hB⟩ := hrel
    have Hall := Lib.hid hall
    have g0 := cell_chain (b := w.heap.size) (i := 0) (v := .int .i64 n) hB (by omega) (by go_simp)
    have hMr := hM2.below hB (by rw [gbox_size]; exact Nat.le_refl _)
    have hszr : w.heap.size + 2 ≤ wr.heap.size := by have h := hB.size; rw [gbox_size] at h; exact h
    clear hall
    by_cases hlt : k < m.length
    · obtain ⟨acts, E, f, b, o, hr, hb, hix, hc, hacts⟩ := mach_at (c := d) hMr hlt
      have HR := Lib.hid hr
      have hal := hacts.len
      clear hr
      by_cases hln : (acts.length : Int) = n
      · have hd4 : ((acts.length : Int) != n) = false := by simp [hln]
        have hlb : acts.length ≤ 60 := by omega
        have HW : Hid (rowOkR n rs m.length acts = allTo (fun c a => actOkR rs m.length c a) acts acts.length) := by show _ = _; simp [rowOkR, hln]
        clear hln
        go_wp2
        obtain ⟨wo, rfl⟩ : ∃ wo : World, wo = wr := ⟨_, rfl⟩
        go_loopw [36] (fun i wr2 => ∃ j : Nat, j ≤ acts.length ∧ i = .int .i64 j ∧ allTo (fun c a => actOkR rs m.length c a) acts j = true ∧ Below wo.heap.size wo wr2) (fun i _ => acts.length - (intOf i).toNat)
        case atStart => exact ⟨0, Nat.zero_le _, rfl, rfl, Below.refl _ _⟩
        case round =>
          obtain ⟨j, hj, rfl, hall2, hB2⟩ := hrel
          have Hall2 := Lib.hid hall2
          have hszr2 := hB2.size
          have e0 := cell_chain (b := w.heap.size) (i := 0) (v := .int .i64 n) hB2 (by omega) g0
          have e1 := cell_chain (b := w.heap.size) (i := 1) (v := .slice A rs.length c) hB2 (by omega) (cell_chain hB (by omega) (by go_simp))
          have e2 := cell_chain (b := w.heap.size + 1) (i := 0) (v := .slice B m.length d) hB2 (by omega) (cell_chain hB (by omega) (by go_simp))
          have hz0 : w.heap.size < wr.heap.size := by omega
          have hz1 : w.heap.size + 1 < wr.heap.size := by omega
          clear hall2
          by_cases hjt : j < acts.length
          · obtain ⟨a, D, f', b', o', hr', hb', hix', hc0, hc1, hnx⟩ := acts_at (c := f) (hacts.below hB2 (Nat.le_refl _)) hjt
            have HR' := Lib.hid hr'
            have hA2 : Cells wr A (ints rs) := (HA2.out.below hB (by rw [gbox_size]; exact Nat.le_refl _)).below hB2 (Nat.le_refl _)
            have hnl : a.next.length ≤ 17592186043904 := by simpa [ints] using hnx.1
            have HBA : Hid (Below w.heap.size w (wr.alloc (.cells #[.int .i64 a.rule, .slice D a.next.length f'] 103))) := HB2.out.trans ((hB.mono (by omega)).trans ((hB2.mono (by omega)).alloc (by omega) _))
            have HBB : Hid (Below wo.heap.size wo (wr.alloc (.cells #[.int .i64 a.rule, .slice D a.next.length f'] 103))) := hB2.alloc (by omega) _
            clear hr'
            by_cases hq1 : a.rule < -1
            · have HNO : Hid (actOkR rs m.length j a = false) := actOkR_no (ruleOk_lo hq1)
              have hdq : decide (a.rule < -1) = true := by simp <;> omega
              go_wp2
              go_ret
              exact ⟨by rw [all_no HR.out (by rw [HW.out]; exact allTo_no HR'.out HNO.out hjt)]; rfl, HBA.out⟩
            · have hdq : decide (a.rule < -1) = false := by simp <;> omega
              by_cases hq2 : (rs.length : Int) ≤ a.rule
              · have HNO : Hid (actOkR rs m.length j a = false) := actOkR_no (ruleOk_hi hq2)
                have hdq2 : decide ((rs.length : Int) ≤ a.rule) = true := by simp <;> omega
                go_wp2
                go_ret
                exact ⟨by rw [all_no HR.out (by rw [HW.out]; exact allTo_no HR'.out HNO.out hjt)]; rfl, HBA.out⟩
              · have hdq2 : decide ((rs.length : Int) ≤ a.rule) = false := by simp <;> omega
                by_cases hq3 : 0 ≤ a.rule
                · have hdq3 : decide (0 ≤ a.rule) = true := by simp <;> omega
                  obtain ⟨r0, hr0⟩ := Int.eq_ofNat_of_zero_le hq3
                  obtain ⟨x, b4, o4, hx, hb4, hix4, hc4⟩ := ints_at (c := c) (k := r0) hA2 Try.underlying22 szInt (by omega)
                  rw [← hr0] at hix4
                  have hR0 := Lib.hid hr0
                  have hgx : rs.getD a.rule.toNat 0 = x := by rw [hr0]; simp [List.getD, hx]
                  clear hx hr0
                  cases hin : inI x j
                  · have HNO : Hid (actOkR rs m.length j a = false) := actOkR_no ((ruleOk_in hq3 (by omega) hgx).trans hin)
                    have HI := Lib.hid hin
                    clear hin hgx
                    go_wp2_with (go_at_call 66; go_must (refine (has_any x j _ (by omega) (by omega)).mono ?_); rintro e w3 ⟨rfl, rfl⟩; rw [HI.out])
                    go_ret
                    exact ⟨by rw [all_no HR.out (by rw [HW.out]; exact allTo_no HR'.out HNO.out hjt)]; rfl, HBA.out⟩
                  · obtain ⟨os, HO⟩ : ∃ os, Hid (othersI x j = os) := ⟨_, rfl⟩
                    obtain ⟨M, HM⟩ : ∃ M : Nat, Hid (2 ^ os.length = M) := ⟨_, rfl⟩
                    have hol : os.length ≤ 6 := by rw [← HO.out]; exact othersI_len _ _
                    have hM6 : M ≤ 64 := by
                      have h2 : 2 ^ os.length ≤ 2 ^ 6 := Nat.pow_le_pow_right (by decide) hol
                      rw [HM.out] at h2; exact h2
                    have HAR : Hid (actOkR rs m.length j a = (decide (a.next.length = M) && a.next.all (nextOk m.length))) := actOkR_in hq3 (by omega) hgx hin (by rw [HO.out]; exact HM.out)
                    obtain ⟨MI, HMI⟩ : ∃ MI : Int, Hid ((M : Int) = MI) := ⟨_, rfl⟩
                    have hpM : wrap64 (2 ^ os.length) = MI := by
                      have h2 := p2_wrap (n := (os.length : Int)) (by omega) (by omega)
                      rw [Int.toNat_natCast] at h2
                      rw [h2, ← HMI.out, ← HM.out]
                      simp
                    have HI := Lib.hid hin
                    clear hin hgx
                    by_cases hMl : a.next.length = M
                    · have hd8 : ((a.next.length : Int) != MI) = false := by rw [← HMI.out]; simp [hMl]
                      have HN : Hid (decide (a.next.length = M) = true) := decide_eq_true hMl
                      clear hMl
                      go_wp2_with (first
                        | (go_at_call 66; go_must (refine (has_any x j _ (by omega) (by omega)).mono ?_); rintro e w3 ⟨rfl, rfl⟩; rw [HI.out])
                        | (go_at_call 78; go_must (refine (Others_any x j _).mono ?_); rintro e w4 ⟨A2, c2, rfl, hos, hB4⟩; rw [HO.out]; have q1 := cell_chain (b := w.heap.size + 1) (i := 0) (v := .slice B m.length d) hB4 (by simp <;> omega) (by go_simp); have q2 := cell_chain (b := wr.heap.size) (i := 1) (v := .slice D a.next.length f') hB4 (by simp <;> omega) (by go_simp)))
                      have HDX : Hid (Cells w4 D (ints a.next)) := (hnx.box0 _).below hB4 (Nat.le_refl _)
                      have HBX : Hid (Below w.heap.size w w4) := HBA.out.trans (hB4.mono (by simp <;> omega))
                      have HBR : Hid (Below wo.heap.size wo w4) := HBB.out.trans (hB4.mono (by simp <;> omega))
                      clear hpM
                      go_loop [89] (fun i => ∃ l : Nat, l ≤ a.next.length ∧ i = .int .i64 l ∧ (a.next.take l).all (nextOk m.length) = true) (fun i => a.next.length - (intOf i).toNat)
                      case atStart => exact ⟨0, Nat.zero_le _, rfl, rfl⟩
                      case round =>
                        obtain ⟨l, hl, rfl, hall3⟩ := hrel
                        have Hall3 := Lib.hid hall3
                        clear hall3
                        by_cases hlt3 : l < a.next.length
                        · obtain ⟨x, b3, o3, hx3, hb3, hix3, hc3⟩ := ints_at (c := f') (HDX.out) Try.underlying22 szInt hlt3
                          have HX3 := Lib.hid hx3
                          clear hx3
                          by_cases h1 : x < 0
                          · have hd9 : decide (x < 0) = true := by simp <;> omega
                            go_wp2
                            go_ret
                            exact ⟨by rw [all_no HR.out (by rw [HW.out]; exact allTo_no HR'.out (by rw [HAR.out]; rw [all_no HX3.out (by simp [nextOk]; omega)]; simp) hjt)]; rfl, HBX.out⟩
                          · have hd5 : decide (x < 0) = false := by simp <;> omega
                            by_cases h2 : (m.length : Int) ≤ x
                            · have hd9 : decide ((m.length : Int) ≤ x) = true := by simp <;> omega
                              go_wp2
                              go_ret
                              exact ⟨by rw [all_no HR.out (by rw [HW.out]; exact allTo_no HR'.out (by rw [HAR.out]; rw [all_no HX3.out (by simp [nextOk]; omega)]; simp) hjt)]; rfl, HBX.out⟩
                            · have hd6 : decide ((m.length : Int) ≤ x) = false := by simp <;> omega
                              go_wp2
                              go_round
                              case rel => exact ⟨l + 1, by omega, by go_num, all_step Hall3.out HX3.out (by simp [nextOk]; omega)⟩
                              case measure => simp [intOf]; omega
                        · obtain rfl : l = a.next.length := by omega
                          go_wp2
                          go_roundw
                          case rel => exact ⟨j + 1, by omega, by go_num, allTo_step Hall2.out HR'.out (by rw [HAR.out, all_done Hall3.out, HN.out]; rfl), HBR.out⟩
                          case measure => simp [intOf]; omega
                    · have hd8 : ((a.next.length : Int) != MI) = true := by rw [← HMI.out]; simp <;> omega
                      have HN : Hid (decide (a.next.length = M) = false) := decide_eq_false hMl
                      clear hMl
                      go_wp2_with (first
                        | (go_at_call 66; go_must (refine (has_any x j _ (by omega) (by omega)).mono ?_); rintro e w3 ⟨rfl, rfl⟩; rw [HI.out])
                        | (go_at_call 78; go_must (refine (Others_any x j _).mono ?_); rintro e w4 ⟨A2, c2, rfl, hos, hB4⟩; rw [HO.out]; have q2 := cell_chain (b := wr.heap.size) (i := 1) (v := .slice D a.next.length f') hB4 (by simp <;> omega) (by go_simp)))
                      go_ret
                      exact ⟨by rw [all_no HR.out (by rw [HW.out]; exact allTo_no HR'.out (by rw [HAR.out, HN.out]; rfl) hjt)]; rfl, HBA.out.trans (hB4.mono (by simp <;> omega))⟩
                · have hdq3 : decide (0 ≤ a.rule) = false := by simp <;> omega
                  have HAR : Hid (actOkR rs m.length j a = (decide (a.next.length = 1) && a.next.all (nextOk m.length))) := actOkR_m1 hq1 hq3
                  by_cases hMl : a.next.length = 1
                  · have hd8 : ((a.next.length : Int) != 1) = false := by simp [hMl]
                    have HN : Hid (decide (a.next.length = 1) = true) := decide_eq_true hMl
                    clear hMl
                    have HDX : Hid (Cells (wr.alloc (.cells #[.int .i64 a.rule, .slice D a.next.length f'] 103)) D (ints a.next)) := hnx.box0 _
                    have HBX := HBA
                    have HBR := HBB
                    go_wp2
                    go_loop [89] (fun i => ∃ l : Nat, l ≤ a.next.length ∧ i = .int .i64 l ∧ (a.next.take l).all (nextOk m.length) = true) (fun i => a.next.length - (intOf i).toNat)
                    case atStart => exact ⟨0, Nat.zero_le _, rfl, rfl⟩
                    case round =>
                      obtain ⟨l, hl, rfl, hall3⟩ := hrel
                      have Hall3 := Lib.hid hall3
                      clear hall3
                      by_cases hlt3 : l < a.next.length
                      · obtain ⟨x, b3, o3, hx3, hb3, hix3, hc3⟩ := ints_at (c := f') (HDX.out) Try.underlying22 szInt hlt3
                        have HX3 := Lib.hid hx3
                        clear hx3
                        by_cases h1 : x < 0
                        · have hd9 : decide (x < 0) = true := by simp <;> omega
                          go_wp2
                          go_ret
                          exact ⟨by rw [all_no HR.out (by rw [HW.out]; exact allTo_no HR'.out (by rw [HAR.out]; rw [all_no HX3.out (by simp [nextOk]; omega)]; simp) hjt)]; rfl, HBX.out⟩
                        · have hd5 : decide (x < 0) = false := by simp <;> omega
                          by_cases h2 : (m.length : Int) ≤ x
                          · have hd9 : decide ((m.length : Int) ≤ x) = true := by simp <;> omega
                            go_wp2
                            go_ret
                            exact ⟨by rw [all_no HR.out (by rw [HW.out]; exact allTo_no HR'.out (by rw [HAR.out]; rw [all_no HX3.out (by simp [nextOk]; omega)]; simp) hjt)]; rfl, HBX.out⟩
                          · have hd6 : decide ((m.length : Int) ≤ x) = false := by simp <;> omega
                            go_wp2
                            go_round
                            case rel => exact ⟨l + 1, by omega, by go_num, all_step Hall3.out HX3.out (by simp [nextOk]; omega)⟩
                            case measure => simp [intOf]; omega
                      · obtain rfl : l = a.next.length := by omega
                        go_wp2
                        go_roundw
                        case rel => exact ⟨j + 1, by omega, by go_num, allTo_step Hall2.out HR'.out (by rw [HAR.out, all_done Hall3.out, HN.out]; rfl), HBR.out⟩
                        case measure => simp [intOf]; omega
                  · have hd8 : ((a.next.length : Int) != 1) = true := by simp <;> omega
                    have HN : Hid (decide (a.next.length = 1) = false) := decide_eq_false hMl
                    clear hMl
                    go_wp2
                    go_ret
                    exact ⟨by rw [all_no HR.out (by rw [HW.out]; exact allTo_no HR'.out (by rw [HAR.out, HN.out]; rfl) hjt)]; rfl, HBA.out⟩
          · obtain rfl : j = acts.length := by omega
            go_wp2
            go_roundw
            case rel => exact ⟨k + 1, by omega, by go_num, all_step Hall.out HR.out (by rw [HW.out]; exact Hall2.out), hB.trans (hB2.mono hszr)⟩
            case measure => simp [intOf]; omega
      · have hd4 : ((acts.length : Int) != n) = true := by simpa using hln
        have HN : Hid (rowOkR n rs m.length acts = false) := by show _ = _; simp [rowOkR, hln]
        clear hln
        go_wp2
        go_ret
        exact ⟨by rw [all_no HR.out HN.out]; rfl, HB2.out.trans (hB.mono (by omega))⟩
    · obtain rfl : k = m.length := by omega
      go_wp2
      go_ret
      exact ⟨by rw [all_done Hall.out]; rfl, HB2.out.trans (hB.mono (by omega))⟩

set_option maxRecDepth 100000 in
set_option maxHeartbeats 2000000 in
theorem FormedR_any (n : Int) (A : Option Addr) (c : Nat) (rs : List Int) (B : Option Addr) (d : Nat) (m : Mach) (w : World) (hA : Cells w A (ints rs)) (hM : MachAt w B m) (hn6 : n ≤ 60) :
    Calls Try.prog 26 #[.agg #[.int .i64 n, .slice A rs.length c], .agg #[.slice B m.length d]] w fun e w' => e = .returned (.bool (formedR n rs m)) ∧ Below w.heap.size w w' := by
  have HB2 := Lib.hid (gbox_below w n A rs.length c B m.length d)
  have hml := hM.len
  by_cases hl1 : 1 ≤ m.length
  · by_cases hl2 : m.length ≤ 64
    · have hf : formedR n rs m = m.all (rowOkR n rs m.length) := by simp [formedR, hl1, hl2]
      rw [hf]
      exact FormedR_loop n A c rs B d m w hA hM hn6 hl1 hl2
    · have hf : formedR n rs m = false := by simp [formedR, hl2]
      have hd2 : decide ((m.length : Int) < 1) = false := by simp <;> omega
      have hd3 : decide ((64 : Int) < (m.length : Int)) = true := by simp <;> omega
      rw [hf]
      clear hf
      go_enter Try.func26, Try.ntmps26
      go_wp2
      go_ret
      exact ⟨rfl, HB2.out⟩
  · have hf : formedR n rs m = false := by simp [formedR, hl1]
    have hd2 : decide ((m.length : Int) < 1) = true := by simp <;> omega
    rw [hf]
    clear hf
    go_enter Try.func26, Try.ntmps26
    go_wp2
    go_ret
    exact ⟨rfl, HB2.out⟩
end Go.Proofs.Ytlnonadkdonhmaa

/- Contract: Same. -/
namespace Go.Proofs.Ytlnonadkdonhmaa
open Go.RowKit

abbrev mbox (w : World) (A : Option Addr) (k c : Nat) (B : Option Addr) (l d : Nat) : World :=
  (w.alloc (.cells #[.slice A k c] 27)).alloc (.cells #[.slice B l d] 27)
theorem mbox_below (w : World) (A : Option Addr) (k c : Nat) (B : Option Addr) (l d : Nat) : Below w.heap.size w (mbox w A k c B l d) :=
  ((Below.refl _ _).alloc (Nat.le_refl _) _).alloc (by simp) _
theorem mbox_size (w : World) (A : Option Addr) (k c : Nat) (B : Option Addr) (l d : Nat) : (mbox w A k c B l d).heap.size = w.heap.size + 2 := by simp

set_option maxRecDepth 100000 in
set_option maxHeartbeats 8000000 in
theorem Same_loop (A B : Option Addr) (c d : Nat) (xs ys : Mach) (w : World) (hA : MachAt w A xs) (hB' : MachAt w B ys) (hl : xs.length = ys.length) :
    Calls Try.prog 24 #[.agg #[.slice A xs.length c], .agg #[.slice B ys.length d]] w fun e w' => e = .returned (.bool (decide (xs = ys))) ∧ Below w.heap.size w w' := by
  have HB2 := Lib.hid (mbox_below w A xs.length c B ys.length d)
  have hA2 := hA.below HB2.out (Nat.le_refl _)
  have hC2 := hB'.below HB2.out (Nat.le_refl _)
  have hd : ((xs.length : Int) != (ys.length : Int)) = false := by simp [hl]
  have HL := Lib.hid hl
  have hxl := hA.len
  have hyl := hB'.len
  clear hl
  go_enter Try.func24, Try.ntmps24
  go_wp2
  go_loopw [19] (fun i wr => ∃ k : Nat, k ≤ xs.length ∧ i = .int .i64 k ∧ xs.take k = ys.take k ∧ Below (w.heap.size + 2) (mbox w A xs.length c B ys.length d) wr) (fun i _ => xs.length - (intOf i).toNat)
  case atStart => exact ⟨0, Nat.zero_le _, rfl, rfl, Below.refl _ _⟩
  case round =>
    obtain ⟨k, hk, rfl, heq, hB⟩ := hrel
    have HE := Lib.hid heq
    have g0 := cell_chain (b := w.heap.size) (i := 0) (v := .slice A xs.length c) hB (by omega) (by go_simp)
    have g1 := cell_chain (b := w.heap.size + 1) (i := 0) (v := .slice B ys.length d) hB (by omega) (by go_simp)
    have hszr : w.heap.size + 2 ≤ wr.heap.size := by have h := hB.size; rw [mbox_size] at h; exact h
    clear heq
    by_cases hlt : k < xs.length
    · obtain ⟨r1, E1, f1, b1, o1, hr1, hb1, hix1, hc1, ha1⟩ := mach_at (c := c) (hA2.below hB (by rw [mbox_size]; exact Nat.le_refl _)) hlt
      obtain ⟨r2, E2, f2, b2, o2, hr2, hb2, hix2, hc2, ha2⟩ := mach_at (c := d) (hC2.below hB (by rw [mbox_size]; exact Nat.le_refl _)) (by rw [← HL.out]; exact hlt)
      have HR1 := Lib.hid hr1
      have HR2 := Lib.hid hr2
      have hl1 := ha1.len
      have hl2 := ha2.len
      clear hr1 hr2
      by_cases hrl : r1.length = r2.length
      · have hd2 : ((r1.length : Int) != (r2.length : Int)) = false := by simp [hrl]
        have HRL := Lib.hid hrl
        clear hrl
        go_wp2
        refine sall (by kernel_rfl) (by kernel_rfl) (fun Kq hKq => ?_)
        repeat still_step
        refine wpStill_nil (hKq _ ?_)
        clear hKq Kq
        go_wp2
        obtain ⟨wo, rfl⟩ : ∃ wo : World, wo = wr := ⟨_, rfl⟩
        go_loopw [41] (fun i wr2 => ∃ j : Nat, j ≤ r1.length ∧ i = .int .i64 j ∧ r1.take j = r2.take j ∧ Below wo.heap.size wo wr2) (fun i _ => r1.length - (intOf i).toNat)
        case atStart => exact ⟨0, Nat.zero_le _, rfl, rfl, (Below.refl _ _).drew⟩
        case round =>
          obtain ⟨j, hj, rfl, heq2, hB2⟩ := hrel
          have HE2 := Lib.hid heq2
          have hszr2 := hB2.size
          have e0 := cell_chain hB2 (by omega) g0
          have e1 := cell_chain hB2 (by omega) g1
          have e2 := cell_chain hB2 hb2 hc2
          have hz0 : w.heap.size < wr.heap.size := by omega
          have hz1 : w.heap.size + 1 < wr.heap.size := by omega
          have hz2 : b2 < wr.heap.size := by omega
          clear heq2
          by_cases hjt : j < r1.length
          · obtain ⟨x, D1, p1, c1, q1, hx, hcb1, hjx1, hx0, hx1, hnx⟩ := acts_at (c := f1) (ha1.below hB2 (Nat.le_refl _)) hjt
            obtain ⟨y, D2, p2, c2, q2, hy, hcb2, hjx2, hy0, hy1, hny⟩ := acts_at (c := f2) (ha2.below hB2 (Nat.le_refl _)) (by rw [← HRL.out]; exact hjt)
            have HX := Lib.hid hx
            have HY := Lib.hid hy
            have HBo : Hid (Below w.heap.size w wr) := HB2.out.trans ((hB.mono (by omega)).trans (hB2.mono (by omega)))
            clear hx hy
            by_cases hru : x.rule = y.rule
            · have hd3 : (x.rule != y.rule) = false := by simp [hru]
              have HRU := Lib.hid hru
              clear hru
              by_cases hnn : x.next = y.next
              · have HNN := Lib.hid hnn
                have HDN : Hid (decide (x.next = y.next) = true) := decide_eq_true hnn
                clear hnn
                go_wp2_with (go_at_call 32; go_must (refine (Ints_any x.next y.next D1 D2 p1 p2 _ (by exact (hnx.box0 _).box0 _) (by exact (hny.box0 _).box0 _)).mono ?_); rintro e w3 ⟨rfl, hB3⟩; rw [HDN.out])
                go_roundw
                case rel =>
                  have hxy : x = y := by
                    cases x; cases y
                    simp only [AAct.mk.injEq]
                    exact ⟨HRU.out, HNN.out⟩
                  exact ⟨j + 1, by omega, by go_num, eq_step HE2.out HX.out (by rw [hxy]; exact HY.out), hB2.trans ((((Below.refl _ _).alloc (by omega) _).alloc (by simp <;> omega) _).trans (hB3.mono (by simp <;> omega)))⟩
                case measure => simp [intOf]; omega
              · have HNE : Hid (xs ≠ ys) := ne_of_get HR1.out HR2.out (ne_of_get HX.out HY.out (fun h => hnn (by rw [h])))
                have HDN : Hid (decide (x.next = y.next) = false) := decide_eq_false hnn
                clear hnn
                go_wp2_with (go_at_call 32; go_must (refine (Ints_any x.next y.next D1 D2 p1 p2 _ (by exact (hnx.box0 _).box0 _) (by exact (hny.box0 _).box0 _)).mono ?_); rintro e w3 ⟨rfl, hB3⟩; rw [HDN.out])
                go_ret
                exact ⟨by rw [decide_eq_false HNE.out]; rfl, HBo.out.trans ((((Below.refl _ _).alloc (by omega) _).alloc (by simp <;> omega) _).trans (hB3.mono (by simp <;> omega)))⟩
            · have hd3 : (x.rule != y.rule) = true := by simpa using hru
              have HNE : Hid (xs ≠ ys) := ne_of_get HR1.out HR2.out (ne_of_get HX.out HY.out (fun h => hru (by rw [h])))
              clear hru
              go_wp2
              go_ret
              exact ⟨by rw [decide_eq_false HNE.out]; rfl, (HBo.out.alloc (by omega) _).alloc (by simp <;> omega) _⟩
          · obtain rfl : j = r1.length := by omega
            go_wp2
            go_roundw
            case rel => exact ⟨k + 1, by omega, by go_num, eq_step HE.out HR1.out (by rw [eq_done HRL.out HE2.out]; exact HR2.out), hB.trans (hB2.mono (by omega))⟩
            case measure => simp [intOf]; omega
      · have hd2 : ((r1.length : Int) != (r2.length : Int)) = true := by simp <;> omega
        have HNE : Hid (xs ≠ ys) := ne_of_get HR1.out HR2.out (fun h => hrl (by rw [h]))
        clear hrl
        go_wp2
        refine sall (by kernel_rfl) (by kernel_rfl) (fun Kq hKq => ?_)
        repeat still_step
        refine wpStill_nil (hKq _ ?_)
        clear hKq Kq
        go_wp2
        go_ret
        exact ⟨by rw [decide_eq_false HNE.out]; rfl, (HB2.out.trans (hB.mono (by omega))).drew⟩
    · obtain rfl : k = xs.length := by omega
      go_wp2
      go_ret
      exact ⟨by rw [decide_eq_true (eq_done HL.out HE.out)]; rfl, HB2.out.trans (hB.mono (by omega))⟩

set_option maxRecDepth 100000 in
set_option maxHeartbeats 1000000 in
theorem Same_any (A B : Option Addr) (c d : Nat) (xs ys : Mach) (w : World) (hA : MachAt w A xs) (hB' : MachAt w B ys) :
    Calls Try.prog 24 #[.agg #[.slice A xs.length c], .agg #[.slice B ys.length d]] w fun e w' => e = .returned (.bool (decide (xs = ys))) ∧ Below w.heap.size w w' := by
  by_cases hl : xs.length = ys.length
  · exact Same_loop A B c d xs ys w hA hB' hl
  · have hd : ((xs.length : Int) != (ys.length : Int)) = true := by simp <;> omega
    have hne : decide (xs = ys) = false := decide_eq_false (fun h => hl (by rw [h]))
    rw [hne]
    clear hl hne
    go_enter Try.func24, Try.ntmps24
    go_wp2
    go_ret
    exact ⟨rfl, mbox_below _ _ _ _ _ _ _⟩
end Go.Proofs.Ytlnonadkdonhmaa

/- Contract: Machine's closure number, and each over it. -/
namespace Go.Proofs.Ytlnonadkdonhmaa
open Go.RowKit Go.Maps

/-- The numbers of the sets: set, then its place. -/
def numMap (l : List Int) : List (Value × Value) := l.zipIdx.map fun p => (.int .i64 p.1, .int .i64 (p.2 : Int))
def addNum (l : List Int) (x : Int) : List Int := if x ∈ l then l else l ++ [x]

theorem numMap_snoc (l : List Int) (x : Int) : numMap (l ++ [x]) = numMap l ++ [(.int .i64 x, .int .i64 (l.length : Int))] := by
  simp [numMap, List.zipIdx_append]
theorem idxOf_get {l : List Int} {x : Int} (h : x ∈ l) : l[l.idxOf x]? = some x := by
  induction l with
  | nil => cases h
  | cons y r ih =>
    by_cases e : y = x
    · subst e; simp
    · have hr : x ∈ r := by
        rcases List.mem_cons.1 h with h | h
        · exact absurd h.symm e
        · exact h
      have he : (y == x) = false := by simp [e]
      rw [List.idxOf_cons, he]
      simpa using ih hr
theorem numMap_mem {l : List Int} {x : Int} (h : x ∈ l) : (Value.int .i64 x, Value.int .i64 (l.idxOf x : Int)) ∈ numMap l := by
  unfold numMap
  refine List.mem_map.2 ⟨(x, l.idxOf x), ?_, rfl⟩
  rw [List.mem_zipIdx_iff_getElem?]
  exact idxOf_get h
theorem numMap_no {l : List Int} {x : Int} (h : x ∉ l) : ∀ p ∈ numMap l, p.1 ≠ Value.int .i64 x := by
  intro p hp
  obtain ⟨⟨y, i⟩, hy, rfl⟩ := List.mem_map.1 hp
  intro he
  injection he with _ he
  simp at he
  subst he
  exact h (List.mem_of_getElem? (List.mem_zipIdx_iff_getElem?.1 hy))

/-- What number keeps: the variables met (a map) and sets (a slice) that it captured. -/
structure NumSt (w : World) (bm bb bs base : Nat) (l : List Int) (v : Value) : Prop where
  box : Blk w bb (.cells #[.map (some bm)] 108)
  map : MapIs Try.prog 3 w bm (numMap l)
  cell : Blk w bs (.cells #[v] 22)
  own : w.ownsRow base 3 1 v l.length (ints l)
def numS (bm bs : Nat) (v : Value) (k : Nat) : Prop := k = bm ∨ k = bs ∨ v.ownBlock = some k

theorem NumSt.frame {w w' : World} {bm bb bs base : Nat} {l : List Int} {v : Value} {S : Nat → Prop} (h : NumSt w bm bb bs base l v) (hf : Frame S w w') (h1 : ¬ S bm) (h2 : ¬ S bb) (h3 : ¬ S bs) (h4 : ∀ g, v.ownBlock = some g → ¬ S g) : NumSt w' bm bb bs base l v :=
  ⟨h.box.frame hf h2, h.map.frame hf h1, h.cell.frame hf h3, own_frame h.own hf h4⟩
theorem NumSt.below {w w' : World} {bm bb bs base : Nat} {l : List Int} {v : Value} (h : NumSt w bm bb bs base l v) (hf : Below w.heap.size w w') : NumSt w' bm bb bs base l v :=
  h.frame (S := fun _ => False) (Frame.of_all hf) (fun h => h) (fun h => h) (fun h => h) (fun _ _ h => h)

theorem blk_ne {w : World} {b b' : Nat} {cs cs' : Array Value} {t t' : TypeId} (h : Blk w b (.cells cs t)) (h' : Blk w b' (.cells cs' t')) (hne : t ≠ t') : b ≠ b' := by
  rintro rfl
  unfold Blk at h h'
  rw [h] at h'
  injection h' with h'
  injection h' with _ ht
  exact hne ht
theorem own_fits {w : World} {base size n : Nat} {e : TypeId} {v : Value} {xs : List Value} (h : w.ownsRow base e size v n xs) : ∃ A c, v = .slice A n c := by
  rcases h.2 with ⟨rfl, rfl⟩ | ⟨g, cap, cur, rfl, _⟩
  · exact ⟨_, _, rfl⟩
  · exact ⟨_, _, rfl⟩

set_option maxRecDepth 100000 in
set_option maxHeartbeats 2000000 in
theorem number_any (bm bb bs base : Nat) (l : List Int) (v : Value) (x : Int) (w : World) (h : NumSt w bm bb bs base l v) (hb : base ≤ w.heap.size) (hl : l.length ≤ 1000000) (hx : -9223372036854775808 ≤ x ∧ x ≤ 9223372036854775807) :
    Calls Try.prog 72 #[.int .i64 x, .pointer (some ⟨bb, 0, none⟩), .pointer (some ⟨bs, 0, none⟩)] w fun e w' => e = .returned (.int .i64 (l.idxOf x : Int)) ∧
      ∃ v', NumSt w' bm bb bs base (addNum l x) v' ∧ (∀ g, v'.ownBlock = some g → v.ownBlock = some g ∨ w.heap.size ≤ g) ∧ Frame (numS bm bs v) w w' := by
  have hkey : keyOf Try.prog 3 (.int .i64 x) = some (.int .i64 x) := keyOf_int_mk Try.underlying3 (WalkArith.wf_i64 hx)
  have K : Keyed Try.prog 3 := int_keyed Try.underlying3
  have hz : (zeroValue 3).run Try.prog w = .ok (.int .i64 0) w := by kernel_rfl
  have c1 := h.box.cell 0 (v := .map (some bm)) rfl
  have c2 := h.cell.cell 0 (v := v) rfl
  by_cases hm : x ∈ l
  · have hrun := h.map.look_yes K Try.underlying108 hkey (numMap_mem hm) true
    simp only [if_true] at hrun
    have HM : Hid (addNum l x = l) := by show _ = _; simp [addNum, hm]
    clear hm hkey hz
    go_enter Try.func72, Try.ntmps72
    go_wp2
    go_ret
    exact ⟨rfl, v, by rw [HM.out]; exact h, fun g hg => .inl hg, Frame.refl _ _⟩
  · have hrun := h.map.look_no K Try.underlying108 hkey (numMap_no hm) hz true
    simp only [if_true] at hrun
    obtain ⟨A, c, rfl⟩ := own_fits h.own
    obtain ⟨w2, hput, hmap, hgr⟩ := h.map.put_new K Try.underlying108 hkey (numMap_no hm) (v := .int .i64 (l.length : Int))
    have HM : Hid (addNum l x = l ++ [x]) := by show _ = _; simp [addNum, hm]
    have HI : Hid (l.idxOf x = l.length) := List.idxOf_eq_length hm
    have hbox2 : Blk w2 bb (.cells #[.map (some bm)] 108) := h.box.grown hgr (fun e => h.map.not_blk h.box (by injection e))
    have hcell2 := h.cell.grown hgr (fun e => h.map.not_blk h.cell (by injection e))
    have hown2 := h.own.kept hgr (.inr (h.map.not_own h.own))
    have d1 := hbox2.cell 0 (v := .map (some bm)) rfl
    have d2 := hcell2.cell 0 (v := .slice A l.length c) rfl
    clear hm hkey hz
    have hsz := hgr.size
    go_enter Try.func72, Try.ntmps72
    go_wp2_with (at_builtin; go_must (refine wpList_app1' rInt _ rfl _ _ rfl hown2 rfl [_] 1 rfl rfl (by simp [Value.oneCell']) (by omega) (by omega) ?_); intro v' w3 hown3 hB3 hg3 hloc3; obtain ⟨g', cap', rfl⟩ := ownsRow_succ hown3; have hcell3 := hcell2.grown hg3 (own_ne hown2 hcell2 (by decide)); have d3 := hcell3.cell 0 (v := .slice A l.length c) rfl; have f3 := hcell3.free 0)
    go_ret
    refine ⟨by rw [HI.out]; rfl, _, ⟨?_, ?_, hcell3.set1 _, ?_⟩, fun g hg => ?_, ?_⟩
    · exact (hbox2.grown hg3 (own_ne hown2 hbox2 (by decide))).far (blk_ne hbox2 hcell2 (by decide)) _
    · rw [HM.out, numMap_snoc]
      exact (hmap.frame (Frame.of_grown hg3) (fun e => hmap.not_own hown2 e)).far (hmap.not_blk hcell2) _
    · rw [HM.out]
      have h3 := own_frame hown3 ((Frame.refl (fun k => k = bs) w3).setCell (p := ⟨bs, 0, none⟩) (.inl rfl) (.slice (some ⟨g', 0, none⟩) (l.length + 1) cap')) (fun g hg e => own_ne hown3 hcell3 (by decide) (by rw [hg, e]))
      simpa [ints] using h3
    · rcases hloc3 g hg with h1 | h1
      · exact .inl h1
      · exact .inr (by omega)
    · have e1 : Frame (numS bm bs (.slice A l.length c)) w w2 := (Frame.of_grown hgr).mono (fun b _ hb => .inl (by injection hb with hb; exact hb.symm))
      exact (e1.trans (Frame.of_grown hg3) (fun b _ hb => .inr (.inr hb))).setCell (.inl (.inr (.inl rfl))) _

/-- What each makes of a list with number: the numbers, and the sets behind. -/
def foldNum (l xs : List Int) : List Int × List Int := xs.foldl (fun p x => (p.1 ++ [(p.2.idxOf x : Int)], addNum p.2 x)) ([], l)
theorem foldNum_snoc (l xs : List Int) (x : Int) : foldNum l (xs ++ [x]) = ((foldNum l xs).1 ++ [((foldNum l xs).2.idxOf x : Int)], addNum (foldNum l xs).2 x) := by
  simp [foldNum, List.foldl_append]
theorem addNum_len (l : List Int) (x : Int) : (addNum l x).length ≤ l.length + 1 := by
  unfold addNum; split <;> simp
theorem fold_len (xs : List Int) : ∀ p : List Int × List Int, (xs.foldl (fun p x => (p.1 ++ [(p.2.idxOf x : Int)], addNum p.2 x)) p).2.length ≤ p.2.length + xs.length ∧ (xs.foldl (fun p x => (p.1 ++ [(p.2.idxOf x : Int)], addNum p.2 x)) p).1.length = p.1.length + xs.length := by
  induction xs with
  | nil => intro p; simp
  | cons x xs ih =>
    intro p
    have h1 := ih (p.1 ++ [(p.2.idxOf x : Int)], addNum p.2 x)
    have h2 := addNum_len p.2 x
    simp only [List.foldl_cons, List.length_cons, List.length_append, List.length_nil] at h1 ⊢
    omega
theorem foldNum_len (l : List Int) (xs : List Int) : (foldNum l xs).2.length ≤ l.length + xs.length := (fold_len xs ([], l)).1
theorem foldNum_len1 (l : List Int) (xs : List Int) : (foldNum l xs).1.length = xs.length := by
  have h := (fold_len xs ([], l)).2
  rw [List.length_nil, Nat.zero_add] at h
  exact h

set_option maxRecDepth 100000 in
set_option maxHeartbeats 4000000 in
theorem each_any (bm bb bs base : Nat) (l : List Int) (v : Value) (A : Option Addr) (c : Nat) (xs : List Int) (w : World) (h : NumSt w bm bb bs base l v) (hb : base ≤ w.heap.size) (hl : l.length + xs.length ≤ 1000000) (hx : ∀ x ∈ xs, -9223372036854775808 ≤ x ∧ x ≤ 9223372036854775807)
    (hA : Cells w A (ints xs)) (hAw : ints xs ≠ [] → ∀ a, A = some a → ¬ numS bm bs v a.block) :
    Calls Try.prog 74 #[.slice A xs.length c, .func (.func 72) #[] #[.pointer (some ⟨bb, 0, none⟩), .pointer (some ⟨bs, 0, none⟩)]] w fun e w' => ∃ A' c', e = .returned (.slice A' xs.length c') ∧ New w' w.heap.size A' (ints (foldNum l xs).1) ∧
      ∃ v', NumSt w' bm bb bs base (foldNum l xs).2 v' ∧ (∀ a, A' = some a → v'.ownBlock ≠ some a.block) ∧ (∀ g, v'.ownBlock = some g → v.ownBlock = some g ∨ w.heap.size ≤ g) ∧ Frame (numS bm bs v) w w' := by
  have HX := Lib.hid hx
  have HAW := Lib.hid hAw
  have H := Lib.hid h
  have hbm := h.map.lt
  have hbs := h.cell.lt
  have hbb := h.box.lt
  clear hx hAw h
  go_enter Try.func74, Try.ntmps74
  go_wp2
  go_loopw [5, 10] (fun vo i wr => ∃ k : Nat, k ≤ xs.length ∧ i = .int .i64 k ∧ wr.ownsRow w.heap.size 3 1 vo k (ints (foldNum l (xs.take k)).1) ∧
      ∃ vs, NumSt wr bm bb bs base (foldNum l (xs.take k)).2 vs ∧ (∀ g, vo.ownBlock = some g → vs.ownBlock ≠ some g) ∧ (∀ g, vs.ownBlock = some g → v.ownBlock = some g ∨ w.heap.size ≤ g) ∧ Frame (numS bm bs v) w wr)
    (fun _ i _ => xs.length - (intOf i).toNat)
  case atStart => exact ⟨0, Nat.zero_le _, rfl, World.ownsRow_nil _ _ _ _, v, H.out, fun g hg => (by cases hg), fun g hg => Or.inl hg, Frame.refl _ _⟩
  case round =>
    obtain ⟨k, hk, rfl, hown, vs, hst, hsep, hloc, hF⟩ := hrel
    have HSEP := Lib.hid hsep
    have HLOC := Lib.hid hloc
    have HST := Lib.hid hst
    have hszk := hF.size
    have hflen := foldNum_len l (xs.take k)
    rw [List.length_take] at hflen
    clear hsep hloc hst
    by_cases hlt : k < xs.length
    · obtain ⟨x, b, o, hr, hbx, hix, hc⟩ := ints_at (c := c) (hA.frame hF HAW.out) Try.underlying22 szInt hlt
      have hxx := HX.out x (List.mem_of_getElem? hr)
      have HT : Hid (xs.take (k + 1) = xs.take k ++ [x]) := take_succ_of hr
      clear hr
      go_wp2_with (first
        | (go_at_call 72; go_must (refine (number_any bm bb bs base (foldNum l (xs.take k)).2 vs x wr HST.out (by omega) (by omega) hxx).mono ?_); rintro e w1 ⟨rfl, vs1, hst1, hloc1, hF1⟩; have HST1 := Lib.hid hst1; have HLOC1 := Lib.hid hloc1; have hown1 := own_frame hown hF1 (fun g hg hs => by rcases hs with e | e | e; exact HST.out.map.not_own hown (by rw [hg, e]); exact own_ne hown HST.out.cell (by decide) (by rw [hg, e]); exact HSEP.out g hg e); clear hst1 hloc1; have hsz1 := hF1.size)
        | (at_builtin; go_must (refine wpList_app1' rInt _ rfl _ _ rfl hown1 rfl [_] 1 rfl rfl (by simp [Value.oneCell']) (by omega) (by omega) ?_); intro vo' w2 hown2 hB2 hg2 hlo2))
      go_roundw
      case rel =>
        have q0 : ∀ g, u5.ownBlock = some g → vs1.ownBlock ≠ some g := by
          intro g hg he
          rcases HLOC1.out g he with h1 | h1
          · exact HSEP.out g hg h1
          · have := (hown.lt g hg).2; omega
        have q1 : ∀ g, vo'.ownBlock = some g → vs1.ownBlock ≠ some g := by
          intro g hg he
          rcases hlo2 g hg with h1 | h1
          · exact q0 g h1 he
          · have := (HST1.out.own.lt g he).2; omega
        refine ⟨k + 1, by omega, by go_num, ?_, vs1, ?_, q1, ?_, ?_⟩
        · rw [HT.out, foldNum_snoc]; simpa [ints] using hown2
        · rw [HT.out, foldNum_snoc]
          exact HST1.out.frame (Frame.of_grown hg2) (fun e => HST1.out.map.not_own hown1 e) (fun e => own_ne hown1 HST1.out.box (by decide) e) (fun e => own_ne hown1 HST1.out.cell (by decide) e) (fun g hg e => q0 g e hg)
        · intro g hg
          rcases HLOC1.out g hg with h1 | h1
          · exact HLOC.out g h1
          · exact .inr (by omega)
        · refine (hF.trans hF1 (fun b hb' hs => ?_)).trans (Frame.of_grown hg2) (fun b hb' hs => ?_)
          · rcases hs with e | e | e
            · exact .inl e
            · exact .inr (.inl e)
            · rcases HLOC.out b e with h1 | h1
              · exact .inr (.inr h1)
              · omega
          · have := (hown.lt b hs).1; omega
      case measure => simp [intOf]; omega
    · obtain rfl : k = xs.length := by omega
      go_wp2
      obtain ⟨A', c', rfl, hnew⟩ := own_new hown (by simp [ints, foldNum_len1]; omega)
      go_ret
      rw [List.take_length] at hnew
      have HST' := HST.out
      rw [List.take_length] at HST'
      exact ⟨A', c', rfl, hnew, vs, HST', fun a ha => HSEP.out a.block (by subst ha; rfl), HLOC.out, hF⟩
end Go.Proofs.Ytlnonadkdonhmaa

/- Bits of small numbers; lists that hold each number once; what Machine makes, in plain words. -/
namespace Go.Proofs.Ytlnonadkdonhmaa
open Go.RowKit

def isB (x : Int) : Prop := 0 ≤ x ∧ x < 64

theorem wrap_small {n : Int} (h0 : 0 ≤ n) (h1 : n < 9223372036854775808) : IntKind.i64.wrap n = n := by rw [IntKind.wrap_i64]; omega

theorem or_isB {a b : Int} (ha : isB a) (hb : isB b) : isB (bits BinOp.or .i64 a b) := by
  obtain ⟨x, rfl⟩ := Int.eq_ofNat_of_zero_le ha.1
  obtain ⟨y, rfl⟩ := Int.eq_ofNat_of_zero_le hb.1
  have hx : x < 2 ^ 6 := by have := ha.2; omega
  have hy : y < 2 ^ 6 := by have := hb.2; omega
  have h := (bits_nat .i64 6 (by decide) (fun n h0 h1 => wrap_small h0 (by omega)) x y hx hy).2
  rw [h]
  have := Nat.or_lt_two_pow hx hy
  exact ⟨by omega, by omega⟩

theorem ofInt_small {a : Nat} (h : a < 18446744073709551616) : (BitVec.ofInt 64 (a : Int)).toNat = a := by
  rw [BitVec.ofInt_natCast, BitVec.toNat_ofNat]; exact Nat.mod_eq_of_lt (by omega)

theorem andNot_le {a b : Int} (ha : 0 ≤ a) (ha' : a < 9223372036854775808) : 0 ≤ bits BinOp.andNot .i64 a b ∧ bits BinOp.andNot .i64 a b ≤ a := by
  obtain ⟨x, rfl⟩ := Int.eq_ofNat_of_zero_le ha
  have h : bits BinOp.andNot .i64 (x : Int) b = IntKind.i64.wrap ((BitVec.ofInt 64 (x : Int) &&& ~~~ BitVec.ofInt 64 b).toNat : Int) := rfl
  rw [h, BitVec.toNat_and, ofInt_small (by omega)]
  have h2 : x &&& (~~~ BitVec.ofInt 64 b).toNat ≤ x := Nat.and_le_left
  rw [wrap_small (by omega) (by omega)]
  omega

theorem andNot_isB {a b : Int} (ha : isB a) : isB (bits BinOp.andNot .i64 a b) := by
  have h := andNot_le (b := b) ha.1 (by have := ha.2; omega)
  exact ⟨h.1, by have := ha.2; omega⟩

theorem pow_isB {c : Int} (h0 : 0 ≤ c) (h1 : c < 6) : isB (2 ^ c.toNat) := by
  obtain ⟨x, rfl⟩ := Int.eq_ofNat_of_zero_le h0
  have hx : x < 6 := by omega
  have h2 : 2 ^ x ≤ 2 ^ 5 := Nat.pow_le_pow_right (by decide) (by omega)
  simp only [Int.toNat_natCast]
  have e : ((2 : Int) ^ x) = ((2 ^ x : Nat) : Int) := by simp
  rw [e]
  generalize 2 ^ x = y at h2 ⊢
  exact ⟨by omega, by omega⟩

theorem full_isB {set c : Int} (h : isB set) (h0 : 0 ≤ c) (h1 : c < 6) : isB (fullI set c) := or_isB h (pow_isB h0 h1)

theorem toF_isB {os : List Int} {set kept : Int} (h : isB set) : ∀ k, isB (toF os set kept k)
  | 0 => h
  | k + 1 => by
    unfold toF
    split
    · exact andNot_isB (toF_isB h k)
    · exact toF_isB h k

theorem stepN_isB {rs : List Int} {set c x : Int} (h : isB set) (h0 : 0 ≤ c) (h1 : c < 6) (hx : x ∈ stepN rs set c) : isB x := by
  unfold stepN at hx
  split at hx
  · simp at hx; subst hx; exact full_isB h h0 h1
  · unfold stepL at hx
    obtain ⟨k, _, rfl⟩ := List.mem_map.1 hx
    exact toF_isB h _

theorem stepN_len {rs : List Int} {set c : Int} : (stepN rs set c).length ≤ 64 := by
  unfold stepN
  split
  · simp
  · unfold stepL
    rw [List.length_map, List.length_range]
    exact Nat.pow_le_pow_right (by decide : 0 < 2) (othersA_len _ _)

/-! ### lists that hold each number once -/
theorem nodup_below : ∀ (n : Nat) (l : List Int), l.Nodup → (∀ x ∈ l, 0 ≤ x ∧ x < (n : Int)) → l.length ≤ n
  | 0, l, _, h => by
    cases l with
    | nil => simp
    | cons x r => have := h x (by simp); omega
  | n + 1, l, hd, h => by
    have h1 := nodup_below n (l.filter (· != (n : Int))) (hd.filter _) (fun x hx => by
      have hx' := List.mem_filter.1 hx
      have := h x hx'.1
      have hne : x ≠ (n : Int) := by simpa using hx'.2
      omega)
    have h2 : l.length ≤ (l.filter (· != (n : Int))).length + 1 := by
      clear h h1
      induction l with
      | nil => simp
      | cons x r ih =>
        rw [List.nodup_cons] at hd
        by_cases e : x = (n : Int)
        · subst e
          have : r.filter (· != (n : Int)) = r := List.filter_eq_self.2 (fun y hy => by
            have : y ≠ (n : Int) := by rintro rfl; exact hd.1 hy
            simpa using this)
          simp [this]
        · have := ih hd.2
          simp [e]
          omega
    omega

structure SetsOk (l : List Int) : Prop where
  nodup : l.Nodup
  all : ∀ x ∈ l, isB x
theorem SetsOk.len {l : List Int} (h : SetsOk l) : l.length ≤ 64 := nodup_below 64 l h.nodup (fun x hx => h.all x hx)
theorem SetsOk.add {l : List Int} {x : Int} (h : SetsOk l) (hx : isB x) : SetsOk (addNum l x) := by
  unfold addNum
  split
  · exact h
  · rename_i hn
    refine ⟨?_, fun y hy => ?_⟩
    · rw [List.nodup_append]
      exact ⟨h.nodup, by simp, fun a ha b hb => by simp at hb; subst hb; rintro rfl; exact hn ha⟩
    · rcases List.mem_append.1 hy with hy | hy
      · exact h.all y hy
      · simp at hy; subst hy; exact hx
theorem foldNum_ok {l : List Int} (h : SetsOk l) (xs : List Int) (hx : ∀ x ∈ xs, isB x) : SetsOk (foldNum l xs).2 := by
  have gen : ∀ (xs : List Int) (p : List Int × List Int), SetsOk p.2 → (∀ x ∈ xs, isB x) → SetsOk (xs.foldl (fun p x => (p.1 ++ [(p.2.idxOf x : Int)], addNum p.2 x)) p).2 := by
    intro xs
    induction xs with
    | nil => intro p hp _; exact hp
    | cons y ys ih => intro p hp hx; exact ih _ (hp.add (hx y (by simp))) (fun x hx' => hx x (by simp [hx']))
  exact gen xs _ h hx
theorem addNum_pre (l : List Int) (x : Int) : l <+: addNum l x := by
  unfold addNum; split
  · exact List.prefix_refl _
  · exact List.prefix_append _ _
theorem foldNum_pre (l xs : List Int) : l <+: (foldNum l xs).2 := by
  have gen : ∀ (xs : List Int) (p : List Int × List Int), p.2 <+: (xs.foldl (fun p x => (p.1 ++ [(p.2.idxOf x : Int)], addNum p.2 x)) p).2 := by
    intro xs
    induction xs with
    | nil => intro p; exact List.prefix_refl _
    | cons y ys ih => intro p; exact (addNum_pre p.2 y).trans (ih (p.1 ++ [(p.2.idxOf y : Int)], addNum p.2 y))
  exact gen xs ([], l)

/-! ### what Machine makes -/
/-- The acts of the state with the set s, up to channel k, and the sets behind. -/
def actsTo (rs : List Int) (s : Int) (l : List Int) : Nat → List AAct × List Int
  | 0 => ([], l)
  | k + 1 => ((actsTo rs s l k).1 ++ [⟨stepR rs s k, (foldNum (actsTo rs s l k).2 (stepN rs s k)).1⟩], (foldNum (actsTo rs s l k).2 (stepN rs s k)).2)
/-- The first k states, and the sets behind; it stands still where there are no more sets. -/
def machTo (n : Nat) (rs : List Int) : Nat → Mach × List Int
  | 0 => ([], [0])
  | k + 1 => match (machTo n rs k).2[k]? with
    | none => machTo n rs k
    | some s => ((machTo n rs k).1 ++ [(actsTo rs s (machTo n rs k).2 n).1], (actsTo rs s (machTo n rs k).2 n).2)
def machI (n : Int) (rs : List Int) : Mach := (machTo n.toNat rs 64).1

theorem actsTo_len (rs : List Int) (s : Int) (l : List Int) : ∀ k, (actsTo rs s l k).1.length = k
  | 0 => rfl
  | k + 1 => by unfold actsTo; simp [actsTo_len rs s l k]
theorem actsTo_ok {rs : List Int} {s : Int} {l : List Int} (hl : SetsOk l) (hs : isB s) : ∀ k, k ≤ 6 → SetsOk (actsTo rs s l k).2
  | 0, _ => hl
  | k + 1, hk => foldNum_ok (actsTo_ok hl hs k (by omega)) _ (fun x hx => stepN_isB hs (by omega) (by omega) hx)
theorem actsTo_pre (rs : List Int) (s : Int) (l : List Int) : ∀ k, l <+: (actsTo rs s l k).2
  | 0 => List.prefix_refl _
  | k + 1 => (actsTo_pre rs s l k).trans (foldNum_pre _ _)
theorem machTo_ok {n : Nat} {rs : List Int} (hn : n ≤ 6) : ∀ k, SetsOk (machTo n rs k).2
  | 0 => ⟨by simp [machTo], by simp [machTo, isB]⟩
  | k + 1 => by
    unfold machTo
    cases h : (machTo n rs k).2[k]? with
    | none => exact machTo_ok hn k
    | some s => exact actsTo_ok (machTo_ok hn k) ((machTo_ok hn k).all s (List.mem_of_getElem? h)) n hn
theorem machTo_stay {n : Nat} {rs : List Int} {k : Nat} (h : (machTo n rs k).2.length ≤ k) : ∀ d, machTo n rs (k + d) = machTo n rs k
  | 0 => rfl
  | d + 1 => by
    rw [← Nat.add_assoc, machTo, machTo_stay h d, List.getElem?_eq_none (by omega)]
theorem machTo_len {n : Nat} {rs : List Int} : ∀ {k : Nat}, k ≤ (machTo n rs k).2.length → (machTo n rs k).1.length = k
  | 0, _ => rfl
  | k + 1, h => by
    unfold machTo at h ⊢
    cases hs : (machTo n rs k).2[k]? with
    | none =>
      rw [hs] at h
      have := List.getElem?_eq_none_iff.1 hs
      simp only at h
      omega
    | some s =>
      have hk := (List.getElem?_eq_some_iff.1 hs).1
      have := machTo_len (n := n) (rs := rs) (k := k) (by omega)
      simp [this]
theorem machTo_step {n : Nat} {rs : List Int} {k : Nat} {s : Int} (h : (machTo n rs k).2[k]? = some s) :
    machTo n rs (k + 1) = ((machTo n rs k).1 ++ [(actsTo rs s (machTo n rs k).2 n).1], (actsTo rs s (machTo n rs k).2 n).2) := by
  rw [machTo, h]
theorem machI_of {n : Nat} {rs : List Int} {k : Nat} (hk : k ≤ 64) (h : (machTo n rs k).2.length ≤ k) : machI n rs = (machTo n rs k).1 := by
  unfold machI
  rw [Int.toNat_natCast, show (64 : Nat) = k + (64 - k) by omega, machTo_stay h]
end Go.Proofs.Ytlnonadkdonhmaa

/- Memory of machines that lie outside of given blocks. -/
namespace Go.Proofs.Ytlnonadkdonhmaa
open Go.RowKit Go.Maps

/-- As Cells; and the block, if there are cells, is in P. -/
def CellsP (P : Nat → Prop) (w : World) (A : Option Addr) (cs : List Value) : Prop := Cells w A cs ∧ (cs ≠ [] → ∀ a, A = some a → P a.block)
def ActsP (P : Nat → Prop) (w : World) (A : Option Addr) (acts : List AAct) : Prop :=
  ∃ hs : List (Option Addr × Nat), hs.length = acts.length ∧ CellsP P w A ((acts.zip hs).flatMap actCells) ∧ ∀ p ∈ acts.zip hs, CellsP P w p.2.1 (ints p.1.next)
section
variable {P P' : Nat → Prop} {S : Nat → Prop} {w w' : World} {A : Option Addr} {cs : List Value} {acts : List AAct}
theorem Cells.lt (h : Cells w A cs) (hn : cs ≠ []) {a : Addr} (ha : A = some a) : a.block < w.heap.size := by
  obtain ⟨_, b, off, _, hA, _⟩ := h
  obtain ⟨rfl, hb⟩ := hA hn
  injection ha with ha; subst ha; exact hb
theorem CellsP.move (h : CellsP P w A cs) (hf : Frame S w w') (hS : ∀ b, b < w.heap.size → P b → ¬ S b) (hP : ∀ b, b < w.heap.size → P b → P' b) : CellsP P' w' A cs :=
  ⟨h.1.frame hf (fun hn a ha => hS _ (h.1.lt hn ha) (h.2 hn a ha)), fun hn a ha => hP _ (h.1.lt hn ha) (h.2 hn a ha)⟩
theorem ActsP.move (h : ActsP P w A acts) (hf : Frame S w w') (hS : ∀ b, b < w.heap.size → P b → ¬ S b) (hP : ∀ b, b < w.heap.size → P b → P' b) : ActsP P' w' A acts := by
  obtain ⟨hs, hl, hc, hn⟩ := h
  exact ⟨hs, hl, hc.move hf hS hP, fun p hp => (hn p hp).move hf hS hP⟩
theorem ActsP.at_ (h : ActsP P w A acts) : ActsAt w A acts := by
  obtain ⟨hs, hl, hc, hn⟩ := h
  exact ⟨hs, hl, hc.1, fun p hp => (hn p hp).1⟩
end

/-- The blocks that Machine still turns: its map, the variables sets and m, and the rows of these. -/
def mutS (bm bs bc base : Nat) (vs va vr : Value) (b : Nat) : Prop := b < base ∨ b = bm ∨ b = bs ∨ b = bc ∨ vs.ownBlock = some b ∨ va.ownBlock = some b ∨ vr.ownBlock = some b

/-- The acts that are made so far, in a row of their own. -/
def ActsOwn (P : Nat → Prop) (w : World) (base : Nat) (va : Value) (acts : List AAct) : Prop :=
  ∃ hs : List (Option Addr × Nat), hs.length = acts.length ∧ w.ownsRow base 103 2 va acts.length ((acts.zip hs).flatMap actCells) ∧ ∀ p ∈ acts.zip hs, CellsP P w p.2.1 (ints p.1.next)
/-- The states that are made so far, in a row of their own. -/
def MachOwn (P : Nat → Prop) (w : World) (base : Nat) (vr : Value) (m : Mach) : Prop :=
  ∃ hs : List (Option Addr × Nat), hs.length = m.length ∧ w.ownsRow base 101 1 vr m.length ((m.zip hs).flatMap rowCell) ∧ ∀ p ∈ m.zip hs, ActsP P w p.2.1 p.1

section
variable {P P' : Nat → Prop} {S : Nat → Prop} {w w' : World} {base : Nat} {va vr : Value} {acts : List AAct} {m : Mach}
theorem ActsOwn.move (h : ActsOwn P w base va acts) (hf : Frame S w w') (hS : ∀ b, b < w.heap.size → P b → ¬ S b) (hP : ∀ b, b < w.heap.size → P b → P' b) (hn : ∀ g, va.ownBlock = some g → ¬ S g) : ActsOwn P' w' base va acts := by
  obtain ⟨hs, hl, ho, hc⟩ := h
  exact ⟨hs, hl, own_frame ho hf hn, fun p hp => (hc p hp).move hf hS hP⟩
theorem MachOwn.move (h : MachOwn P w base vr m) (hf : Frame S w w') (hS : ∀ b, b < w.heap.size → P b → ¬ S b) (hP : ∀ b, b < w.heap.size → P b → P' b) (hn : ∀ g, vr.ownBlock = some g → ¬ S g) : MachOwn P' w' base vr m := by
  obtain ⟨hs, hl, ho, hc⟩ := h
  exact ⟨hs, hl, own_frame ho hf hn, fun p hp => (hc p hp).move hf hS hP⟩
theorem ActsOwn.nil (P : Nat → Prop) (w : World) (base : Nat) : ActsOwn P w base (.slice none 0 0) [] := ⟨[], rfl, World.ownsRow_nil _ _ _ _, by simp⟩
theorem MachOwn.nil (P : Nat → Prop) (w : World) (base : Nat) : MachOwn P w base (.slice none 0 0) [] := ⟨[], rfl, World.ownsRow_nil _ _ _ _, by simp⟩

theorem zip_snoc {α β : Type} {xs : List α} {ys : List β} (h : ys.length = xs.length) (x : α) (y : β) : (xs ++ [x]).zip (ys ++ [y]) = xs.zip ys ++ [(x, y)] := by
  rw [List.zip_append h.symm]; rfl

/-- One act more. -/
theorem ActsOwn.snoc {hs : List (Option Addr × Nat)} {a : AAct} {B : Option Addr} {c : Nat} {va' : Value} (hl : hs.length = acts.length)
    (ho : w'.ownsRow base 103 2 va' (acts.length + 1) ((acts.zip hs).flatMap actCells ++ actCells (a, (B, c)))) (hc : ∀ p ∈ acts.zip hs, CellsP P' w' p.2.1 (ints p.1.next)) (hB : CellsP P' w' B (ints a.next)) :
    ActsOwn P' w' base va' (acts ++ [a]) := by
  refine ⟨hs ++ [(B, c)], by simp [hl], ?_, ?_⟩
  · rw [zip_snoc hl, List.flatMap_append]
    simpa using ho
  · rw [zip_snoc hl]
    intro p hp
    rcases List.mem_append.1 hp with hp | hp
    · exact hc p hp
    · simp at hp; subst hp; exact hB
/-- One state more. -/
theorem MachOwn.snoc {P' : Nat → Prop} {hs : List (Option Addr × Nat)} {B : Option Addr} {c : Nat} {vr' : Value} (hl : hs.length = m.length)
    (ho : w'.ownsRow base 101 1 vr' (m.length + 1) ((m.zip hs).flatMap rowCell ++ rowCell (acts, (B, c)))) (hc : ∀ p ∈ m.zip hs, ActsP P' w' p.2.1 p.1) (hB : ActsP P' w' B acts) :
    MachOwn P' w' base vr' (m ++ [acts]) := by
  refine ⟨hs ++ [(B, c)], by simp [hl], ?_, ?_⟩
  · rw [zip_snoc hl, List.flatMap_append]
    simpa using ho
  · rw [zip_snoc hl]
    intro p hp
    rcases List.mem_append.1 hp with hp | hp
    · exact hc p hp
    · simp at hp; subst hp; exact hB

/-- The acts are whole. -/
theorem ActsOwn.out (h : ActsOwn P w base va acts) (hP : ∀ g, va.ownBlock = some g → P g) (hl : acts.length ≤ 1000000) : ∃ A c, va = .slice A acts.length c ∧ ActsP P w A acts := by
  obtain ⟨hs, hl', ho, hc⟩ := h
  obtain ⟨A, c, rfl, hA⟩ := own_out ho (by rw [flat_len actCells_len, List.length_zip]; omega)
  exact ⟨A, c, rfl, hs, hl', ⟨hA, fun _ a ha => hP _ (by subst ha; rfl)⟩, hc⟩
theorem MachOwn.out (h : MachOwn P w base vr m) (hl : m.length ≤ 1000000) : ∃ A c, vr = .slice A m.length c ∧ MachAt w A m := by
  obtain ⟨hs, hl', ho, hc⟩ := h
  obtain ⟨A, c, rfl, hA⟩ := own_out ho (by rw [flat_len rowCell_len, List.length_zip]; omega)
  exact ⟨A, c, rfl, hs, hl', hA, fun p hp => (hc p hp).at_⟩
/-- Two rows of elements of other types lie apart. -/
theorem own_apart {e e' : TypeId} {size size' n n' : Nat} {v v' : Value} {xs xs' : List Value} {base base' : Nat} (h : w.ownsRow base e size v n xs) (h' : w.ownsRow base' e' size' v' n' xs') (hne : e ≠ e') : ∀ g, v.ownBlock = some g → v'.ownBlock ≠ some g := by
  intro g hg hg'
  rcases h.2 with ⟨rfl, _⟩ | ⟨g1, cap, cur, rfl, _, hh, _⟩
  · cases hg
  · have e1 : g1 = g := by simpa [Value.ownBlock] using hg
    subst e1
    rcases h'.2 with ⟨rfl, _⟩ | ⟨g2, cap2, cur2, rfl, _, hh2, _⟩
    · cases hg'
    · have e2 : g2 = g1 := by simpa [Value.ownBlock] using hg'
      subst e2
      rw [hh] at hh2
      injection hh2 with hh2
      injection hh2 with _ ht
      exact hne ht
end

/-- What Machine has made so far, in memory. -/
structure MSt (w1 : World) (bm bb bs bc base : Nat) (l : List Int) (m : Mach) (acts : List AAct) (vs va vr : Value) (w : World) : Prop where
  num : NumSt w bm bb bs base l vs
  mc : Blk w bc (.cells #[vr] 27)
  mach : MachOwn (fun b => ¬ mutS bm bs bc base vs va vr b) w base vr m
  acts : ActsOwn (fun b => ¬ mutS bm bs bc base vs va vr b) w base va acts
  below : Below base w1 w
  lm : base ≤ bm
  ls : base ≤ bs
  lc : base ≤ bc
  lw : base ≤ w1.heap.size

section
variable {w1 w w' : World} {bm bb bs bc base : Nat} {l l' : List Int} {m : Mach} {acts : List AAct} {vs vs' va va' vr vr' : Value}
theorem MSt.later (M : MSt w1 bm bb bs bc base l m acts vs va vr w) (h : Below w.heap.size w w') : MSt w1 bm bb bs bc base l m acts vs va vr w' := by
  have hF : Frame (fun _ => False) w w' := Frame.of_all h
  exact ⟨M.num.below h, M.mc.frame hF (fun h => h), M.mach.move hF (fun _ _ _ h => h) (fun _ _ h => h) (fun _ _ h => h), M.acts.move hF (fun _ _ _ h => h) (fun _ _ h => h) (fun _ _ h => h), M.below.trans (h.mono (Nat.le_trans M.lw M.below.size)), M.lm, M.ls, M.lc, M.lw⟩

theorem MSt.each (M : MSt w1 bm bb bs bc base l m acts vs va vr w) (hF : Frame (numS bm bs vs) w w') (st : NumSt w' bm bb bs base l' vs') (loc : ∀ g, vs'.ownBlock = some g → vs.ownBlock = some g ∨ w.heap.size ≤ g) :
    MSt w1 bm bb bs bc base l' m acts vs' va vr w' := by
  obtain ⟨hs1, hl1, ho1, _⟩ := M.mach
  obtain ⟨hs2, hl2, ho2, _⟩ := M.acts
  have hS : ∀ b, b < w.heap.size → ¬ mutS bm bs bc base vs va vr b → ¬ numS bm bs vs b := by
    intro b _ hn hs
    rcases hs with e | e | e
    · exact hn (.inr (.inl e))
    · exact hn (.inr (.inr (.inl e)))
    · exact hn (.inr (.inr (.inr (.inr (.inl e)))))
  have hP : ∀ b, b < w.heap.size → ¬ mutS bm bs bc base vs va vr b → ¬ mutS bm bs bc base vs' va vr b := by
    intro b hb hn hs
    rcases hs with e | e | e | e | e | e | e
    · exact hn (.inl e)
    · exact hn (.inr (.inl e))
    · exact hn (.inr (.inr (.inl e)))
    · exact hn (.inr (.inr (.inr (.inl e))))
    · rcases loc b e with e | e
      · exact hn (.inr (.inr (.inr (.inr (.inl e)))))
      · omega
    · exact hn (.inr (.inr (.inr (.inr (.inr (.inl e))))))
    · exact hn (.inr (.inr (.inr (.inr (.inr (.inr e))))))
  have row : ∀ {e : TypeId} {size n : Nat} {v : Value} {xs : List Value}, w.ownsRow base e size v n xs → e ≠ 22 → e ≠ 3 → ∀ g, v.ownBlock = some g → ¬ numS bm bs vs g := by
    intro e size n v xs ho h1 h2 g hg hs
    rcases hs with e1 | e1 | e1
    · exact M.num.map.not_own ho (by rw [hg, e1])
    · exact own_ne ho M.num.cell h1 (by rw [hg, e1])
    · exact own_apart ho M.num.own h2 g hg e1
  refine ⟨st, M.mc.frame hF ?_, M.mach.move hF hS hP (row ho1 (by decide) (by decide)), M.acts.move hF hS hP (row ho2 (by decide) (by decide)), M.below.trans (hF.below ?_ (Nat.le_trans M.lw M.below.size)), M.lm, M.ls, M.lc, M.lw⟩
  · intro hs
    rcases hs with e | e | e
    · exact M.num.map.not_blk M.mc e.symm
    · exact blk_ne M.mc M.num.cell (by decide) e
    · exact own_ne M.num.own M.mc (by decide) e
  · intro b hs
    rcases hs with e | e | e
    · rw [e]; exact M.lm
    · rw [e]; exact M.ls
    · exact (M.num.own.lt b e).1

theorem MSt.act (M : MSt w1 bm bb bs bc base l m acts vs va vr w) {hs : List (Option Addr × Nat)} {a : AAct} {B : Option Addr} {c : Nat} (hl : hs.length = acts.length) (ho : w.ownsRow base 103 2 va acts.length ((acts.zip hs).flatMap actCells))
    (hc : ∀ p ∈ acts.zip hs, CellsP (fun b => ¬ mutS bm bs bc base vs va vr b) w p.2.1 (ints p.1.next)) (hB : CellsP (fun b => ¬ mutS bm bs bc base vs va vr b) w B (ints a.next))
    (ho' : w'.ownsRow base 103 2 va' (acts.length + 1) ((acts.zip hs).flatMap actCells ++ actCells (a, (B, c)))) (hg : w.grownBy w' va.ownBlock) (loc : ∀ g, va'.ownBlock = some g → va.ownBlock = some g ∨ w.heap.size ≤ g) :
    MSt w1 bm bb bs bc base l m (acts ++ [a]) vs va' vr w' := by
  obtain ⟨hs1, hl1, ho1, _⟩ := M.mach
  have hF := Frame.of_grown hg
  have hS : ∀ b, b < w.heap.size → ¬ mutS bm bs bc base vs va vr b → ¬ va.ownBlock = some b := fun b _ hn e => hn (.inr (.inr (.inr (.inr (.inr (.inl e))))))
  have hP : ∀ b, b < w.heap.size → ¬ mutS bm bs bc base vs va vr b → ¬ mutS bm bs bc base vs va' vr b := by
    intro b hb hn hs
    rcases hs with e | e | e | e | e | e | e
    · exact hn (.inl e)
    · exact hn (.inr (.inl e))
    · exact hn (.inr (.inr (.inl e)))
    · exact hn (.inr (.inr (.inr (.inl e))))
    · exact hn (.inr (.inr (.inr (.inr (.inl e)))))
    · rcases loc b e with e | e
      · exact hn (.inr (.inr (.inr (.inr (.inr (.inl e))))))
      · omega
    · exact hn (.inr (.inr (.inr (.inr (.inr (.inr e))))))
  refine ⟨M.num.frame hF (fun e => M.num.map.not_own ho e) (fun e => own_ne ho M.num.box (by decide) e) (fun e => own_ne ho M.num.cell (by decide) e) (fun g hg e => own_apart ho M.num.own (by decide) g e hg),
    M.mc.frame hF (fun e => own_ne ho M.mc (by decide) e), M.mach.move hF hS hP (fun g hg e => own_apart ho1 ho (by decide) g hg e), ActsOwn.snoc hl ho' (fun p hp => (hc p hp).move hF hS hP) (hB.move hF hS hP),
    M.below.trans (hF.below (fun b e => (ho.lt b e).1) (Nat.le_trans M.lw M.below.size)), M.lm, M.ls, M.lc, M.lw⟩

theorem MSt.row {B : Option Addr} {c : Nat} (M : MSt w1 bm bb bs bc base l m acts vs (.slice B acts.length c) vr w) {hs : List (Option Addr × Nat)} (hl : hs.length = m.length) (ho : w.ownsRow base 101 1 vr m.length ((m.zip hs).flatMap rowCell))
    (hc : ∀ p ∈ m.zip hs, ActsP (fun b => ¬ mutS bm bs bc base vs (.slice B acts.length c) vr b) w p.2.1 p.1)
    (ho' : w'.ownsRow base 101 1 vr' (m.length + 1) ((m.zip hs).flatMap rowCell ++ rowCell (acts, (B, c)))) (hg : w.grownBy w' vr.ownBlock) (loc : ∀ g, vr'.ownBlock = some g → vr.ownBlock = some g ∨ w.heap.size ≤ g) (hla : acts.length ≤ 1000000) :
    MSt w1 bm bb bs bc base l (m ++ [acts]) [] vs (.slice none 0 0) vr' (w'.setCell ⟨bc, 0, none⟩ vr') := by
  obtain ⟨hs2, hl2, ho2, hc2⟩ := M.acts
  have hg0 : ∀ g, (Value.slice B acts.length c).ownBlock = some g → ¬ mutS bm bs bc base vs (.slice none 0 0) vr g := by
    intro g hg hs
    rcases hs with e | e | e | e | e | e | e
    · have := (ho2.lt g hg).1; omega
    · exact M.num.map.not_own ho2 (by rw [hg, e])
    · exact own_ne ho2 M.num.cell (by decide) (by rw [hg, e])
    · exact own_ne ho2 M.mc (by decide) (by rw [hg, e])
    · exact own_apart ho2 M.num.own (by decide) g hg e
    · cases e
    · exact own_apart ho2 ho (by decide) g hg e
  have hdrop : ∀ b, b < w.heap.size → ¬ mutS bm bs bc base vs (.slice B acts.length c) vr b → ¬ mutS bm bs bc base vs (.slice none 0 0) vr b := by
    intro b _ hn hs
    rcases hs with e | e | e | e | e | e | e
    · exact hn (.inl e)
    · exact hn (.inr (.inl e))
    · exact hn (.inr (.inr (.inl e)))
    · exact hn (.inr (.inr (.inr (.inl e))))
    · exact hn (.inr (.inr (.inr (.inr (.inl e)))))
    · cases e
    · exact hn (.inr (.inr (.inr (.inr (.inr (.inr e))))))
  obtain ⟨A', c', hv, hP⟩ := (M.acts.move (Frame.refl (fun _ => False) w) (fun _ _ _ h => h) hdrop (fun _ _ h => h)).out hg0 hla
  obtain ⟨rfl, rfl⟩ : B = A' ∧ c = c' := by injection hv with h1 _ h3; exact ⟨h1, h3⟩
  have hbc' : Blk w' bc (.cells #[vr] 27) := M.mc.grown hg (own_ne ho M.mc (by decide))
  have hF : Frame (fun b => vr.ownBlock = some b ∨ b = bc) w (w'.setCell ⟨bc, 0, none⟩ vr') := ((Frame.of_grown hg).mono (fun _ _ h => .inl h)).setCell (.inl (.inr rfl)) _
  have hS : ∀ b, b < w.heap.size → ¬ mutS bm bs bc base vs (.slice none 0 0) vr b → ¬ (vr.ownBlock = some b ∨ b = bc) := by
    intro b _ hn hs
    rcases hs with e | e
    · exact hn (.inr (.inr (.inr (.inr (.inr (.inr e))))))
    · exact hn (.inr (.inr (.inr (.inl e))))
  have hP' : ∀ b, b < w.heap.size → ¬ mutS bm bs bc base vs (.slice none 0 0) vr b → ¬ mutS bm bs bc base vs (.slice none 0 0) vr' b := by
    intro b hb hn hs
    rcases hs with e | e | e | e | e | e | e
    · exact hn (.inl e)
    · exact hn (.inr (.inl e))
    · exact hn (.inr (.inr (.inl e)))
    · exact hn (.inr (.inr (.inr (.inl e))))
    · exact hn (.inr (.inr (.inr (.inr (.inl e)))))
    · cases e
    · rcases loc b e with e | e
      · exact hn (.inr (.inr (.inr (.inr (.inr (.inr e))))))
      · omega
  have ho2' := own_frame ho' ((Frame.refl (fun k => k = bc) w').setCell (p := ⟨bc, 0, none⟩) (.inl rfl) vr') (fun g hg e => own_ne ho' hbc' (by decide) (by rw [hg, e]))
  refine ⟨M.num.frame hF ?_ ?_ ?_ ?_, hbc'.set1 _, MachOwn.snoc hl ho2' (fun p hp => (hc p hp).move hF (fun b hb hn => hS b hb (hdrop b hb hn)) (fun b hb hn => hP' b hb (hdrop b hb hn))) (hP.move hF hS hP'), ActsOwn.nil _ _ _,
    M.below.trans (hF.below ?_ (Nat.le_trans M.lw M.below.size)), M.lm, M.ls, M.lc, M.lw⟩
  · rintro (e | e)
    · exact M.num.map.not_own ho e
    · exact M.num.map.not_blk M.mc e
  · rintro (e | e)
    · exact own_ne ho M.num.box (by decide) e
    · exact blk_ne M.num.box M.mc (by decide) e
  · rintro (e | e)
    · exact own_ne ho M.num.cell (by decide) e
    · exact blk_ne M.num.cell M.mc (by decide) e
  · rintro g hg (e | e)
    · exact own_apart ho M.num.own (by decide) g e hg
    · exact own_ne M.num.own M.mc (by decide) (by rw [hg, e])
  · rintro b (e | e)
    · exact (ho.lt b e).1
    · rw [e]; exact M.lc
end
end Go.Proofs.Ytlnonadkdonhmaa

/- Contract: Machine of the program. -/
namespace Go.Proofs.Ytlnonadkdonhmaa
open Go.RowKit Go.Maps

theorem step_any (n set ch : Int) (A : Option Addr) (c : Nat) (rs : List Int) (w : World) (hA : Cells w A (ints rs)) (h0 : 0 ≤ ch) (h1 : ch ≤ 60) :
    Calls Try.prog 73 #[.agg #[.int .i64 n, .slice A rs.length c], .int .i64 set, .int .i64 ch] w fun e w' => ∃ A' c', e = .returned (.tuple #[.int .i64 (stepR rs set ch), .slice A' (stepN rs set ch).length c']) ∧ New w' w.heap.size A' (ints (stepN rs set ch)) ∧ Below w.heap.size w w' := by
  cases hl : readyL rs (fullI set ch) with
  | nil =>
    have e1 : stepR rs set ch = -1 := by unfold stepR; rw [hl]
    have e2 : stepN rs set ch = [fullI set ch] := by unfold stepN; rw [hl]
    rw [e1, e2]
    exact step_none n set ch A c rs w hA h0 h1 hl
  | cons x L =>
    obtain ⟨i, rfl, hi⟩ := readyL_mem (rs := rs) (set := fullI set ch) (r := x) (by rw [hl]; simp)
    have hr : rs[i]? = some rs[i] := List.getElem?_eq_getElem hi
    have e1 : stepR rs set ch = (i : Int) := by unfold stepR; rw [hl]
    have e2 : stepN rs set ch = stepL (othersA rs[i] ch) set := by unfold stepN; rw [hl]; simp [List.getD, hr]
    rw [e1, e2]
    exact step_some n set ch A c rs w hA h0 h1 i L hl rs[i] hr

theorem lit_own (w : World) (x : Value) (t : TypeId) (base : Nat) (hb : base ≤ w.heap.size) : (w.alloc (.cells #[x] t)).ownsRow base t 1 (.slice (some ⟨w.heap.size, 0, none⟩) 1 1) 1 [x] :=
  ⟨rfl, .inr ⟨w.heap.size, 1, #[x], rfl, hb, heap_alloc_new w _, by omega, by decide, rfl, rfl⟩⟩

theorem results_ct {P : Program} {fn : Func} {tmps : Array Value} {w : World} {a b : Tmp} {t : TypeId} {p : Addr} {v u : Value} (h : fn.results = #[.cell a t, .tmp b]) (ha : tmps.getD a undef = .pointer (some p)) (hb : tmps.getD b undef = u) (hl : (loadVar t p).run P w = .ok v w) :
    (results fn tmps).run P w = .ok (.tuple #[v, u]) w := by
  simp only [Array.getD_eq_getD_getElem?] at ha hb
  simp [results, h, ha, hl, hb, asAddr, Result.andThen]

set_option maxRecDepth 100000 in
set_option maxHeartbeats 8000000 in
theorem Machine_ok (N : Nat) (A : Option Addr) (c : Nat) (rs : List Int) (w : World) (hA : Cells w A (ints rs)) (hg : grpOk (N : Int) rs = true) :
    Calls Try.prog 21 #[.agg #[.int .i64 (N : Int), .slice A rs.length c]] w fun e w' => ∃ A' c', e = .returned (.tuple #[.agg #[.slice A' (machI (N : Int) rs).length c'], .int .i64 0]) ∧ MachAt w' A' (machI (N : Int) rs) ∧ Below w.heap.size w w' := by
  have HG : Hid (errI (grpOk (N : Int) rs) = 0) := by show _ = _; rw [hg]; rfl
  obtain ⟨hn1, hn6, _, _⟩ := grpOk_true hg
  clear hg
  have hkey : keyOf Try.prog 3 (.int .i64 0) = some (.int .i64 0) := keyOf_int_mk Try.underlying3 (by decide)
  have K : Keyed Try.prog 3 := int_keyed Try.underlying3
  have hmm := @run_makeMap Try.prog
  have HA2 := Lib.hid ((hA.box0 (.cells #[.int .i64 (N : Int), .slice A rs.length c] 24)).box0 (.cells #[.slice none 0 0] 27))
  go_enter Try.func21, Try.ntmps21
  go_wp2_with (go_at_call 48; go_must (refine (check_any N A c rs _ HA2.out).mono ?_); rintro e w1 ⟨rfl, hB1⟩; rw [HG.out]; have g0 := cell_chain (b := w.heap.size) (i := 0) (v := .int .i64 (N : Int)) hB1 (by simp <;> omega) (by go_simp); have g1 := cell_chain (b := w.heap.size) (i := 1) (v := .slice A rs.length c) hB1 (by simp <;> omega) (by go_simp); have hsz1 := hB1.size; simp only [World.size_alloc] at hsz1; obtain ⟨w2, hput, hmap, hgr⟩ := (MapIs.new Try.prog 3 (w1.alloc (.cells #[.slice none 0 0] 27))).put_new K Try.underlying108 hkey (by simp) (v := .int .i64 0); have hsz2 := hgr.size; simp only [World.size_alloc] at hsz2 hput hmap hgr)
  obtain ⟨B0, hB0⟩ : ∃ B0, B0 = w.heap.size + 2 := ⟨_, rfl⟩
  have HA1 := Lib.hid (HA2.out.below hB1 (Nat.le_refl _))
  have HR : Hid (Blk w1 (w.heap.size + 1) (.cells #[.slice none 0 0] 27)) := (by
    have e := Blk.new (w.alloc (.cells #[.int .i64 (N : Int), .slice A rs.length c] 24)) (.cells #[.slice none 0 0] 27)
    simp only [World.size_alloc] at e
    exact e.below hB1 (by simp))
  have HBw : Hid (Below w.heap.size w w1) := (((Below.refl _ _).alloc (Nat.le_refl _) _).alloc (by simp) _).trans (hB1.mono (by simp <;> omega))
  have hw2 : Below w1.heap.size w1 w2 := by
    have e1 : Below w1.heap.size w1 ((w1.alloc (.cells #[.slice none 0 0] 27)).alloc (.map #[] 0)) := ((Below.refl _ w1).alloc (Nat.le_refl _) _).alloc (by simp) _
    refine e1.trans ?_
    exact (Frame.of_grown hgr).below (fun b hb => by injection hb with hb; omega) (by simp <;> omega)
  obtain ⟨w3, hw3⟩ : ∃ w3 : World, w3 = (((w2.alloc (.cells #[.map (some (w1.heap.size + 1))] 108)).alloc (.cells #[.int .i64 0] 3)).alloc (.cells #[.slice (some ⟨w2.heap.size + 1, 0, none⟩) 1 1] 22)) := ⟨_, rfl⟩
  have hB3 : Below w1.heap.size w1 w3 := by
    rw [hw3]
    exact ((hw2.alloc (by omega) _).alloc (by simp <;> omega) _).alloc (by simp <;> omega) _
  have hsz3 : w3.heap.size = w2.heap.size + 3 := by rw [hw3]; simp
  have hst : NumSt w3 (w1.heap.size + 1) w2.heap.size (w2.heap.size + 2) B0 [0] (.slice (some ⟨w2.heap.size + 1, 0, none⟩) 1 1) := by
    rw [hw3]
    refine ⟨((Blk.new w2 _).alloc _).alloc _, ((hmap.alloc _).alloc _).alloc _, ?_, ?_⟩
    · have e := Blk.new ((w2.alloc (.cells #[.map (some (w1.heap.size + 1))] 108)).alloc (.cells #[.int .i64 0] 3)) (.cells #[.slice (some ⟨w2.heap.size + 1, 0, none⟩) 1 1] 22)
      simpa using e
    · have e := (lit_own (w2.alloc (.cells #[.map (some (w1.heap.size + 1))] 108)) (.int .i64 0) 3 B0 (by simp <;> omega)).alloc (.cells #[.slice (some ⟨w2.heap.size + 1, 0, none⟩) 1 1] 22)
      simpa [ints] using e
  have hbc : Blk w3 w1.heap.size (.cells #[.slice none 0 0] 27) := by
    have e := ((Blk.new w1 (.cells #[.slice none 0 0] 27)).alloc (.map #[] 0)).grown hgr (fun e => by injection e with e; omega)
    rw [hw3]
    exact ((e.alloc _).alloc _).alloc _
  rw [← hw3]
  clear hw3 hput hmap hgr hkey K hmm hw2 hB1
  have HST := Lib.hid hst
  have HBC := Lib.hid hbc
  have HB3 := Lib.hid (hB3.mono (B' := B0) (by omega))
  clear hst hbc hB3
  go_loopw [8] (fun i wr => ∃ k : Nat, i = .int .i64 k ∧ k ≤ (machTo N rs k).2.length ∧ ∃ vs vr, MSt w1 (w1.heap.size + 1) w2.heap.size (w2.heap.size + 2) w1.heap.size B0 (machTo N rs k).2 (machTo N rs k).1 [] vs (.slice none 0 0) vr wr)
    (fun i _ => 64 - (intOf i).toNat)
  case atStart => exact ⟨0, rfl, Nat.zero_le _, _, _, HST.out, HBC.out, MachOwn.nil _ _ _, ActsOwn.nil _ _ _, HB3.out, by omega, by omega, by omega, by omega⟩
  case round =>
    obtain ⟨k, rfl, hk, vs, vr, hst⟩ := hrel
    obtain ⟨m, l, HM⟩ : ∃ m l, Hid (machTo N rs k = (m, l)) := ⟨_, _, rfl⟩
    have HOK : Hid (SetsOk l) := by
      have e := machTo_ok (n := N) (rs := rs) (by omega) k
      rw [HM.out] at e; exact e
    have hll := HOK.out.len
    rw [HM.out] at hk hst
    have HST := Lib.hid hst
    have HML : Hid (m.length = k) := (by
      have e := machTo_len (n := N) (rs := rs) (k := k) (by rw [HM.out]; exact hk)
      rw [HM.out] at e; exact e)
    have hml : m.length ≤ 64 := by rw [HML.out]; simp only at hk; omega
    obtain ⟨As, cs, rfl⟩ := own_fits hst.num.own
    have c1 := hst.num.cell.cell 0 (v := .slice As l.length cs) rfl
    have hszB := hst.below.size
    have y0 := cell_chain hst.below (by omega) g0
    simp only at hk
    clear hst
    by_cases hlt : k < l.length
    · obtain ⟨s, hs⟩ : ∃ s, Hid (l[k]? = some s) := ⟨_, List.getElem?_eq_getElem hlt⟩
      have hsB := HOK.out.all s (List.mem_of_getElem? hs.out)
      go_wp2
      obtain ⟨wo, rfl⟩ : ∃ wo : World, wo = wr := ⟨_, rfl⟩
      go_loopw [9, 29] (fun va i wr => ∃ q : Nat, i = .int .i64 q ∧ q ≤ N ∧ ∃ vs, MSt w1 (w1.heap.size + 1) w2.heap.size (w2.heap.size + 2) w1.heap.size B0 (actsTo rs s l q).2 m (actsTo rs s l q).1 vs va vr wr) (fun _ i _ => N - (intOf i).toNat)
      case atStart => exact ⟨0, rfl, Nat.zero_le _, _, HST.out⟩
      case round =>
        obtain ⟨q, rfl, hq, vs2, hst2⟩ := hrel
        obtain ⟨acts, l2, HA⟩ : ∃ acts l2, Hid (actsTo rs s l q = (acts, l2)) := ⟨_, _, rfl⟩
        rw [HA.out] at hst2
        have hst2 : MSt w1 (w1.heap.size + 1) w2.heap.size (w2.heap.size + 2) w1.heap.size B0 l2 m acts vs2 u9 vr wr := hst2
        have HST2 := Lib.hid hst2
        have hal : acts.length = q := by have e := actsTo_len rs s l q; rw [HA.out] at e; exact e
        have HOK2 : Hid (SetsOk l2) := (by
          have e := actsTo_ok HOK.out hsB (rs := rs) q (by omega)
          rw [HA.out] at e; exact e)
        have hl2 := HOK2.out.len
        have HS2 : Hid (l2[k]? = some s) := (by
          have e := actsTo_pre rs s l q
          rw [HA.out] at e
          obtain ⟨t, rfl⟩ := e
          show _ = _
          rw [List.getElem?_append_left hlt]; exact hs.out)
        have hk2 : k < l2.length := (List.getElem?_eq_some_iff.1 HS2.out).1
        obtain ⟨As2, cs2, rfl⟩ := own_fits hst2.num.own
        have d1 := hst2.num.cell.cell 0 (v := .slice As2 l2.length cs2) rfl
        have d2 := hst2.num.cell.lt
        have hszB2 := hst2.below.size
        have z0 := cell_chain hst2.below (by omega) g0
        have z1 := cell_chain hst2.below (by omega) g1
        have hC2 := hA.below (HBw.out.trans (hst2.below.mono (B' := w.heap.size) (by omega))) (Nat.le_refl _)
        obtain ⟨As', cs', hv', hcs2⟩ := own_out hst2.num.own (by simp [ints]; omega)
        obtain ⟨rfl, rfl⟩ : As2 = As' ∧ cs2 = cs' := by injection hv' with h1 _ h3; exact ⟨h1, h3⟩
        obtain ⟨x, b, o, hx, hb, hix, hcx⟩ := ints_at (c := cs2) hcs2 Try.underlying22 szInt hk2
        obtain rfl : s = x := by rw [HS2.out] at hx; injection hx
        clear hst2 hx hv'
        by_cases hqt : q < N
        · go_wp2
          refine draw (fun w' => Below wr.heap.size wr w') 12 rfl (by kernel_rfl) (fun Qd hQd => ?_)
          have hbg : w.heap.size < wr.heap.size := by omega
          apply anyI_step 0 rfl (by kernel_rfl)
          focus (intro wI hI Kv hKv; have t0 := cell_chain hI hbg z0; have t1 := cell_chain hI hbg z1; have t2 := cell_chain hI d2 d1; have t3 := cell_chain hI hb hcx; go_simp; exact hKv)
          intro Kd hKd
          go_simp
          refine hKd _ ?_
          clear hKd Kd
          apply anyI_step 1 rfl (by kernel_rfl)
          focus (intro wI hI Kv hKv; have t0 := cell_chain hI hbg z0; have t1 := cell_chain hI hbg z1; have t2 := cell_chain hI d2 d1; have t3 := cell_chain hI hb hcx; go_simp; exact hKv)
          intro Kd hKd
          go_simp
          refine hKd _ ?_
          clear hKd Kd
          apply anyI_step 2 rfl (by kernel_rfl)
          focus (intro wI hI Kv hKv; have t0 := cell_chain hI hbg z0; have t1 := cell_chain hI hbg z1; have t2 := cell_chain hI d2 d1; have t3 := cell_chain hI hb hcx; go_simp; exact hKv)
          intro Kd hKd
          go_simp
          refine hKd _ ?_
          clear hKd Kd
          apply anyI_step 3 rfl (by kernel_rfl)
          focus (intro wI hI Kv hKv; have t0 := cell_chain hI hbg z0; have t1 := cell_chain hI hbg z1; have t2 := cell_chain hI d2 d1; have t3 := cell_chain hI hb hcx; go_simp; exact hKv)
          intro Kd hKd
          go_simp
          refine hKd _ ?_
          clear hKd Kd
          apply anyI_step 4 rfl (by kernel_rfl)
          focus (intro wI hI Kv hKv; have t0 := cell_chain hI hbg z0; have t1 := cell_chain hI hbg z1; have t2 := cell_chain hI d2 d1; have t3 := cell_chain hI hb hcx; go_simp; exact hKv)
          intro Kd hKd
          go_simp
          refine hKd _ ?_
          clear hKd Kd
          apply anyI_step 5 rfl (by kernel_rfl)
          focus (intro wI hI Kv hKv; have t0 := cell_chain hI hbg z0; have t1 := cell_chain hI hbg z1; have t2 := cell_chain hI d2 d1; have t3 := cell_chain hI hb hcx; go_simp; exact hKv)
          intro Kd hKd
          go_simp
          refine hKd _ ?_
          clear hKd Kd
          refine anyI_one' 6 rfl (by kernel_rfl) ((Below.refl _ _).drew) (fun Kd hKd => ?_)
          go_wp2_with (go_at_call 73; go_must (refine (step_any N s q A c rs _ (by exact hC2.drew) (by omega) (by omega)).mono ?_); rintro e w4 ⟨A3, c3, rfl, hnew, hB4⟩)
          have hB4' : Below wr.heap.size wr w4 := (Below.refl _ wr).drew.trans hB4
          apply anyI_step 7 rfl (by kernel_rfl)
          focus (intro wI hI Kv hKv; go_simp; exact hKv)
          intro Kd hKd
          go_simp
          refine hKd _ ?_
          clear hKd Kd
          apply anyI_step 8 rfl (by kernel_rfl)
          focus (intro wI hI Kv hKv; go_simp; exact hKv)
          intro Kd hKd
          go_simp
          refine hKd _ ?_
          clear hKd Kd
          apply anyI_step 9 rfl (by kernel_rfl)
          focus (intro wI hI Kv hKv; go_simp; exact hKv)
          intro Kd hKd
          go_simp
          refine hKd _ ?_
          clear hKd Kd
          apply anyI_step 10 rfl (by kernel_rfl)
          focus (intro wI hI Kv hKv; go_simp; exact hKv)
          intro Kd hKd
          go_simp
          refine hKd _ ?_
          clear hKd Kd
          apply anyI_step 11 rfl (by kernel_rfl)
          focus (intro wI hI Kv hKv; go_simp; exact hKv)
          intro Kd hKd
          go_simp
          refine hKd _ ?_
          clear hKd Kd
          refine anyI_end (by kernel_rfl) (hB4') (hQd _ _ ?_)
          clear hQd Qd
          have hsz4 := hB4'.size
          have hnew : New w4 wr.heap.size A3 (ints (stepN rs s q)) := hnew
          have M4 := Lib.hid (HST2.out.later hB4')
          obtain ⟨nx, HN⟩ : ∃ nx, Hid (stepN rs s q = nx) := ⟨_, rfl⟩
          have hnl : nx.length ≤ 64 := by rw [← HN.out]; exact stepN_len
          have HNB : Hid (∀ x ∈ nx, isB x) := (by rw [← HN.out]; exact fun x hx => stepN_isB hsB (by omega) (by omega) hx)
          rw [HN.out] at hnew
          rw [HN.out]
          have hvl := M4.out.num.own.lt
          have HVL := Lib.hid hvl
          have hml4 := M4.out.num.map.lt
          have HAW : Hid (ints nx ≠ [] → ∀ a, A3 = some a → ¬ numS (w1.heap.size + 1) (w2.heap.size + 2) (.slice As2 l2.length cs2) a.block) := (by
            intro _ a ha
            have h1 := hnew.2 a ha
            have h3 := HST2.out.num.map.lt
            rintro (e | e | e)
            · omega
            · omega
            · have h2 := (HST2.out.num.own.lt _ e).2; omega)
          clear hvl hcx hix z0 z1 d1 hB4 hcs2 hC2
          go_wp2_with (first
            | (go_at_call 74; go_must (refine (each_any (w1.heap.size + 1) w2.heap.size (w2.heap.size + 2) B0 l2 _ A3 c3 nx w4 M4.out.num (by omega) (by omega) (fun x hx => by have := HNB.out x hx; unfold isB at this; omega) hnew.1 HAW.out).mono ?_); rintro e w5 ⟨A5, c5, rfl, hn5, vs5, hst5, hsep5, hloc5, hF5⟩; have M5 := Lib.hid (M4.out.each hF5 hst5 hloc5); have HSEP := Lib.hid hsep5; have HLOC := Lib.hid hloc5; have hsz5 := hF5.size; clear hst5 hsep5 hloc5; obtain ⟨hs5, hl5, ho5, hc5⟩ := M5.out.acts; have HC5 := Lib.hid hc5; clear hc5)
            | (at_builtin; go_must (refine wpList_app1' rAct _ rfl _ _ rfl ho5 rfl [_, _] 1 rfl rfl (by simp [Value.oneCell']) (by omega) (by omega) ?_); intro va6 w6 ho6 hB6 hg6 hloc6))
          go_roundw
          case rel =>
            have hm6 : ((foldNum l2 nx).1).length = nx.length := foldNum_len1 _ _
            have hCP : CellsP (fun b => ¬ mutS (w1.heap.size + 1) (w2.heap.size + 2) w1.heap.size B0 vs5 u9 vr b) w5 A5 (ints (foldNum l2 nx).1) := by
              refine ⟨hn5.1, fun _ a ha hs => ?_⟩
              have h1 := hn5.2 a ha
              obtain ⟨_, _, ho1, _⟩ := M4.out.mach
              obtain ⟨_, _, ho2, _⟩ := M4.out.acts
              rcases hs with e | e | e | e | e | e | e
              · omega
              · omega
              · omega
              · omega
              · exact HSEP.out a ha e
              · have := (ho2.lt _ e).2; omega
              · have := (ho1.lt _ e).2; omega
            refine ⟨q + 1, by go_num, by omega, vs5, ?_⟩
            rw [actsTo, HA.out, HN.out]
            exact M5.out.act (a := ⟨stepR rs s q, (foldNum l2 nx).1⟩) (B := A5) (c := c5) hl5 ho5 HC5.out hCP (by unfold actCells; simp only [hm6]; exact ho6) hg6 hloc6
          case measure => simp [intOf]; omega
        · obtain rfl : q = N := by omega
          obtain ⟨hs5, hl5, ho5, hc5⟩ := HST2.out.mach
          obtain ⟨Ar, cr, rfl⟩ := own_fits ho5
          obtain ⟨hs6, hl6, ho6, hc6⟩ := HST2.out.acts
          obtain ⟨Aa, ca, rfl⟩ := own_fits ho6
          have e1 := HST2.out.mc.cell 0 (v := .slice Ar m.length cr) rfl
          have HC5 := Lib.hid hc5
          have hbm := HST2.out.mc.lt
          clear hc5 hc6
          go_wp2_with (at_builtin; go_must (refine wpList_app1' rRow _ rfl _ _ rfl ho5 rfl [_] 1 rfl rfl (by simp [Value.oneCell']) (by omega) (by omega) ?_); intro vr6 w6 ho7 hB6 hg6 hloc6; obtain ⟨g7, cap7, rfl⟩ := ownsRow_succ ho7; have b6 := HST2.out.mc.grown hg6 (own_ne ho5 HST2.out.mc (by decide)); have e2 := b6.cell 0 (v := .slice Ar m.length cr) rfl; have e3 := b6.free 0)
          go_roundw
          case rel =>
            have R := HST2.out.row hl5 ho5 HC5.out (by unfold rowCell; simp only [hal]; exact ho7) hg6 hloc6 (by omega)
            refine ⟨k + 1, by go_num, ?_, .slice As2 l2.length cs2, .slice (some ⟨g7, 0, none⟩) (m.length + 1) cap7, ?_⟩
            · rw [machTo_step (by rw [HM.out]; exact hs.out), HM.out, HA.out]
              simp only
              omega
            · rw [machTo_step (by rw [HM.out]; exact hs.out), HM.out, HA.out]
              exact R
          case measure => simp [intOf]; omega
    · have hkl : k = l.length := by omega
      have HMI : Hid (machI (N : Int) rs = m) := (by
        have e := machI_of (n := N) (rs := rs) (k := k) (by omega) (by rw [HM.out]; simp only; omega)
        rw [HM.out] at e; exact e)
      have r0 := HR.out.below HST.out.below (by omega)
      have r1 := r0.cell 0 (v := .slice none 0 0) rfl
      have r2 := r0.free 0
      obtain ⟨Ar, cr, rfl⟩ := own_fits HST.out.mach.choose_spec.2.1
      have e1 := HST.out.mc.cell 0 (v := .slice Ar m.length cr) rfl
      go_wp2
      refine bodyPost_ret (v := .tuple #[.agg #[.slice Ar m.length cr], .int .i64 0]) (results_ct rfl rfl rfl ?_) rfl ?_
      · have q := (r0.set1 (.slice Ar m.length cr)).cell 0 rfl
        go_simp
      · rw [HMI.out]
        have hF : Frame (fun b => b = w.heap.size + 1) wr (wr.setCell ⟨w.heap.size + 1, 0, none⟩ (.slice Ar m.length cr)) := (Frame.refl (fun b => b = w.heap.size + 1) wr).setCell (p := ⟨w.heap.size + 1, 0, none⟩) (.inl rfl) _
        obtain ⟨A', c', hv, hM⟩ := (HST.out.mach.move hF (fun b _ hn e => hn (.inl (by omega))) (fun _ _ h => h) (fun g hg e => by have := (HST.out.mach.choose_spec.2.1.lt g hg).1; omega)).out (by omega)
        obtain ⟨rfl, rfl⟩ : Ar = A' ∧ cr = c' := by injection hv with h1 _ h3; exact ⟨h1, h3⟩
        exact ⟨Ar, ⟨cr, rfl⟩, hM, HBw.out.trans ((HST.out.below.mono (by omega)).trans (hF.below (fun b e => by omega) (by omega)))⟩

/-- The error, and no machine. -/
def machR (n : Int) (rs : List Int) : Mach := if grpOk n rs then machI n rs else []
theorem Machine_any (n : Int) (A : Option Addr) (c : Nat) (rs : List Int) (w : World) (hA : Cells w A (ints rs)) :
    Calls Try.prog 21 #[.agg #[.int .i64 n, .slice A rs.length c]] w fun e w' => ∃ A' c', e = .returned (.tuple #[.agg #[.slice A' (machR n rs).length c'], .int .i64 (errI (grpOk n rs))]) ∧ MachAt w' A' (machR n rs) ∧ Below w.heap.size w w' := by
  by_cases hg : grpOk n rs = true
  · obtain ⟨hn1, _⟩ := grpOk_true hg
    obtain ⟨N, rfl⟩ := Int.eq_ofNat_of_zero_le (a := n) (by omega)
    have e1 : machR (N : Int) rs = machI (N : Int) rs := by unfold machR; rw [if_pos hg]
    have e2 : errI (grpOk (N : Int) rs) = 0 := by rw [hg]; rfl
    rw [e1, e2]
    exact Machine_ok N A c rs w hA hg
  · simp only [Bool.not_eq_true] at hg
    have HG : Hid (errI (grpOk n rs) = 2) := by show _ = _; rw [hg]; rfl
    have HM : Hid (machR n rs = []) := by show _ = _; unfold machR; rw [hg]; rfl
    have HA2 := Lib.hid ((hA.box0 (.cells #[.int .i64 n, .slice A rs.length c] 24)).box0 (.cells #[.slice none 0 0] 27))
    rw [HM.out, HG.out]
    clear hg
    go_enter Try.func21, Try.ntmps21
    go_wp2_with (go_at_call 48; go_must (refine (check_any n A c rs _ HA2.out).mono ?_); rintro e w1 ⟨rfl, hB1⟩; rw [HG.out]; have b1 := (Blk.new (w.alloc (.cells #[.int .i64 n, .slice A rs.length c] 24)) (.cells #[.slice none 0 0] 27)).below hB1 (by simp); simp only [World.size_alloc] at b1; have c1 := b1.cell 0 (v := .slice none 0 0) rfl; have f1 := b1.free 0; have hsz1 := hB1.size; simp only [World.size_alloc] at hsz1)
    refine bodyPost_ret (v := .tuple #[.agg #[.slice none 0 0], .int .i64 2]) (results_ct rfl rfl rfl ?_) rfl ?_
    · have q := (b1.set1 (.slice none 0 0)).cell 0 rfl
      go_simp
    · refine ⟨none, 0, rfl, ⟨[], rfl, Cells.nil _ _, by simp⟩, ?_⟩
      have hF : Frame (fun b => b = w.heap.size + 1) w1 (w1.setCell ⟨w.heap.size + 1, 0, none⟩ (.slice none 0 0)) := (Frame.refl (fun b => b = w.heap.size + 1) w1).setCell (p := ⟨w.heap.size + 1, 0, none⟩) (.inl rfl) _
      exact ((((Below.refl _ _).alloc (Nat.le_refl _) _).alloc (by simp) _).trans (hB1.mono (by simp <;> omega))).trans (hF.below (fun b e => by omega) (by omega))
end Go.Proofs.Ytlnonadkdonhmaa
