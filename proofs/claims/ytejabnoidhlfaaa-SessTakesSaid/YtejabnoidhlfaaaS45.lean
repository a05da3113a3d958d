/- Contract: the reference's Good. -/
import Derived.Test.YtejabnoidhlfaaaS44

/- Contracts of the reference: Good, Start, Again. -/
namespace Go.Proofs.Ytejabnoidhlfaaa
open Go.RowKit Go.Maps

def inI (x : Int) : Prop := -9223372036854775808 ≤ x ∧ x ≤ 9223372036854775807
/-- An end whose numbers are numbers of the machine. -/
structure Wf (e : En) : Prop where
  base : inI e.base
  inn : ∀ x ∈ e.inn, inI x.n
theorem goodB_eq (e : En) : goodB e = (decide (1 ≤ e.life) && decide (e.life ≤ 1000000000) && (decide (0 ≤ e.peer) && decide (e.peer ≤ 1000000000)) && (decide (0 ≤ e.base) && decide (e.base ≤ 1000000000)) && (decide (0 ≤ e.want) && decide (e.want ≤ 1000000000)) && outsB e && decide ((e.out.length : Int) ≤ 1000000000 - e.base) &&
    (if e.phase = 3 then decide (0 < e.peer) && inOk e.want e.want e.inn
     else decide (e.base = 0) && decide (e.want = 0) && decide (e.inn = []) && ((decide (e.phase = 1) && decide (e.peer = 0)) || (decide (e.phase = 2) && decide (0 < e.peer))))) := by
  have iff : ∀ a b : Bool, (a = true ↔ b = true) → a = b := by decide
  apply iff
  unfold goodB outsB most
  split
  · simp only [Bool.and_eq_true, decide_eq_true_eq]
    constructor
    · rintro ⟨⟨⟨⟨⟨⟨⟨⟨⟨⟨h1, h2⟩, h3⟩, h4⟩, h5⟩, h6⟩, h7⟩, h8⟩, h9⟩, h10⟩, h11, h12⟩
      exact ⟨⟨⟨⟨⟨⟨⟨h1, h2⟩, h3, h4⟩, h5, by omega⟩, h6, h7⟩, h8, h10⟩, by omega⟩, h11, h12⟩
    · rintro ⟨⟨⟨⟨⟨⟨⟨h1, h2⟩, h3, h4⟩, h5, _⟩, h6, h7⟩, h8, h10⟩, h9⟩, h11, h12⟩
      exact ⟨⟨⟨⟨⟨⟨⟨⟨⟨⟨h1, h2⟩, h3⟩, h4⟩, h5⟩, h6⟩, h7⟩, h8⟩, by omega⟩, h10⟩, h11, h12⟩
  · simp only [Bool.and_eq_true, decide_eq_true_eq]
    constructor
    · rintro ⟨⟨⟨⟨⟨⟨⟨⟨⟨⟨h1, h2⟩, h3⟩, h4⟩, h5⟩, h6⟩, h7⟩, h8⟩, h9⟩, h10⟩, h11⟩
      exact ⟨⟨⟨⟨⟨⟨⟨h1, h2⟩, h3, h4⟩, h5, by omega⟩, h6, h7⟩, h8, h10⟩, by omega⟩, h11⟩
    · rintro ⟨⟨⟨⟨⟨⟨⟨h1, h2⟩, h3, h4⟩, h5, _⟩, h6, h7⟩, h8, h10⟩, h9⟩, h11⟩
      exact ⟨⟨⟨⟨⟨⟨⟨⟨⟨⟨h1, h2⟩, h3⟩, h4⟩, h5⟩, h6⟩, h7⟩, h8⟩, by omega⟩, h10⟩, h11⟩
set_option maxRecDepth 100000 in
set_option maxHeartbeats 8000000 in
theorem good_any (e : En) (A : Option Addr) (c : Nat) (D : Option Addr) (d : Nat) (w : World) (h : EnAt w e A D) (hwf : Wf e) : Calls Try.prog 23 #[enV e A c D d] w fun r w' => r = .returned (.bool (goodB e)) ∧ Below w.heap.size w w' := by
  have HE := Lib.hid h
  have HWF := Lib.hid hwf
  have HGB := Lib.hid (goodB_eq e)
  clear h hwf
  unfold enV
  go_enter Try.func23, Try.ntmps23
  obtain ⟨W, hW⟩ : ∃ W, w.alloc (.cells #[.int .i64 e.life, .int .i64 e.peer, .int .i64 e.phase, .int .i64 e.base, .slice A e.out.length c, .int .i64 e.want, .slice D e.inn.length d] 26) = W := ⟨_, rfl⟩
  have HBW : Hid (Below w.heap.size w W) := by rw [← hW]; exact (Below.refl _ w).alloc (Nat.le_refl _) _
  have HKW : Hid (Blk W w.heap.size (.cells (enB e A c D d) 26)) := by rw [← hW]; exact Blk.new _ _
  have q9 := HKW.out
  have x0 := q9.cell 0 (v := .int .i64 e.life) rfl
  have x1 := q9.cell 1 (v := .int .i64 e.peer) rfl
  have x2 := q9.cell 2 (v := .int .i64 e.phase) rfl
  have x3 := q9.cell 3 (v := .int .i64 e.base) rfl
  have x4 := q9.cell 4 (v := .slice A e.out.length c) rfl
  have x5 := q9.cell 5 (v := .int .i64 e.want) rfl
  have x6 := q9.cell 6 (v := .slice D e.inn.length d) rfl
  have xl := q9.lt
  clear q9
  obtain ⟨b1, q1⟩ : ∃ b, (decide (1 ≤ e.life) && decide (e.life ≤ 1000000000)) = b := ⟨_, rfl⟩
  obtain ⟨b2, q2⟩ : ∃ b, (decide (0 ≤ e.peer) && decide (e.peer ≤ 1000000000)) = b := ⟨_, rfl⟩
  obtain ⟨b3, q3⟩ : ∃ b, (decide (0 ≤ e.base) && decide (e.base ≤ 1000000000)) = b := ⟨_, rfl⟩
  obtain ⟨b4, q4⟩ : ∃ b, (decide (0 ≤ e.want) && decide (e.want ≤ 1000000000)) = b := ⟨_, rfl⟩
  rw [q1, q2, q3, q4] at HGB
  have Q1 := Lib.hid q1
  have Q2 := Lib.hid q2
  have Q3 := Lib.hid q3
  have Q4 := Lib.hid q4
  obtain ⟨tb, HTB⟩ : ∃ tb, Hid ((b1 && b2 && b3 && b4 && outsB e && decide ((e.out.length : Int) ≤ 1000000000 - e.base)) = tb) := ⟨_, rfl⟩
  rw [HTB.out] at HGB
  clear q1 q2 q3 q4
  go_upto_region 1 with fail
  go_cut [38] from 3 (fun v wx => v = .bool (!tb) ∧ Below W.heap.size W wx)
  case first =>
    go_wp2_with fail
    refine (in_any e.life _ _ _).mono ?_
    rintro r w9 ⟨rfl, hw9⟩
    obtain rfl := hw9.symm
    clear hw9
    rw [Q1.out]
    cases b1 with
    | false =>
      obtain rfl : tb = false := by rw [← HTB.out]; rfl
      go_wp2_with fail
      go_meet
      exact ⟨rfl, Below.refl _ _⟩
    | true =>
    go_wp2_with fail
    refine (in_any e.peer _ _ _).mono ?_
    rintro r w9 ⟨rfl, hw9⟩
    obtain rfl := hw9.symm
    clear hw9
    rw [Q2.out]
    cases b2 with
    | false =>
      obtain rfl : tb = false := by rw [← HTB.out]; rfl
      go_wp2_with fail
      go_meet
      exact ⟨rfl, Below.refl _ _⟩
    | true =>
    go_wp2_with fail
    refine (in_any e.base _ _ _).mono ?_
    rintro r w9 ⟨rfl, hw9⟩
    obtain rfl := hw9.symm
    clear hw9
    rw [Q3.out]
    cases b3 with
    | false =>
      obtain rfl : tb = false := by rw [← HTB.out]; rfl
      go_wp2_with fail
      go_meet
      exact ⟨rfl, Below.refl _ _⟩
    | true =>
    go_wp2_with fail
    refine (in_any e.want _ _ _).mono ?_
    rintro r w9 ⟨rfl, hw9⟩
    obtain rfl := hw9.symm
    clear hw9
    rw [Q4.out]
    cases b4 with
    | false =>
      obtain rfl : tb = false := by rw [← HTB.out]; rfl
      go_wp2_with fail
      go_meet
      exact ⟨rfl, Below.refl _ _⟩
    | true =>
    obtain ⟨bo, HBO⟩ : ∃ bo, Hid (outsB e = bo) := ⟨_, rfl⟩
    rw [HBO.out] at HTB
    go_wp2_with fail
    refine (outs_any e A c D d W (HE.out.below HBW.out).out).mono ?_
    rintro r w2 ⟨rfl, hB2⟩
    rw [HBO.out]
    have HB2 := Lib.hid hB2
    have HK2 := Lib.hid (HKW.out.below hB2 HKW.out.lt)
    clear hB2 x0 x1 x2 x3 x4 x5 x6 xl
    cases bo with
    | false =>
      obtain rfl : tb = false := by rw [← HTB.out]; rfl
      go_wp2_with fail
      go_meet
      exact ⟨rfl, HB2.out⟩
    | true =>
    have q9 := HK2.out
    have x0 := q9.cell 0 (v := .int .i64 e.life) rfl
    have x1 := q9.cell 1 (v := .int .i64 e.peer) rfl
    have x2 := q9.cell 2 (v := .int .i64 e.phase) rfl
    have x3 := q9.cell 3 (v := .int .i64 e.base) rfl
    have x4 := q9.cell 4 (v := .slice A e.out.length c) rfl
    have x5 := q9.cell 5 (v := .int .i64 e.want) rfl
    have x6 := q9.cell 6 (v := .slice D e.inn.length d) rfl
    have xl := q9.lt
    clear q9
    have hb3 := Q3.out
    simp only [Bool.and_eq_true, decide_eq_true_eq] at hb3
    have hw1 : IntKind.i64.wrap (1000000000 - e.base) = 1000000000 - e.base := wrap_ok ⟨by omega, by omega⟩
    clear hb3
    by_cases hl : 1000000000 - e.base < (e.out.length : Int)
    · have ql : decide (1000000000 - e.base < (e.out.length : Int)) = true := decide_eq_true hl
      obtain rfl : tb = false := by rw [← HTB.out, decide_eq_false (show ¬ (e.out.length : Int) ≤ 1000000000 - e.base by omega)]; rfl
      clear hl
      go_wp2_with fail
      go_meet
      exact ⟨rfl, HB2.out⟩
    · have ql : decide (1000000000 - e.base < (e.out.length : Int)) = false := decide_eq_false hl
      obtain rfl : tb = true := by rw [← HTB.out, decide_eq_true (show (e.out.length : Int) ≤ 1000000000 - e.base by omega)]; rfl
      clear hl
      go_wp2_with fail
      go_meet
      exact ⟨rfl, HB2.out⟩
  case rest =>
    obtain ⟨rfl, hbx⟩ := hcut
    have HKX := Lib.hid (HKW.out.below hbx HKW.out.lt)
    have HBX : Hid (Below w.heap.size w wc) := HBW.out.trans (hbx.mono HBW.out.size)
    have HEX := Lib.hid (HE.out.below HBX.out)
    clear hbx x0 x1 x2 x3 x4 x5 x6 xl hW
    cases tb with
    | false =>
      have HV : Hid (goodB e = false) := by show _ = _; rw [HGB.out]; rfl
      go_wp2
      go_ret
      exact ⟨by rw [HV.out]; rfl, HBX.out⟩
    | true =>
    have q9 := HKX.out
    have x0 := q9.cell 0 (v := .int .i64 e.life) rfl
    have x1 := q9.cell 1 (v := .int .i64 e.peer) rfl
    have x2 := q9.cell 2 (v := .int .i64 e.phase) rfl
    have x3 := q9.cell 3 (v := .int .i64 e.base) rfl
    have x4 := q9.cell 4 (v := .slice A e.out.length c) rfl
    have x5 := q9.cell 5 (v := .int .i64 e.want) rfl
    have x6 := q9.cell 6 (v := .slice D e.inn.length d) rfl
    have xl := q9.lt
    clear q9
    have HW4 : Hid (0 ≤ e.want ∧ e.want ≤ 1000000000) := by
      have h1 := HTB.out
      simp only [Bool.and_eq_true] at h1
      have h2 := Q4.out
      rw [h1.1.1.2] at h2
      show 0 ≤ e.want ∧ e.want ≤ 1000000000
      simpa only [Bool.and_eq_true, decide_eq_true_eq] using h2
    cases qp : (e.phase == 3) with
    | true =>
      have hp3 : e.phase = 3 := beq_iff_eq.1 qp
      rw [if_pos hp3, Bool.true_and] at HGB
      clear hp3
      by_cases hpe : 0 < e.peer
      · have q0 : decide (0 < e.peer) = true := decide_eq_true hpe
        rw [q0, Bool.true_and] at HGB
        clear hpe
        go_wp2_with fail
        refine (ins_any e A c D d wc HEX.out.inn HW4.out HWF.out.inn).mono ?_
        rintro r w2 ⟨rfl, hB2⟩
        have HB2 := Lib.hid hB2
        clear hB2
        go_wp2
        go_ret
        exact ⟨by rw [HGB.out]; rfl, below_in HBX.out HB2.out⟩
      · have q0 : decide (0 < e.peer) = false := decide_eq_false hpe
        rw [q0, Bool.false_and] at HGB
        clear hpe
        go_wp2
        go_ret
        exact ⟨by rw [HGB.out]; rfl, HBX.out⟩
    | false =>
      have HPN : Hid (¬ e.phase = 3) := beq_eq_false_iff_ne.1 qp
      rw [if_neg HPN.out, Bool.true_and] at HGB
      cases k1 : (e.base != 0) with
      | true =>
        have HV : Hid (goodB e = false) := by show _ = _; rw [HGB.out, decide_eq_false (show ¬ e.base = 0 by simpa using k1)]; rfl
        go_wp2
        go_ret
        exact ⟨by rw [HV.out]; rfl, HBX.out⟩
      | false =>
      have hb0 : decide (e.base = 0) = true := decide_eq_true (by simpa using k1)
      rw [hb0, Bool.true_and] at HGB
      clear hb0
      cases k2 : (e.want != 0) with
      | true =>
        have HV : Hid (goodB e = false) := by show _ = _; rw [HGB.out, decide_eq_false (show ¬ e.want = 0 by simpa using k2)]; rfl
        go_wp2
        go_ret
        exact ⟨by rw [HV.out]; rfl, HBX.out⟩
      | false =>
      have hb0 : decide (e.want = 0) = true := decide_eq_true (by simpa using k2)
      rw [hb0, Bool.true_and] at HGB
      clear hb0
      by_cases hi : (0 : Int) < (e.inn.length : Int)
      · have k3 : decide (0 < e.inn.length) = true := decide_eq_true (by omega)
        have HV : Hid (goodB e = false) := by
          show _ = _
          rw [HGB.out, decide_eq_false (show ¬ e.inn = [] by intro h0; rw [h0] at hi; simp at hi)]
          rfl
        clear hi
        go_wp2
        go_ret
        exact ⟨by rw [HV.out]; rfl, HBX.out⟩
      have k3 : decide (0 < e.inn.length) = false := decide_eq_false (by omega)
      have hi0 : decide (e.inn = []) = true := decide_eq_true (List.eq_nil_of_length_eq_zero (by omega))
      rw [hi0, Bool.true_and] at HGB
      clear hi hi0
      cases k4 : (e.phase == 1) with
      | true =>
        have h1 : e.phase = 1 := beq_iff_eq.1 k4
        have k5 : (e.phase == 2) = false := beq_eq_false_iff_ne.2 (by omega)
        cases k6 : (e.peer == 0) with
        | true =>
          have HV : Hid (goodB e = true) := by show _ = _; rw [HGB.out, decide_eq_true h1, decide_eq_true (show e.peer = 0 by simpa using k6)]; rfl
          clear h1
          go_wp2
          go_ret
          exact ⟨by rw [HV.out]; rfl, HBX.out⟩
        | false =>
          have HV : Hid (goodB e = false) := by show _ = _; rw [HGB.out, decide_eq_true h1, decide_eq_false (show ¬ e.peer = 0 by simpa using k6), decide_eq_false (show ¬ e.phase = 2 by omega)]; rfl
          clear h1
          go_wp2
          go_ret
          exact ⟨by rw [HV.out]; rfl, HBX.out⟩
      | false =>
        have h1 : ¬ e.phase = 1 := beq_eq_false_iff_ne.1 k4
        cases k5 : (e.phase == 2) with
        | true =>
          by_cases hpe : 0 < e.peer
          · have k6 : decide (0 < e.peer) = true := decide_eq_true hpe
            have HV : Hid (goodB e = true) := by show _ = _; rw [HGB.out, decide_eq_false h1, decide_eq_true (show e.phase = 2 by simpa using k5), k6]; rfl
            clear h1 hpe
            go_wp2
            go_ret
            exact ⟨by rw [HV.out]; rfl, HBX.out⟩
          · have k6 : decide (0 < e.peer) = false := decide_eq_false hpe
            have HV : Hid (goodB e = false) := by show _ = _; rw [HGB.out, decide_eq_false h1, decide_eq_true (show e.phase = 2 by simpa using k5), k6]; rfl
            clear h1 hpe
            go_wp2
            go_ret
            exact ⟨by rw [HV.out]; rfl, HBX.out⟩
        | false =>
          have HV : Hid (goodB e = false) := by show _ = _; rw [HGB.out, decide_eq_false h1, decide_eq_false (show ¬ e.phase = 2 by simpa using k5)]; rfl
          clear h1
          go_wp2
          go_ret
          exact ⟨by rw [HV.out]; rfl, HBX.out⟩
end Go.Proofs.Ytejabnoidhlfaaa
