/- The walk of SessSends. -/
import Derived.Test.YtejabnoidhlfaaaS52
import Derived.Test.YtejabnoidhlfaaaS51
import Derived.Test.YtejabnoidhlfaaaS49

/- The walk of SessSends. -/
namespace Go.Proofs.Ytejabnoidhlfaaa
open Go.RowKit Go.Maps

theorem flyN4 (e : En) : flyN e ≤ 4 := by
  unfold flyN
  split <;> omega
theorem fromA_len4 (e : En) (i : Nat) : (fromA e i).length ≤ 4 := by
  have := flyN4 e
  unfold fromA
  rw [List.length_map, List.length_drop, List.length_range]
  omega
theorem sendA_len (e : En) (t : ByteArray) : (sendA e t).2.1.length ≤ 1000 := by
  unfold sendA
  split
  · simp
  · split
    · simp
    · exact Nat.le_trans (fromA_len4 _ _) (by decide)
theorem tickA_len (e : En) : (tickA e).1.length ≤ 1000 := by
  unfold tickA
  split
  · simp
  · split
    · simp
    · rw [List.length_append, List.length_map]
      have h1 := freeIx_len (e.out.take (flyN e)) 0
      have h2 := flyN4 e
      rw [List.length_take] at h1
      simp only [List.length_cons, List.length_nil]
      omega
set_option maxRecDepth 100000 in
set_option maxHeartbeats 16000000 in
theorem walk_sends (e : En) (A : Option Addr) (c : Nat) (D : Option Addr) (d : Nat) (t : ByteArray) (w : World) (h : EnAt w e A D) (hwf : Wf e) (hA : A = none → e.out.length = 0 ∧ c = 0) (hD : D = none → e.inn.length = 0 ∧ d = 0) : Calls Try.prog 4 #[enV e A c D d, .string t] w fun r w' => r = .returned (.bool true) ∧ Below w.heap.size w w' := by
  have HE := Lib.hid h
  have HWF := Lib.hid hwf
  have HA := Lib.hid hA
  have HD := Lib.hid hD
  clear h hwf hA hD
  unfold enV
  go_enter Try.func4, Try.ntmps4
  obtain ⟨W, hW⟩ : ∃ W, w.alloc (.cells #[.int .i64 e.life, .int .i64 e.peer, .int .i64 e.phase, .int .i64 e.base, .slice A e.out.length c, .int .i64 e.want, .slice D e.inn.length d] 26) = W := ⟨_, rfl⟩
  have HBW : Hid (Below w.heap.size w W) := by rw [← hW]; exact (Below.refl _ w).alloc (Nat.le_refl _) _
  have HKW : Hid (Blk W w.heap.size (.cells (enB e A c D d) 26)) := by rw [← hW]; exact Blk.new _ _
  have q9 := HKW.out
  have x0 := q9.cell 0 (v := .int .i64 e.life) rfl
  have x1 := q9.cell 1 (v := .int .i64 e.peer) rfl
  have x2 := q9.cell 2 (v := .int .i64 e.phase) rfl
  have x3 := q9.cell 3 (v := .int .i64 e.base) rfl
  have x4 := q9.cell 4 (v := .slice A e.out.length c) rfl
  have x5 := q9.cell 5 (v := .int .i64 e.want) rfl
  have x6 := q9.cell 6 (v := .slice D e.inn.length d) rfl
  have xl := q9.lt
  clear q9
  go_wp2_with fail
  refine (wide_any e A c D d W (HE.out.below HBW.out)).mono ?_
  rintro r w1 ⟨⟨b, rfl⟩, hB1⟩
  have HBc : Hid (Below w.heap.size w w1) := below_in HBW.out hB1
  have HK := Lib.hid (HKW.out.below hB1 HKW.out.lt)
  clear hB1 x0 x1 x2 x3 x4 x5 x6 xl hW
  cases b with
  | true =>
    go_wp2_with fail
    refine (works_any w1).mono ?_
    rintro r w2 ⟨rfl, hB2⟩
    have HB2 : Hid (Below w.heap.size w w2) := below_in HBc.out hB2
    go_wp2
    go_ret
    exact ⟨rfl, HB2.out⟩
  | false =>
    by_cases h60 : (60 : Int) < (t.size : Int)
    · have q1 : decide ((60 : Int) < (t.size : Int)) = true := decide_eq_true h60
      go_wp2_with fail
      refine (works_any w1).mono ?_
      rintro r w2 ⟨rfl, hB2⟩
      have HB2 : Hid (Below w.heap.size w w2) := below_in HBc.out hB2
      go_wp2
      go_ret
      exact ⟨rfl, HB2.out⟩
    have q1 : decide ((60 : Int) < (t.size : Int)) = false := decide_eq_false h60
    clear h60
    have q9 := HK.out
    have x0 := q9.cell 0 (v := .int .i64 e.life) rfl
    have x1 := q9.cell 1 (v := .int .i64 e.peer) rfl
    have x2 := q9.cell 2 (v := .int .i64 e.phase) rfl
    have x3 := q9.cell 3 (v := .int .i64 e.base) rfl
    have x4 := q9.cell 4 (v := .slice A e.out.length c) rfl
    have x5 := q9.cell 5 (v := .int .i64 e.want) rfl
    have x6 := q9.cell 6 (v := .slice D e.inn.length d) rfl
    have xl := q9.lt
    clear q9
    have HEc := Lib.hid (HE.out.below HBc.out)
    obtain ⟨S, HS⟩ : ∃ S, Hid (sendA e t = S) := ⟨_, rfl⟩
    go_wp2_with fail
    refine (send_any e A c D d t w1 HEc.out HA.out).mono ?_
    rintro r w2 ⟨A1, c1, D1, d1, v1, rfl, hE1, _, _, _, _, ho1, hB⟩
    rw [HS.out] at hE1 ho1 ⊢
    have hL1 : S.2.1.length ≤ 1000 := by rw [← HS.out]; exact sendA_len e t
    obtain ⟨P1, p1, rfl⟩ := own_fits ho1
    have HP1 : Hid (Cells w2 P1 (pks S.2.1)) := (Cells.of_own ho1 (by rw [pks_len]; omega)).1
    have HE1 := Lib.hid hE1
    have HBc : Hid (Below w.heap.size w w2) := below_in HBc.out hB
    have HK := Lib.hid (HK.out.below hB HK.out.lt)
    clear hB hE1 ho1 hL1 x0 x1 x2 x3 x4 x5 x6 xl
    unfold enV
    go_upto_region 4 with fail
    obtain ⟨w3, hv⟩ : ∃ v, w2.alloc (.cells #[.int .i64 S.1.life, .int .i64 S.1.peer, .int .i64 S.1.phase, .int .i64 S.1.base, .slice A1 S.1.out.length c1, .int .i64 S.1.want, .slice D1 S.1.inn.length d1] 26) = v := ⟨_, rfl⟩
    have hbv : Below w2.heap.size w2 w3 := by rw [← hv]; exact (Below.refl _ w2).alloc (Nat.le_refl _) _
    have HBv : Hid (Below w.heap.size w w3) := below_in HBc.out hbv
    have HM1 : Hid (Blk w3 w2.heap.size (.cells (enB S.1 A1 c1 D1 d1) 26)) := by rw [← hv]; exact Blk.new _ _
    rw [hv]
    clear hv HBc
    have HBc := HBv
    clear HBv
    have HK := Lib.hid (HK.out.below hbv HK.out.lt)
    have HE1 := Lib.hid (HE1.out.below hbv)
    have HP1 := Lib.hid (HP1.out.below hbv (Nat.le_refl _))
    clear hbv
    have q9 := HK.out
    have x0 := q9.cell 0 (v := .int .i64 e.life) rfl
    have x1 := q9.cell 1 (v := .int .i64 e.peer) rfl
    have x2 := q9.cell 2 (v := .int .i64 e.phase) rfl
    have x3 := q9.cell 3 (v := .int .i64 e.base) rfl
    have x4 := q9.cell 4 (v := .slice A e.out.length c) rfl
    have x5 := q9.cell 5 (v := .int .i64 e.want) rfl
    have x6 := q9.cell 6 (v := .slice D e.inn.length d) rfl
    have xl := q9.lt
    clear q9
    have HEc := Lib.hid (HE.out.below HBc.out)
    go_wp2_with fail
    refine (rsend_any e A c D d t w3 HEc.out HWF.out HA.out HD.out).mono ?_
    rintro r w4 ⟨A2, c2, D2, d2, P2, p2, rfl, hE2, hC2, hB⟩
    rw [HS.out] at hE2 hC2 ⊢
    have HE2 := Lib.hid hE2
    have HP2 := Lib.hid hC2
    have HBc : Hid (Below w.heap.size w w4) := below_in HBc.out hB
    have HK := Lib.hid (HK.out.below hB HK.out.lt)
    have HM1 := Lib.hid (HM1.out.below hB HM1.out.lt)
    have HE1 := Lib.hid (HE1.out.below hB)
    have HP1 := Lib.hid (HP1.out.below hB (Nat.le_refl _))
    clear hB hE2 hC2 x0 x1 x2 x3 x4 x5 x6 xl
    unfold enV
    go_upto_region 5 with fail
    obtain ⟨w5, hv⟩ : ∃ v, w4.alloc (.cells #[.int .i64 S.1.life, .int .i64 S.1.peer, .int .i64 S.1.phase, .int .i64 S.1.base, .slice A2 S.1.out.length c2, .int .i64 S.1.want, .slice D2 S.1.inn.length d2] 26) = v := ⟨_, rfl⟩
    have hbv : Below w4.heap.size w4 w5 := by rw [← hv]; exact (Below.refl _ w4).alloc (Nat.le_refl _) _
    have HBv : Hid (Below w.heap.size w w5) := below_in HBc.out hbv
    have HM2 : Hid (Blk w5 w4.heap.size (.cells (enB S.1 A2 c2 D2 d2) 26)) := by rw [← hv]; exact Blk.new _ _
    rw [hv]
    clear hv HBc
    have HBc := HBv
    clear HBv
    have HK := Lib.hid (HK.out.below hbv HK.out.lt)
    have HM1 := Lib.hid (HM1.out.below hbv HM1.out.lt)
    have HE1 := Lib.hid (HE1.out.below hbv)
    have HE2 := Lib.hid (HE2.out.below hbv)
    have HP1 := Lib.hid (HP1.out.below hbv (Nat.le_refl _))
    have HP2 := Lib.hid (HP2.out.below hbv (Nat.le_refl _))
    clear hbv
    have q9 := HK.out
    have x0 := q9.cell 0 (v := .int .i64 e.life) rfl
    have x1 := q9.cell 1 (v := .int .i64 e.peer) rfl
    have x2 := q9.cell 2 (v := .int .i64 e.phase) rfl
    have x3 := q9.cell 3 (v := .int .i64 e.base) rfl
    have x4 := q9.cell 4 (v := .slice A e.out.length c) rfl
    have x5 := q9.cell 5 (v := .int .i64 e.want) rfl
    have x6 := q9.cell 6 (v := .slice D e.inn.length d) rfl
    have xl := q9.lt
    clear q9
    have HEc := Lib.hid (HE.out.below HBc.out)
    obtain ⟨T, HT⟩ : ∃ T, Hid (tickA e = T) := ⟨_, rfl⟩
    go_wp2_with fail
    refine (tick_any e A c D d w5 HEc.out HA.out).mono ?_
    rintro r w6 ⟨v3, rfl, ho3, hB⟩
    rw [HT.out] at ho3 ⊢
    have hL3 : T.1.length ≤ 1000 := by rw [← HT.out]; exact tickA_len e
    obtain ⟨P3, p3, rfl⟩ := own_fits ho3
    have HP3 : Hid (Cells w6 P3 (pks T.1)) := (Cells.of_own ho3 (by rw [pks_len]; omega)).1
    have HBc : Hid (Below w.heap.size w w6) := below_in HBc.out hB
    have HK := Lib.hid (HK.out.below hB HK.out.lt)
    have HM1 := Lib.hid (HM1.out.below hB HM1.out.lt)
    have HM2 := Lib.hid (HM2.out.below hB HM2.out.lt)
    have HE1 := Lib.hid (HE1.out.below hB)
    have HE2 := Lib.hid (HE2.out.below hB)
    have HP1 := Lib.hid (HP1.out.below hB (Nat.le_refl _))
    have HP2 := Lib.hid (HP2.out.below hB (Nat.le_refl _))
    clear hB ho3 hL3 x0 x1 x2 x3 x4 x5 x6 xl
    have q9 := HK.out
    have x0 := q9.cell 0 (v := .int .i64 e.life) rfl
    have x1 := q9.cell 1 (v := .int .i64 e.peer) rfl
    have x2 := q9.cell 2 (v := .int .i64 e.phase) rfl
    have x3 := q9.cell 3 (v := .int .i64 e.base) rfl
    have x4 := q9.cell 4 (v := .slice A e.out.length c) rfl
    have x5 := q9.cell 5 (v := .int .i64 e.want) rfl
    have x6 := q9.cell 6 (v := .slice D e.inn.length d) rfl
    have xl := q9.lt
    clear q9
    have HEc := Lib.hid (HE.out.below HBc.out)
    go_wp2_with fail
    refine (rtick_any e A c D d w6 HEc.out HWF.out).mono ?_
    rintro r w7 ⟨P4, p4, rfl, hC4, hB⟩
    rw [HT.out] at hC4 ⊢
    have HP4 := Lib.hid hC4
    have HBc : Hid (Below w.heap.size w w7) := below_in HBc.out hB
    have HM1 := Lib.hid (HM1.out.below hB HM1.out.lt)
    have HM2 := Lib.hid (HM2.out.below hB HM2.out.lt)
    have HE1 := Lib.hid (HE1.out.below hB)
    have HE2 := Lib.hid (HE2.out.below hB)
    have HP1 := Lib.hid (HP1.out.below hB (Nat.le_refl _))
    have HP2 := Lib.hid (HP2.out.below hB (Nat.le_refl _))
    have HP3 := Lib.hid (HP3.out.below hB (Nat.le_refl _))
    clear hB hC4 x0 x1 x2 x3 x4 x5 x6 xl
    have q9 := HM1.out
    have a0 := q9.cell 0 (v := .int .i64 S.1.life) rfl
    have a1 := q9.cell 1 (v := .int .i64 S.1.peer) rfl
    have a2 := q9.cell 2 (v := .int .i64 S.1.phase) rfl
    have a3 := q9.cell 3 (v := .int .i64 S.1.base) rfl
    have a4 := q9.cell 4 (v := .slice A1 S.1.out.length c1) rfl
    have a5 := q9.cell 5 (v := .int .i64 S.1.want) rfl
    have a6 := q9.cell 6 (v := .slice D1 S.1.inn.length d1) rfl
    have al := q9.lt
    clear q9
    have q9 := HM2.out
    have b0 := q9.cell 0 (v := .int .i64 S.1.life) rfl
    have b1 := q9.cell 1 (v := .int .i64 S.1.peer) rfl
    have b2 := q9.cell 2 (v := .int .i64 S.1.phase) rfl
    have b3 := q9.cell 3 (v := .int .i64 S.1.base) rfl
    have b4 := q9.cell 4 (v := .slice A2 S.1.out.length c2) rfl
    have b5 := q9.cell 5 (v := .int .i64 S.1.want) rfl
    have b6 := q9.cell 6 (v := .slice D2 S.1.inn.length d2) rfl
    have bl := q9.lt
    clear q9
    have hes : (S.2.2 == S.2.2) = true := beq_self_eq_true _
    have het : (T.2 == T.2) = true := beq_self_eq_true _
    go_wp2_with fail
    refine (same_end S.1 A1 c1 D1 d1 S.1 A2 c2 D2 d2 w7 HE1.out HE2.out).mono ?_
    rintro r v1 ⟨rfl, hB⟩
    rw [decide_eq_true rfl]
    have HBc : Hid (Below w.heap.size w v1) := below_in HBc.out hB
    have HP1 := Lib.hid (HP1.out.below hB (Nat.le_refl _))
    have HP2 := Lib.hid (HP2.out.below hB (Nat.le_refl _))
    have HP3 := Lib.hid (HP3.out.below hB (Nat.le_refl _))
    have HP4 := Lib.hid (HP4.out.below hB (Nat.le_refl _))
    clear hB a0 a1 a2 a3 a4 a5 a6 al b0 b1 b2 b3 b4 b5 b6 bl
    go_wp2_with fail
    refine (same_packets P1 p1 S.2.1 P2 p2 S.2.1 v1 HP1.out HP2.out).mono ?_
    rintro r v2 ⟨rfl, hB⟩
    rw [decide_eq_true rfl]
    have HBc : Hid (Below w.heap.size w v2) := below_in HBc.out hB
    have HP3 := Lib.hid (HP3.out.below hB (Nat.le_refl _))
    have HP4 := Lib.hid (HP4.out.below hB (Nat.le_refl _))
    clear hB
    go_wp2_with fail
    refine (same_packets P3 p3 T.1 P4 p4 T.1 v2 HP3.out HP4.out).mono ?_
    rintro r v3 ⟨rfl, hB⟩
    rw [decide_eq_true rfl]
    have HBc : Hid (Below w.heap.size w v3) := below_in HBc.out hB
    clear hB
    go_wp2_with fail
    refine (works_any v3).mono ?_
    rintro r v4 ⟨rfl, hB⟩
    have HBc : Hid (Below w.heap.size w v4) := below_in HBc.out hB
    go_wp2
    go_ret
    exact ⟨rfl, HBc.out⟩
end Go.Proofs.Ytejabnoidhlfaaa
