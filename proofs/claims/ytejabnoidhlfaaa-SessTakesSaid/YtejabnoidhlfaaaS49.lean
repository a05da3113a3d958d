/- The walk of SessStarts. -/
import Derived.Test.YtejabnoidhlfaaaS47
import Derived.Test.YtejabnoidhlfaaaS48
import Derived.Test.YtejabnoidhlfaaaS37
import Derived.Test.YtejabnoidhlfaaaS39

/- Contract: wide; the walk of SessStarts. -/
namespace Go.Proofs.Ytejabnoidhlfaaa
open Go.RowKit Go.Maps

set_option maxRecDepth 100000 in
set_option maxHeartbeats 8000000 in
theorem wide_any (e : En) (A : Option Addr) (c : Nat) (D : Option Addr) (d : Nat) (w : World) (h : EnAt w e A D) : Calls Try.prog 8 #[enV e A c D d] w fun r w' => (∃ b, r = .returned (.bool b)) ∧ Below w.heap.size w w' := by
  have HE := Lib.hid h
  clear h
  unfold enV
  go_enter Try.func8, Try.ntmps8
  obtain ⟨W, hW⟩ : ∃ W, w.alloc (.cells #[.int .i64 e.life, .int .i64 e.peer, .int .i64 e.phase, .int .i64 e.base, .slice A e.out.length c, .int .i64 e.want, .slice D e.inn.length d] 26) = W := ⟨_, rfl⟩
  have HBW : Hid (Below w.heap.size w W) := by rw [← hW]; exact (Below.refl _ w).alloc (Nat.le_refl _) _
  have HKW : Hid (Blk W w.heap.size (.cells (enB e A c D d) 26)) := by rw [← hW]; exact Blk.new _ _
  have q9 := HKW.out
  have x0 := q9.cell 0 (v := .int .i64 e.life) rfl
  have x1 := q9.cell 1 (v := .int .i64 e.peer) rfl
  have x2 := q9.cell 2 (v := .int .i64 e.phase) rfl
  have x3 := q9.cell 3 (v := .int .i64 e.base) rfl
  have x4 := q9.cell 4 (v := .slice A e.out.length c) rfl
  have x5 := q9.cell 5 (v := .int .i64 e.want) rfl
  have x6 := q9.cell 6 (v := .slice D e.inn.length d) rfl
  have xl := q9.lt
  clear q9
  by_cases h1 : (40 : Int) < (e.out.length : Int)
  · have q : decide ((40 : Int) < (e.out.length : Int)) = true := decide_eq_true h1
    clear h1
    go_wp2
    go_ret
    exact ⟨⟨_, rfl⟩, HBW.out⟩
  have q1 : decide ((40 : Int) < (e.out.length : Int)) = false := decide_eq_false h1
  have HL1 : Hid (e.out.length ≤ 40) := by show _ ≤ _; omega
  clear h1
  by_cases h2 : (40 : Int) < (e.inn.length : Int)
  · have q2 : decide ((40 : Int) < (e.inn.length : Int)) = true := decide_eq_true h2
    clear h2
    go_wp2
    go_ret
    exact ⟨⟨_, rfl⟩, HBW.out⟩
  have q2 : decide ((40 : Int) < (e.inn.length : Int)) = false := decide_eq_false h2
  have HL2 : Hid (e.inn.length ≤ 40) := by show _ ≤ _; omega
  clear h2
  go_wp2_with fail
  clear hW
  go_loopg [3] e.out.length (fun g iv wr => ∃ k : Nat, k + g = e.out.length ∧ iv = .int .i64 (k : Int) ∧ wr = W)
  case atStart => exact ⟨0, Nat.zero_add _, rfl, rfl⟩
  case round =>
    obtain ⟨k, hk, rfl, rfl⟩ := hrel
    have HK := Lib.hid hk
    clear hk
    by_cases hlt : (k : Int) < (e.out.length : Int)
    · obtain ⟨x, xb, xo, hx, hxb, hxi, ht, hh⟩ := ou_at (c := c) (k := k) (HE.out.below HBW.out).out (by omega)
      have hw1 : IntKind.i64.wrap ((k : Int) + 1) = (k : Int) + 1 := wrap_ok ⟨by omega, by have := HL1.out; omega⟩
      clear hx
      by_cases h3 : (60 : Int) < (x.t.size : Int)
      · have q3 : decide ((60 : Int) < (x.t.size : Int)) = true := decide_eq_true h3
        clear h3
        go_wp2
        go_ret
        exact ⟨⟨_, rfl⟩, HBW.out⟩
      · have q3 : decide ((60 : Int) < (x.t.size : Int)) = false := decide_eq_false h3
        clear h3
        go_wp2_with fail
        go_roundg (e.out.length - (k + 1))
        case measure => have := HK.out; omega
        case rel => exact ⟨k + 1, by omega, rfl, rfl⟩
    · go_wp2_with fail
      go_loopg [4] e.inn.length (fun g iv w2 => ∃ k : Nat, k + g = e.inn.length ∧ iv = .int .i64 (k : Int) ∧ w2 = wr)
      case atStart => exact ⟨0, Nat.zero_add _, rfl, rfl⟩
      case round =>
        obtain ⟨k, hk, rfl, hwr⟩ := hrel
        subst hwr
        have HK := Lib.hid hk
        clear hk hlt
        by_cases hlt : (k : Int) < (e.inn.length : Int)
        · obtain ⟨x, xb, xo, hx, hxb, hxi, hn, ht⟩ := im_at (c := d) (k := k) (HE.out.below HBW.out).inn (by omega)
          have hw1 : IntKind.i64.wrap ((k : Int) + 1) = (k : Int) + 1 := wrap_ok ⟨by omega, by have := HL2.out; omega⟩
          clear hx
          by_cases h3 : (60 : Int) < (x.t.size : Int)
          · have q3 : decide ((60 : Int) < (x.t.size : Int)) = true := decide_eq_true h3
            clear h3
            go_wp2
            go_ret
            exact ⟨⟨_, rfl⟩, HBW.out⟩
          · have q3 : decide ((60 : Int) < (x.t.size : Int)) = false := decide_eq_false h3
            clear h3
            go_wp2_with fail
            go_roundg (e.inn.length - (k + 1))
            case measure => have := HK.out; omega
            case rel => exact ⟨k + 1, by omega, rfl, rfl⟩
        · go_wp2
          go_ret
          first | exact ⟨⟨_, rfl⟩, HBW.out⟩ | exact ⟨.inl rfl, HBW.out⟩
set_option maxRecDepth 100000 in
set_option maxHeartbeats 16000000 in
theorem walk_starts (life : Int) (e : En) (A : Option Addr) (c : Nat) (D : Option Addr) (d : Nat) (w : World) (h : EnAt w e A D) (hwf : Wf e) : Calls Try.prog 3 #[.int .i64 life, enV e A c D d] w fun r w' => r = .returned (.bool true) ∧ Below w.heap.size w w' := by
  have HE := Lib.hid h
  have HWF := Lib.hid hwf
  clear h hwf
  unfold enV
  go_enter Try.func3, Try.ntmps3
  obtain ⟨W, hW⟩ : ∃ W, w.alloc (.cells #[.int .i64 e.life, .int .i64 e.peer, .int .i64 e.phase, .int .i64 e.base, .slice A e.out.length c, .int .i64 e.want, .slice D e.inn.length d] 26) = W := ⟨_, rfl⟩
  have HBW : Hid (Below w.heap.size w W) := by rw [← hW]; exact (Below.refl _ w).alloc (Nat.le_refl _) _
  have HKW : Hid (Blk W w.heap.size (.cells (enB e A c D d) 26)) := by rw [← hW]; exact Blk.new _ _
  have q9 := HKW.out
  have x0 := q9.cell 0 (v := .int .i64 e.life) rfl
  have x1 := q9.cell 1 (v := .int .i64 e.peer) rfl
  have x2 := q9.cell 2 (v := .int .i64 e.phase) rfl
  have x3 := q9.cell 3 (v := .int .i64 e.base) rfl
  have x4 := q9.cell 4 (v := .slice A e.out.length c) rfl
  have x5 := q9.cell 5 (v := .int .i64 e.want) rfl
  have x6 := q9.cell 6 (v := .slice D e.inn.length d) rfl
  have xl := q9.lt
  clear q9
  go_wp2_with fail
  refine (wide_any e A c D d W (HE.out.below HBW.out)).mono ?_
  rintro r w1 ⟨⟨b, rfl⟩, hB1⟩
  have HBc : Hid (Below w.heap.size w w1) := below_in HBW.out hB1
  have HK := Lib.hid (HKW.out.below hB1 HKW.out.lt)
  clear hB1 x0 x1 x2 x3 x4 x5 x6 xl hW
  cases b with
  | true =>
    go_wp2_with fail
    refine (works_any w1).mono ?_
    rintro r w2 ⟨rfl, hB2⟩
    have HB2 : Hid (Below w.heap.size w w2) := below_in HBc.out hB2
    go_wp2
    go_ret
    exact ⟨rfl, HB2.out⟩
  | false =>
    go_wp2_with fail
    refine (start_any life w1).mono ?_
    rintro r w2 ⟨rfl, hB⟩
    have HBc : Hid (Below w.heap.size w w2) := below_in HBc.out hB
    have HK := Lib.hid (HK.out.below hB HK.out.lt)
    clear hB
    obtain ⟨S, HS⟩ : ∃ S, Hid (startA life = S) := ⟨_, rfl⟩
    have HSN : Hid (S.1.out = [] ∧ S.1.inn = []) := by
      show _ ∧ _
      rw [← HS.out]
      unfold startA
      split <;> exact ⟨rfl, rfl⟩
    rw [HS.out]
    unfold enV
    go_upto_region 4 with fail
    obtain ⟨w3, hv⟩ : ∃ v, w2.alloc (.cells #[.int .i64 S.1.life, .int .i64 S.1.peer, .int .i64 S.1.phase, .int .i64 S.1.base, .slice none S.1.out.length 0, .int .i64 S.1.want, .slice none S.1.inn.length 0] 26) = v := ⟨_, rfl⟩
    have hbv : Below w2.heap.size w2 w3 := by rw [← hv]; exact (Below.refl _ w2).alloc (Nat.le_refl _) _
    have HBv : Hid (Below w.heap.size w w3) := below_in HBc.out hbv
    have HM1 : Hid (Blk w3 w2.heap.size (.cells (enB S.1 none 0 none 0) 26)) := by rw [← hv]; exact Blk.new _ _
    rw [hv]
    clear hv HBc
    have HBc := HBv
    clear HBv
    have HK := Lib.hid (HK.out.below hbv HK.out.lt)
    clear hbv
    go_wp2_with fail
    refine (rstart_any life w3).mono ?_
    rintro r w4 ⟨rfl, hB⟩
    have HBc : Hid (Below w.heap.size w w4) := below_in HBc.out hB
    have HK := Lib.hid (HK.out.below hB HK.out.lt)
    have HM1 := Lib.hid (HM1.out.below hB HM1.out.lt)
    clear hB
    rw [HS.out]
    unfold enV
    go_upto_region 5 with fail
    obtain ⟨w5, hv⟩ : ∃ v, w4.alloc (.cells #[.int .i64 S.1.life, .int .i64 S.1.peer, .int .i64 S.1.phase, .int .i64 S.1.base, .slice none S.1.out.length 0, .int .i64 S.1.want, .slice none S.1.inn.length 0] 26) = v := ⟨_, rfl⟩
    have hbv : Below w4.heap.size w4 w5 := by rw [← hv]; exact (Below.refl _ w4).alloc (Nat.le_refl _) _
    have HBv : Hid (Below w.heap.size w w5) := below_in HBc.out hbv
    have HM2 : Hid (Blk w5 w4.heap.size (.cells (enB S.1 none 0 none 0) 26)) := by rw [← hv]; exact Blk.new _ _
    rw [hv]
    clear hv HBc
    have HBc := HBv
    clear HBv
    have HK := Lib.hid (HK.out.below hbv HK.out.lt)
    have HM1 := Lib.hid (HM1.out.below hbv HM1.out.lt)
    clear hbv
    have q9 := HK.out
    have x0 := q9.cell 0 (v := .int .i64 e.life) rfl
    have x1 := q9.cell 1 (v := .int .i64 e.peer) rfl
    have x2 := q9.cell 2 (v := .int .i64 e.phase) rfl
    have x3 := q9.cell 3 (v := .int .i64 e.base) rfl
    have x4 := q9.cell 4 (v := .slice A e.out.length c) rfl
    have x5 := q9.cell 5 (v := .int .i64 e.want) rfl
    have x6 := q9.cell 6 (v := .slice D e.inn.length d) rfl
    have xl := q9.lt
    clear q9
    have HEc := Lib.hid (HE.out.below HBc.out)
    go_wp2_with fail
    refine (again_any e A c D d w5 HEc.out).mono ?_
    rintro r w6 ⟨rfl, hB⟩
    have HBc : Hid (Below w.heap.size w w6) := below_in HBc.out hB
    have HK := Lib.hid (HK.out.below hB HK.out.lt)
    have HM1 := Lib.hid (HM1.out.below hB HM1.out.lt)
    have HM2 := Lib.hid (HM2.out.below hB HM2.out.lt)
    clear hB x0 x1 x2 x3 x4 x5 x6 xl
    obtain ⟨R, HR⟩ : ∃ R, Hid (againA e = R) := ⟨_, rfl⟩
    have HRN : Hid (R.1.out = [] ∧ R.1.inn = []) := by
      show _ ∧ _
      rw [← HR.out]
      exact again_nil e
    rw [HR.out]
    unfold enV
    go_upto_region 6 with fail
    obtain ⟨w7, hv⟩ : ∃ v, w6.alloc (.cells #[.int .i64 R.1.life, .int .i64 R.1.peer, .int .i64 R.1.phase, .int .i64 R.1.base, .slice none R.1.out.length 0, .int .i64 R.1.want, .slice none R.1.inn.length 0] 26) = v := ⟨_, rfl⟩
    have hbv : Below w6.heap.size w6 w7 := by rw [← hv]; exact (Below.refl _ w6).alloc (Nat.le_refl _) _
    have HBv : Hid (Below w.heap.size w w7) := below_in HBc.out hbv
    have HM3 : Hid (Blk w7 w6.heap.size (.cells (enB R.1 none 0 none 0) 26)) := by rw [← hv]; exact Blk.new _ _
    rw [hv]
    clear hv HBc
    have HBc := HBv
    clear HBv
    have HK := Lib.hid (HK.out.below hbv HK.out.lt)
    have HM1 := Lib.hid (HM1.out.below hbv HM1.out.lt)
    have HM2 := Lib.hid (HM2.out.below hbv HM2.out.lt)
    clear hbv
    have q9 := HK.out
    have x0 := q9.cell 0 (v := .int .i64 e.life) rfl
    have x1 := q9.cell 1 (v := .int .i64 e.peer) rfl
    have x2 := q9.cell 2 (v := .int .i64 e.phase) rfl
    have x3 := q9.cell 3 (v := .int .i64 e.base) rfl
    have x4 := q9.cell 4 (v := .slice A e.out.length c) rfl
    have x5 := q9.cell 5 (v := .int .i64 e.want) rfl
    have x6 := q9.cell 6 (v := .slice D e.inn.length d) rfl
    have xl := q9.lt
    clear q9
    have HEc := Lib.hid (HE.out.below HBc.out)
    go_wp2_with fail
    refine (ragain_any e A c D d w7 HEc.out HWF.out).mono ?_
    rintro r w8 ⟨rfl, hB⟩
    have HBc : Hid (Below w.heap.size w w8) := below_in HBc.out hB
    have HM1 := Lib.hid (HM1.out.below hB HM1.out.lt)
    have HM2 := Lib.hid (HM2.out.below hB HM2.out.lt)
    have HM3 := Lib.hid (HM3.out.below hB HM3.out.lt)
    clear hB x0 x1 x2 x3 x4 x5 x6 xl HK
    rw [HR.out]
    unfold enV
    go_upto_region 7 with fail
    obtain ⟨w9, hv⟩ : ∃ v, w8.alloc (.cells #[.int .i64 R.1.life, .int .i64 R.1.peer, .int .i64 R.1.phase, .int .i64 R.1.base, .slice none R.1.out.length 0, .int .i64 R.1.want, .slice none R.1.inn.length 0] 26) = v := ⟨_, rfl⟩
    have hbv : Below w8.heap.size w8 w9 := by rw [← hv]; exact (Below.refl _ w8).alloc (Nat.le_refl _) _
    have HBv : Hid (Below w.heap.size w w9) := below_in HBc.out hbv
    have HM4 : Hid (Blk w9 w8.heap.size (.cells (enB R.1 none 0 none 0) 26)) := by rw [← hv]; exact Blk.new _ _
    rw [hv]
    clear hv HBc
    have HBc := HBv
    clear HBv
    have HM1 := Lib.hid (HM1.out.below hbv HM1.out.lt)
    have HM2 := Lib.hid (HM2.out.below hbv HM2.out.lt)
    have HM3 := Lib.hid (HM3.out.below hbv HM3.out.lt)
    clear hbv
    have q9 := HM1.out
    have a0 := q9.cell 0 (v := .int .i64 S.1.life) rfl
    have a1 := q9.cell 1 (v := .int .i64 S.1.peer) rfl
    have a2 := q9.cell 2 (v := .int .i64 S.1.phase) rfl
    have a3 := q9.cell 3 (v := .int .i64 S.1.base) rfl
    have a4 := q9.cell 4 (v := .slice none S.1.out.length 0) rfl
    have a5 := q9.cell 5 (v := .int .i64 S.1.want) rfl
    have a6 := q9.cell 6 (v := .slice none S.1.inn.length 0) rfl
    have al := q9.lt
    clear q9
    have q9 := HM2.out
    have b0 := q9.cell 0 (v := .int .i64 S.1.life) rfl
    have b1 := q9.cell 1 (v := .int .i64 S.1.peer) rfl
    have b2 := q9.cell 2 (v := .int .i64 S.1.phase) rfl
    have b3 := q9.cell 3 (v := .int .i64 S.1.base) rfl
    have b4 := q9.cell 4 (v := .slice none S.1.out.length 0) rfl
    have b5 := q9.cell 5 (v := .int .i64 S.1.want) rfl
    have b6 := q9.cell 6 (v := .slice none S.1.inn.length 0) rfl
    have bl := q9.lt
    clear q9
    have HES : Hid (EnT w9 S.1 none 0 none) := enT_nil w9 HSN.out.1 HSN.out.2
    go_wp2_with fail
    refine (same_end S.1 none 0 none 0 S.1 none 0 none 0 w9 HES.out.at_ HES.out.at_).mono ?_
    rintro r v1 ⟨rfl, hB⟩
    rw [decide_eq_true rfl]
    have HBc : Hid (Below w.heap.size w v1) := below_in HBc.out hB
    have HM3 := Lib.hid (HM3.out.below hB HM3.out.lt)
    have HM4 := Lib.hid (HM4.out.below hB HM4.out.lt)
    clear hB a0 a1 a2 a3 a4 a5 a6 al b0 b1 b2 b3 b4 b5 b6 bl
    have q9 := HM3.out
    have a0 := q9.cell 0 (v := .int .i64 R.1.life) rfl
    have a1 := q9.cell 1 (v := .int .i64 R.1.peer) rfl
    have a2 := q9.cell 2 (v := .int .i64 R.1.phase) rfl
    have a3 := q9.cell 3 (v := .int .i64 R.1.base) rfl
    have a4 := q9.cell 4 (v := .slice none R.1.out.length 0) rfl
    have a5 := q9.cell 5 (v := .int .i64 R.1.want) rfl
    have a6 := q9.cell 6 (v := .slice none R.1.inn.length 0) rfl
    have al := q9.lt
    clear q9
    have q9 := HM4.out
    have b0 := q9.cell 0 (v := .int .i64 R.1.life) rfl
    have b1 := q9.cell 1 (v := .int .i64 R.1.peer) rfl
    have b2 := q9.cell 2 (v := .int .i64 R.1.phase) rfl
    have b3 := q9.cell 3 (v := .int .i64 R.1.base) rfl
    have b4 := q9.cell 4 (v := .slice none R.1.out.length 0) rfl
    have b5 := q9.cell 5 (v := .int .i64 R.1.want) rfl
    have b6 := q9.cell 6 (v := .slice none R.1.inn.length 0) rfl
    have bl := q9.lt
    clear q9
    have HER : Hid (EnT v1 R.1 none 0 none) := enT_nil v1 HRN.out.1 HRN.out.2
    have hes : (S.2 == S.2) = true := beq_self_eq_true _
    have her : (R.2 == R.2) = true := beq_self_eq_true _
    go_wp2_with fail
    refine (same_end R.1 none 0 none 0 R.1 none 0 none 0 v1 HER.out.at_ HER.out.at_).mono ?_
    rintro r v2 ⟨rfl, hB⟩
    rw [decide_eq_true rfl]
    have HBc : Hid (Below w.heap.size w v2) := below_in HBc.out hB
    clear hB a0 a1 a2 a3 a4 a5 a6 al b0 b1 b2 b3 b4 b5 b6 bl
    go_wp2_with fail
    refine (works_any v2).mono ?_
    rintro r v3 ⟨rfl, hB⟩
    have HBc : Hid (Below w.heap.size w v3) := below_in HBc.out hB
    go_wp2
    go_ret
    exact ⟨rfl, HBc.out⟩
end Go.Proofs.Ytejabnoidhlfaaa
