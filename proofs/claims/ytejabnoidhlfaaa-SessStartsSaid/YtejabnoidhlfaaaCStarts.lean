/- SessStarts returns true for every two numbers, ends and text, and leaves its arguments as they were. No condition. -/
import Derived.Test.YtejabnoidhlfaaaS47
import Derived.Test.YtejabnoidhlfaaaS48
import Derived.Test.YtejabnoidhlfaaaS37
import Derived.Test.YtejabnoidhlfaaaS39
import Derived.Test.YtejabnoidhlfaaaS1
import Derived.Deep.Slices
import Derived.SizedLaws
import Derived.Lib.SmallJoins
import Derived.ProofKit
import Derived.OpenShut
import Derived.ShutString
import Derived.ChangeOld
import Derived.Below
import Derived.Test.YtejabnoidhlfaaaS45
import Derived.Test.YtejabnoidhlfaaaRows

/- Contract: wide; the walk of SessStarts. -/
namespace Go.Proofs.Ytejabnoidhlfaaa
open Go.RowKit Go.Maps

set_option maxRecDepth 100000 in
set_option maxHeartbeats 8000000 in
theorem wide_any (e : En) (A : Option Addr) (c : Nat) (D : Option Addr) (d : Nat) (w : World) (h : EnAt w e A D) : Calls Try.prog 8 #[enV e A c D d] w fun r w' => (∃ b, r = .returned (.bool b)) ∧ Below w.heap.size w w' := by
  have HE := Lib.hid h
  clear h
  unfold enV
  go_enter Try.func8, Try.ntmps8
  obtain ⟨W, hW⟩ : ∃ W, w.alloc (.cells #[.int .i64 e.life, .int .i64 e.peer, .int .i64 e.phase, .int .i64 e.base, .slice A e.out.length c, .int .i64 e.want, .slice D e.inn.length d] 26) = W := ⟨_, rfl⟩
  have HBW : Hid (Below w.heap.size w W) := by rw [← hW]; exact (Below.refl _ w).alloc (Nat.le_refl _) _
  have HKW : Hid (Blk W w.heap.size (.cells (enB e A c D d) 26)) := by rw [← hW]; exact Blk.new _ _
  have q9 := HKW.out
  have x0 := q9.cell 0 (v := .int .i64 e.life) rfl
  have x1 := q9.cell 1 (v := .int .i64 e.peer) rfl
  have x2 := q9.cell 2 (v := .int .i64 e.phase) rfl
  have x3 := q9.cell 3 (v := .int .i64 e.base) rfl
  have x4 := q9.cell 4 (v := .slice A e.out.length c) rfl
  have x5 := q9.cell 5 (v := .int .i64 e.want) rfl
  have x6 := q9.cell 6 (v := .slice D e.inn.length d) rfl
  have xl := q9.lt
  clear q9
  by_cases h1 : (40 : Int) < (e.out.length : Int)
  · have q : decide ((40 : Int) < (e.out.length : Int)) = true := decide_eq_true h1
    clear h1
    go_wp2
    go_ret
    exact ⟨⟨_, rfl⟩, HBW.out⟩
  have q1 : decide ((40 : Int) < (e.out.length : Int)) = false := decide_eq_false h1
  have HL1 : Hid (e.out.length ≤ 40) := by show _ ≤ _; omega
  clear h1
  by_cases h2 : (40 : Int) < (e.inn.length : Int)
  · have q2 : decide ((40 : Int) < (e.inn.length : Int)) = true := decide_eq_true h2
    clear h2
    go_wp2
    go_ret
    exact ⟨⟨_, rfl⟩, HBW.out⟩
  have q2 : decide ((40 : Int) < (e.inn.length : Int)) = false := decide_eq_false h2
  have HL2 : Hid (e.inn.length ≤ 40) := by show _ ≤ _; omega
  clear h2
  go_wp2_with fail
  clear hW
  go_loopg [3] e.out.length (fun g iv wr => ∃ k : Nat, k + g = e.out.length ∧ iv = .int .i64 (k : Int) ∧ wr = W)
  case atStart => exact ⟨0, Nat.zero_add _, rfl, rfl⟩
  case round =>
    obtain ⟨k, hk, rfl, rfl⟩ := hrel
    have HK := Lib.hid hk
    clear hk
    by_cases hlt : (k : Int) < (e.out.length : Int)
    · obtain ⟨x, xb, xo, hx, hxb, hxi, ht, hh⟩ := ou_at (c := c) (k := k) (HE.out.below HBW.out).out (by omega)
      have hw1 : IntKind.i64.wrap ((k : Int) + 1) = (k : Int) + 1 := wrap_ok ⟨by omega, by have := HL1.out; omega⟩
      clear hx
      by_cases h3 : (60 : Int) < (x.t.size : Int)
      · have q3 : decide ((60 : Int) < (x.t.size : Int)) = true := decide_eq_true h3
        clear h3
        go_wp2
        go_ret
        exact ⟨⟨_, rfl⟩, HBW.out⟩
      · have q3 : decide ((60 : Int) < (x.t.size : Int)) = false := decide_eq_false h3
        clear h3
        go_wp2_with fail
        go_roundg (e.out.length - (k + 1))
        case measure => have := HK.out; omega
        case rel => exact ⟨k + 1, by omega, rfl, rfl⟩
    · go_wp2_with fail
      go_loopg [4] e.inn.length (fun g iv w2 => ∃ k : Nat, k + g = e.inn.length ∧ iv = .int .i64 (k : Int) ∧ w2 = wr)
      case atStart => exact ⟨0, Nat.zero_add _, rfl, rfl⟩
      case round =>
        obtain ⟨k, hk, rfl, hwr⟩ := hrel
        subst hwr
        have HK := Lib.hid hk
        clear hk hlt
        by_cases hlt : (k : Int) < (e.inn.length : Int)
        · obtain ⟨x, xb, xo, hx, hxb, hxi, hn, ht⟩ := im_at (c := d) (k := k) (HE.out.below HBW.out).inn (by omega)
          have hw1 : IntKind.i64.wrap ((k : Int) + 1) = (k : Int) + 1 := wrap_ok ⟨by omega, by have := HL2.out; omega⟩
          clear hx
          by_cases h3 : (60 : Int) < (x.t.size : Int)
          · have q3 : decide ((60 : Int) < (x.t.size : Int)) = true := decide_eq_true h3
            clear h3
            go_wp2
            go_ret
            exact ⟨⟨_, rfl⟩, HBW.out⟩
          · have q3 : decide ((60 : Int) < (x.t.size : Int)) = false := decide_eq_false h3
            clear h3
            go_wp2_with fail
            go_roundg (e.inn.length - (k + 1))
            case measure => have := HK.out; omega
            case rel => exact ⟨k + 1, by omega, rfl, rfl⟩
        · go_wp2
          go_ret
          first | exact ⟨⟨_, rfl⟩, HBW.out⟩ | exact ⟨.inl rfl, HBW.out⟩
set_option maxRecDepth 100000 in
set_option maxHeartbeats 16000000 in
theorem walk_starts (life : Int) (e : En) (A : Option Addr) (c : Nat) (D : Option Addr) (d : Nat) (w : World) (h : EnAt w e A D) (hwf : Wf e) : Calls Try.prog 3 #[.int .i64 life, enV e A c D d] w fun r w' => r = .returned (.bool true) ∧ Below w.heap.size w w' := by
  have HE := Lib.hid h
  have HWF := Lib.hid hwf
  clear h hwf
  unfold enV
  go_enter Try.func3, Try.ntmps3
  obtain ⟨W, hW⟩ : ∃ W, w.alloc (.cells #[.int .i64 e.life, .int .i64 e.peer, .int .i64 e.phase, .int .i64 e.base, .slice A e.out.length c, .int .i64 e.want, .slice D e.inn.length d] 26) = W := ⟨_, rfl⟩
  have HBW : Hid (Below w.heap.size w W) := by rw [← hW]; exact (Below.refl _ w).alloc (Nat.le_refl _) _
  have HKW : Hid (Blk W w.heap.size (.cells (enB e A c D d) 26)) := by rw [← hW]; exact Blk.new _ _
  have q9 := HKW.out
  have x0 := q9.cell 0 (v := .int .i64 e.life) rfl
  have x1 := q9.cell 1 (v := .int .i64 e.peer) rfl
  have x2 := q9.cell 2 (v := .int .i64 e.phase) rfl
  have x3 := q9.cell 3 (v := .int .i64 e.base) rfl
  have x4 := q9.cell 4 (v := .slice A e.out.length c) rfl
  have x5 := q9.cell 5 (v := .int .i64 e.want) rfl
  have x6 := q9.cell 6 (v := .slice D e.inn.length d) rfl
  have xl := q9.lt
  clear q9
  go_wp2_with fail
  refine (wide_any e A c D d W (HE.out.below HBW.out)).mono ?_
  rintro r w1 ⟨⟨b, rfl⟩, hB1⟩
  have HBc : Hid (Below w.heap.size w w1) := below_in HBW.out hB1
  have HK := Lib.hid (HKW.out.below hB1 HKW.out.lt)
  clear hB1 x0 x1 x2 x3 x4 x5 x6 xl hW
  cases b with
  | true =>
    go_wp2_with fail
    refine (works_any w1).mono ?_
    rintro r w2 ⟨rfl, hB2⟩
    have HB2 : Hid (Below w.heap.size w w2) := below_in HBc.out hB2
    go_wp2
    go_ret
    exact ⟨rfl, HB2.out⟩
  | false =>
    go_wp2_with fail
    refine (start_any life w1).mono ?_
    rintro r w2 ⟨rfl, hB⟩
    have HBc : Hid (Below w.heap.size w w2) := below_in HBc.out hB
    have HK := Lib.hid (HK.out.below hB HK.out.lt)
    clear hB
    obtain ⟨S, HS⟩ : ∃ S, Hid (startA life = S) := ⟨_, rfl⟩
    have HSN : Hid (S.1.out = [] ∧ S.1.inn = []) := by
      show _ ∧ _
      rw [← HS.out]
      unfold startA
      split <;> exact ⟨rfl, rfl⟩
    rw [HS.out]
    unfold enV
    go_upto_region 4 with fail
    obtain ⟨w3, hv⟩ : ∃ v, w2.alloc (.cells #[.int .i64 S.1.life, .int .i64 S.1.peer, .int .i64 S.1.phase, .int .i64 S.1.base, .slice none S.1.out.length 0, .int .i64 S.1.want, .slice none S.1.inn.length 0] 26) = v := ⟨_, rfl⟩
    have hbv : Below w2.heap.size w2 w3 := by rw [← hv]; exact (Below.refl _ w2).alloc (Nat.le_refl _) _
    have HBv : Hid (Below w.heap.size w w3) := below_in HBc.out hbv
    have HM1 : Hid (Blk w3 w2.heap.size (.cells (enB S.1 none 0 none 0) 26)) := by rw [← hv]; exact Blk.new _ _
    rw [hv]
    clear hv HBc
    have HBc := HBv
    clear HBv
    have HK := Lib.hid (HK.out.below hbv HK.out.lt)
    clear hbv
    go_wp2_with fail
    refine (rstart_any life w3).mono ?_
    rintro r w4 ⟨rfl, hB⟩
    have HBc : Hid (Below w.heap.size w w4) := below_in HBc.out hB
    have HK := Lib.hid (HK.out.below hB HK.out.lt)
    have HM1 := Lib.hid (HM1.out.below hB HM1.out.lt)
    clear hB
    rw [HS.out]
    unfold enV
    go_upto_region 5 with fail
    obtain ⟨w5, hv⟩ : ∃ v, w4.alloc (.cells #[.int .i64 S.1.life, .int .i64 S.1.peer, .int .i64 S.1.phase, .int .i64 S.1.base, .slice none S.1.out.length 0, .int .i64 S.1.want, .slice none S.1.inn.length 0] 26) = v := ⟨_, rfl⟩
    have hbv : Below w4.heap.size w4 w5 := by rw [← hv]; exact (Below.refl _ w4).alloc (Nat.le_refl _) _
    have HBv : Hid (Below w.heap.size w w5) := below_in HBc.out hbv
    have HM2 : Hid (Blk w5 w4.heap.size (.cells (enB S.1 none 0 none 0) 26)) := by rw [← hv]; exact Blk.new _ _
    rw [hv]
    clear hv HBc
    have HBc := HBv
    clear HBv
    have HK := Lib.hid (HK.out.below hbv HK.out.lt)
    have HM1 := Lib.hid (HM1.out.below hbv HM1.out.lt)
    clear hbv
    have q9 := HK.out
    have x0 := q9.cell 0 (v := .int .i64 e.life) rfl
    have x1 := q9.cell 1 (v := .int .i64 e.peer) rfl
    have x2 := q9.cell 2 (v := .int .i64 e.phase) rfl
    have x3 := q9.cell 3 (v := .int .i64 e.base) rfl
    have x4 := q9.cell 4 (v := .slice A e.out.length c) rfl
    have x5 := q9.cell 5 (v := .int .i64 e.want) rfl
    have x6 := q9.cell 6 (v := .slice D e.inn.length d) rfl
    have xl := q9.lt
    clear q9
    have HEc := Lib.hid (HE.out.below HBc.out)
    go_wp2_with fail
    refine (again_any e A c D d w5 HEc.out).mono ?_
    rintro r w6 ⟨rfl, hB⟩
    have HBc : Hid (Below w.heap.size w w6) := below_in HBc.out hB
    have HK := Lib.hid (HK.out.below hB HK.out.lt)
    have HM1 := Lib.hid (HM1.out.below hB HM1.out.lt)
    have HM2 := Lib.hid (HM2.out.below hB HM2.out.lt)
    clear hB x0 x1 x2 x3 x4 x5 x6 xl
    obtain ⟨R, HR⟩ : ∃ R, Hid (againA e = R) := ⟨_, rfl⟩
    have HRN : Hid (R.1.out = [] ∧ R.1.inn = []) := by
      show _ ∧ _
      rw [← HR.out]
      exact again_nil e
    rw [HR.out]
    unfold enV
    go_upto_region 6 with fail
    obtain ⟨w7, hv⟩ : ∃ v, w6.alloc (.cells #[.int .i64 R.1.life, .int .i64 R.1.peer, .int .i64 R.1.phase, .int .i64 R.1.base, .slice none R.1.out.length 0, .int .i64 R.1.want, .slice none R.1.inn.length 0] 26) = v := ⟨_, rfl⟩
    have hbv : Below w6.heap.size w6 w7 := by rw [← hv]; exact (Below.refl _ w6).alloc (Nat.le_refl _) _
    have HBv : Hid (Below w.heap.size w w7) := below_in HBc.out hbv
    have HM3 : Hid (Blk w7 w6.heap.size (.cells (enB R.1 none 0 none 0) 26)) := by rw [← hv]; exact Blk.new _ _
    rw [hv]
    clear hv HBc
    have HBc := HBv
    clear HBv
    have HK := Lib.hid (HK.out.below hbv HK.out.lt)
    have HM1 := Lib.hid (HM1.out.below hbv HM1.out.lt)
    have HM2 := Lib.hid (HM2.out.below hbv HM2.out.lt)
    clear hbv
    have q9 := HK.out
    have x0 := q9.cell 0 (v := .int .i64 e.life) rfl
    have x1 := q9.cell 1 (v := .int .i64 e.peer) rfl
    have x2 := q9.cell 2 (v := .int .i64 e.phase) rfl
    have x3 := q9.cell 3 (v := .int .i64 e.base) rfl
    have x4 := q9.cell 4 (v := .slice A e.out.length c) rfl
    have x5 := q9.cell 5 (v := .int .i64 e.want) rfl
    have x6 := q9.cell 6 (v := .slice D e.inn.length d) rfl
    have xl := q9.lt
    clear q9
    have HEc := Lib.hid (HE.out.below HBc.out)
    go_wp2_with fail
    refine (ragain_any e A c D d w7 HEc.out HWF.out).mono ?_
    rintro r w8 ⟨rfl, hB⟩
    have HBc : Hid (Below w.heap.size w w8) := below_in HBc.out hB
    have HM1 := Lib.hid (HM1.out.below hB HM1.out.lt)
    have HM2 := Lib.hid (HM2.out.below hB HM2.out.lt)
    have HM3 := Lib.hid (HM3.out.below hB HM3.out.lt)
    clear hB x0 x1 x2 x3 x4 x5 x6 xl HK
    rw [HR.out]
    unfold enV
    go_upto_region 7 with fail
    obtain ⟨w9, hv⟩ : ∃ v, w8.alloc (.cells #[.int .i64 R.1.life, .int .i64 R.1.peer, .int .i64 R.1.phase, .int .i64 R.1.base, .slice none R.1.out.length 0, .int .i64 R.1.want, .slice none R.1.inn.length 0] 26) = v := ⟨_, rfl⟩
    have hbv : Below w8.heap.size w8 w9 := by rw [← hv]; exact (Below.refl _ w8).alloc (Nat.le_refl _) _
    have HBv : Hid (Below w.heap.size w w9) := below_in HBc.out hbv
    have HM4 : Hid (Blk w9 w8.heap.size (.cells (enB R.1 none 0 none 0) 26)) := by rw [← hv]; exact Blk.new _ _
    rw [hv]
    clear hv HBc
    have HBc := HBv
    clear HBv
    have HM1 := Lib.hid (HM1.out.below hbv HM1.out.lt)
    have HM2 := Lib.hid (HM2.out.below hbv HM2.out.lt)
    have HM3 := Lib.hid (HM3.out.below hbv HM3.out.lt)
    clear hbv
    have q9 := HM1.out
    have a0 := q9.cell 0 (v := .int .i64 S.1.life) rfl
    have a1 := q9.cell 1 (v := .int .i64 S.1.peer) rfl
    have a2 := q9.cell 2 (v := .int .i64 S.1.phase) rfl
    have a3 := q9.cell 3 (v := .int .i64 S.1.base) rfl
    have a4 := q9.cell 4 (v := .slice none S.1.out.length 0) rfl
    have a5 := q9.cell 5 (v := .int .i64 S.1.want) rfl
    have a6 := q9.cell 6 (v := .slice none S.1.inn.length 0) rfl
    have al := q9.lt
    clear q9
    have q9 := HM2.out
    have b0 := q9.cell 0 (v := .int .i64 S.1.life) rfl
    have b1 := q9.cell 1 (v := .int .i64 S.1.peer) rfl
    have b2 := q9.cell 2 (v := .int .i64 S.1.phase) rfl
    have b3 := q9.cell 3 (v := .int .i64 S.1.base) rfl
    have b4 := q9.cell 4 (v := .slice none S.1.out.length 0) rfl
    have b5 := q9.cell 5 (v := .int .i64 S.1.want) rfl
    have b6 := q9.cell 6 (v := .slice none S.1.inn.length 0) rfl
    have bl := q9.lt
    clear q9
    have HES : Hid (EnT w9 S.1 none 0 none) := enT_nil w9 HSN.out.1 HSN.out.2
    go_wp2_with fail
    refine (same_end S.1 none 0 none 0 S.1 none 0 none 0 w9 HES.out.at_ HES.out.at_).mono ?_
    rintro r v1 ⟨rfl, hB⟩
    rw [decide_eq_true rfl]
    have HBc : Hid (Below w.heap.size w v1) := below_in HBc.out hB
    have HM3 := Lib.hid (HM3.out.below hB HM3.out.lt)
    have HM4 := Lib.hid (HM4.out.below hB HM4.out.lt)
    clear hB a0 a1 a2 a3 a4 a5 a6 al b0 b1 b2 b3 b4 b5 b6 bl
    have q9 := HM3.out
    have a0 := q9.cell 0 (v := .int .i64 R.1.life) rfl
    have a1 := q9.cell 1 (v := .int .i64 R.1.peer) rfl
    have a2 := q9.cell 2 (v := .int .i64 R.1.phase) rfl
    have a3 := q9.cell 3 (v := .int .i64 R.1.base) rfl
    have a4 := q9.cell 4 (v := .slice none R.1.out.length 0) rfl
    have a5 := q9.cell 5 (v := .int .i64 R.1.want) rfl
    have a6 := q9.cell 6 (v := .slice none R.1.inn.length 0) rfl
    have al := q9.lt
    clear q9
    have q9 := HM4.out
    have b0 := q9.cell 0 (v := .int .i64 R.1.life) rfl
    have b1 := q9.cell 1 (v := .int .i64 R.1.peer) rfl
    have b2 := q9.cell 2 (v := .int .i64 R.1.phase) rfl
    have b3 := q9.cell 3 (v := .int .i64 R.1.base) rfl
    have b4 := q9.cell 4 (v := .slice none R.1.out.length 0) rfl
    have b5 := q9.cell 5 (v := .int .i64 R.1.want) rfl
    have b6 := q9.cell 6 (v := .slice none R.1.inn.length 0) rfl
    have bl := q9.lt
    clear q9
    have HER : Hid (EnT v1 R.1 none 0 none) := enT_nil v1 HRN.out.1 HRN.out.2
    have hes : (S.2 == S.2) = true := beq_self_eq_true _
    have her : (R.2 == R.2) = true := beq_self_eq_true _
    go_wp2_with fail
    refine (same_end R.1 none 0 none 0 R.1 none 0 none 0 v1 HER.out.at_ HER.out.at_).mono ?_
    rintro r v2 ⟨rfl, hB⟩
    rw [decide_eq_true rfl]
    have HBc : Hid (Below w.heap.size w v2) := below_in HBc.out hB
    clear hB a0 a1 a2 a3 a4 a5 a6 al b0 b1 b2 b3 b4 b5 b6 bl
    go_wp2_with fail
    refine (works_any v2).mono ?_
    rintro r v3 ⟨rfl, hB⟩
    have HBc : Hid (Below w.heap.size w v3) := below_in HBc.out hB
    go_wp2
    go_ret
    exact ⟨rfl, HBc.out⟩
end Go.Proofs.Ytejabnoidhlfaaa

/- Arguments: what comes in reads as lists. -/
namespace Go.Proofs.Ytejabnoidhlfaaa
open Go.RowKit Go.ChangeShapes Go.WideShapes Go.ChangeAt

section
variable {H : Type} {enc : TypeId × Value → H} {P : Program} {w : World}

/-- Each slice, string and map in it is within reach. -/
def sz (P : Program) (t : TypeId) (d : DataW H) : Prop := ∀ n ∈ d.weights P t, n ≤ reachBytes

theorem weightsAll_mem {e : TypeId} : ∀ {ds : List (DataW H)} {d : DataW H} {n : Nat}, d ∈ ds → n ∈ d.weights P e → n ∈ DataW.weightsAll P e ds
  | [], _, _, h, _ => by cases h
  | d0 :: ds, d, n, h, hn => by
    simp only [DataW.weightsAll, List.mem_append]
    rcases List.mem_cons.1 h with rfl | h
    · exact .inl hn
    · exact .inr (weightsAll_mem h hn)
theorem sz_elem {t e : TypeId} {xs ys : List (DataW H)} {d : DataW H} (ht : P.underlying t = some (.slice e)) (h : sz P t (.slice xs ys)) (hd : d ∈ xs ∨ d ∈ ys) : sz P e d := by
  intro n hn
  refine h n ?_
  simp only [DataW.weights, ht]
  refine List.mem_cons_of_mem _ (List.mem_append.2 ?_)
  rcases hd with hd | hd
  · exact .inl (weightsAll_mem hd hn)
  · exact .inr (weightsAll_mem hd hn)
theorem sz_len {t e : TypeId} {xs ys : List (DataW H)} (ht : P.underlying t = some (.slice e)) (h : sz P t (.slice xs ys)) : (xs.length + ys.length) * P.bytesOf e ≤ reachBytes := by
  refine h _ ?_
  simp only [DataW.weights, ht]
  exact List.mem_cons_self ..

theorem list_of {α : Type} {p : Nat → α → Prop} : ∀ n : Nat, (∀ i, i < n → ∃ x, p i x) → ∃ xs : List α, xs.length = n ∧ ∀ i x, xs[i]? = some x → p i x
  | 0, _ => ⟨[], rfl, by simp⟩
  | n + 1, h => by
    obtain ⟨xs, hl, hx⟩ := list_of n fun i hi => h i (by omega)
    obtain ⟨y, hy⟩ := h n (by omega)
    refine ⟨xs ++ [y], by simp [hl], fun i x hi => ?_⟩
    rcases Nat.lt_or_ge i n with h1 | h1
    · rw [List.getElem?_append_left (by omega)] at hi
      exact hx i x hi
    · rw [List.getElem?_append_right (by omega), hl] at hi
      obtain rfl : i = n := by
        have := (List.getElem?_eq_some_iff.1 hi).1
        simp at this; omega
      simp at hi
      subst hi
      exact hy
theorem add_at (b off j : Nat) : (⟨b, off, none⟩ : Addr).add j = ⟨b, off + j, none⟩ := by
  unfold Addr.add
  by_cases h : j = 0
  · simp [h]
  · simp [h]
theorem cell_block {a : Addr} {v : Value} (h : w.cell? a = some v) : a.block < w.heap.size := by
  rcases Nat.lt_or_ge a.block w.heap.size with hlt | hge
  · exact hlt
  · exfalso
    have e : w.heap[a.block]? = none := Array.getElem?_eq_none hge
    unfold World.cell? at h
    rw [e] at h
    cases h

/-- A slice whose elements read as f says. -/
theorem open_elems {α : Type} {t e : TypeId} {k bytes : Nat} (f : α → List Value) (Q : α → Prop) (hf : ∀ x, (f x).length = k) (ht : P.underlying t = some (.slice e)) (hc : P.cellsOf e = k) (hb : P.bytesOf e = bytes) (hkb : k * 8 ≤ bytes) (hk : 0 < k)
    (rdE : ∀ fuel cs d p, DataW.trod enc P w 0 (fun _ => true) true fuel e cs = some (d, p) → sz P e d → ∃ x, cs = f x ∧ Q x)
    {fuel : Nat} {v : Value} {d : DataW H} {p : List MemPlace} (h : DataW.trod enc P w 0 (fun _ => true) true fuel t [v] = some (d, p)) (hs : sz P t d) :
    ∃ (A : Option Addr) (xs : List α) (c : Nat), v = .slice A xs.length c ∧ Cells w A (xs.flatMap f) ∧ (∀ x ∈ xs, Q x) ∧ (A = none → xs = [] ∧ c = 0) := by
  rcases Go.Deep.open_slice ht h with ⟨hcs, _⟩ | ⟨a, len, cap, m, n, D, Pl, hcs, _, hl, hm, hmm, hx, hE⟩
  · injection hcs with hcs _
    exact ⟨none, [], 0, hcs, Cells.nil _ _, fun x hx => (by cases hx), fun _ => ⟨rfl, rfl⟩⟩
  · injection hcs with hcs _
    obtain rfl : m = cap := by simpa using hmm
    injection hx with hd _
    subst hd
    have hlen := sz_len ht hs
    simp only [List.length_map, List.length_range] at hlen
    rw [hb, Nat.add_sub_cancel' hl] at hlen
    have hel : ∀ i, i < len → ∃ x, w.cells? 0 (a.add (i * k)) k = some (f x) ∧ Q x := by
      intro i hi
      obtain ⟨cs', h1, h2⟩ := hE i (by omega)
      rw [hc] at h1
      obtain ⟨x, rfl, hq⟩ := rdE _ _ _ _ h2 (sz_elem ht hs (.inl (List.mem_map.2 ⟨i, List.mem_range.2 hi, rfl⟩)))
      exact ⟨x, h1, hq⟩
    obtain ⟨xs, hxl, hxs⟩ := list_of len hel
    have hcellx : ∀ i x j u, xs[i]? = some x → (f x)[j]? = some u → w.cell? (a.add (i * k + j)) = some u := by
      intro i x j u hi hj
      obtain ⟨_, _, hcell⟩ := World.cells?_some (hxs i x hi).1
      have hjk : j < k := by rw [← hf x]; exact (List.getElem?_eq_some_iff.1 hj).1
      rw [← Go.Deep.add_add, hcell j hjk, hj]
    refine ⟨some a, xs, m, by rw [hxl]; exact hcs, ?_, fun x hx => ?_, fun h => (by cases h)⟩
    · have hbound : (xs.flatMap f).length ≤ 17592186043904 := by
        rw [flat_len hf, hxl]
        have h1 : len * (k * 8) ≤ len * bytes := Nat.mul_le_mul_left _ hkb
        have h2 : len * bytes ≤ m * bytes := Nat.mul_le_mul_right _ hl
        have h3 : len * k * 8 = len * (k * 8) := Nat.mul_assoc _ _ _
        unfold reachBytes at hlen
        omega
      cases hxe : xs with
      | nil =>
        exact ⟨by simp, 0, 0, by omega, fun hn => absurd rfl hn, fun k v hv => by simp at hv⟩
      | cons x0 xr =>
        have h0 : xs[0]? = some x0 := by rw [hxe]; rfl
        obtain ⟨u, hu⟩ : ∃ u, (f x0)[0]? = some u := ⟨_, List.getElem?_eq_getElem (by rw [hf]; exact hk)⟩
        have hc0 := hcellx 0 x0 0 u h0 hu
        rw [Nat.zero_mul, Nat.zero_add] at hc0
        have ha0 : a.add 0 = a := by unfold Addr.add; simp
        rw [ha0] at hc0
        have hsp := World.cell?_spot hc0
        have hbk := cell_block hc0
        obtain ⟨b, off, spot⟩ := a
        simp only at hsp hbk
        subst hsp
        rw [← hxe]
        refine ⟨hbound, b, off, by omega, fun _ => ⟨rfl, hbk⟩, fun j v hv => ?_⟩
        have hjl : j < (xs.flatMap f).length := (List.getElem?_eq_some_iff.1 hv).1
        rw [flat_len hf] at hjl
        have hj : j = (j / k) * k + j % k := by rw [Nat.mul_comm]; exact (Nat.div_add_mod j k).symm
        have hjm : j % k < k := Nat.mod_lt _ hk
        rw [hj, flat_get hf xs (j / k) (j % k) hjm] at hv
        obtain ⟨x, hx1, hx2⟩ := Option.bind_eq_some_iff.1 hv
        have := hcellx _ _ _ _ hx1 hx2
        rw [← hj, add_at] at this
        exact this
    · obtain ⟨i, hi, rfl⟩ := List.mem_iff_getElem.1 hx
      exact (hxs i _ (List.getElem?_eq_getElem hi)).2
end
end Go.Proofs.Ytejabnoidhlfaaa

/- What the laws' arguments read as: ends, packets, deeds, texts, numbers. -/
namespace Go.Proofs.Ytejabnoidhlfaaa
open Go.RowKit Go.ChangeShapes Go.WideShapes Go.ChangeAt

section
variable {H : Type} {enc : TypeId × Value → H} {w : World}

theorem c3 : Try.prog.cellsOf 3 = 1 := by kernel_rfl
theorem c4 : Try.prog.cellsOf 4 = 1 := by kernel_rfl
theorem c9 : Try.prog.cellsOf 9 = 1 := by kernel_rfl
theorem c22 : Try.prog.cellsOf 22 = 1 := by kernel_rfl
theorem c23 : Try.prog.cellsOf 23 = 1 := by kernel_rfl
theorem c24 : Try.prog.cellsOf 24 = 1 := by kernel_rfl
theorem c26 : Try.prog.cellsOf 26 = 7 := by kernel_rfl
theorem c44 : Try.prog.cellsOf 44 = 7 := by kernel_rfl
theorem c71 : Try.prog.cellsOf 71 = 2 := by kernel_rfl
theorem c73 : Try.prog.cellsOf 73 = 2 := by kernel_rfl
theorem c77 : Try.prog.cellsOf 77 = 4 := by kernel_rfl
theorem b71 : Try.prog.bytesOf 71 = 24 := by kernel_rfl
theorem b73 : Try.prog.bytesOf 73 = 24 := by kernel_rfl
theorem b77 : Try.prog.bytesOf 77 = 40 := by kernel_rfl
theorem b3 : Try.prog.bytesOf 3 = 8 := by kernel_rfl
theorem sz_field {P : Program} {t : TypeId} {fs : Array Field} {ds : List (DataW H)} {i : Nat} {f : Field} {d : DataW H} (ht : P.underlying t = some (.struct fs)) (h : sz P t (.agg ds)) (hf : fs[i]? = some f) (hd : ds[i]? = some d) : sz P f.type d := by
  intro n hn
  refine h n ?_
  simp only [DataW.weights, ht]
  exact DataW.weights_mem_each (j := i) (by simp [hf]) hd n hn
theorem rdInt (fuel : Nat) (cs : List Value) (d : DataW H) (p : List MemPlace) (h : DataW.trod enc Try.prog w 0 (fun _ => true) true fuel 3 cs = some (d, p)) : ∃ x : Int, cs = [.int .i64 x] ∧ inI x ∧ (Lit.int .i64 x).wf = true := by
  obtain ⟨n, hc, _, hw⟩ := DataW.trod_int Try.underlying3 h
  have h2 := hw
  simp [Lit.wf] at h2
  have e1 : IntKind.i64.min = -9223372036854775808 := rfl
  have e2 : IntKind.i64.max = 9223372036854775807 := rfl
  exact ⟨n, hc, by unfold inI; omega, hw⟩
theorem rdStr (fuel : Nat) (cs : List Value) (d : DataW H) (p : List MemPlace) (h : DataW.trod enc Try.prog w 0 (fun _ => true) true fuel 9 cs = some (d, p)) : ∃ s, cs = [.string s] := by
  obtain ⟨s, hc, _, _⟩ := DataW.trod_string Try.underlying9 h
  exact ⟨s, hc⟩
theorem rdBool (fuel : Nat) (cs : List Value) (d : DataW H) (p : List MemPlace) (h : DataW.trod enc Try.prog w 0 (fun _ => true) true fuel 4 cs = some (d, p)) : ∃ b, cs = [.bool b] := by
  obtain ⟨s, hc, _⟩ := DataW.trod_bool Try.underlying4 h
  exact ⟨s, hc⟩
theorem two_cells {cs : List Value} (h : cs.length = 2) : ∃ a b, cs = [a, b] := by
  match cs, h with
  | [a, b], _ => exact ⟨a, b, rfl⟩
set_option maxRecDepth 100000 in
theorem rdOu (fuel : Nat) (cs : List Value) (d : DataW H) (p : List MemPlace) (h : DataW.trod enc Try.prog w 0 (fun _ => true) true fuel 71 cs = some (d, p)) : ∃ x : Ou, cs = ouC x ∧ True := by
  obtain ⟨y0, y1, n, _, hl, h0, h1⟩ := trod_struct2 Try.underlying71 h
  rw [c71] at hl
  obtain ⟨a, b, rfl⟩ := two_cells hl
  simp only [c9, c4, List.drop_zero, List.take_succ_cons, List.take_zero, List.drop_succ_cons] at h0 h1
  obtain ⟨x, hx⟩ := rdStr _ _ _ _ h0
  obtain ⟨y, hy⟩ := rdBool _ _ _ _ h1
  injection hx with hx _
  injection hy with hy _
  subst hx hy
  exact ⟨⟨x, y⟩, rfl, trivial⟩
set_option maxRecDepth 100000 in
theorem rdIm (fuel : Nat) (cs : List Value) (d : DataW H) (p : List MemPlace) (h : DataW.trod enc Try.prog w 0 (fun _ => true) true fuel 73 cs = some (d, p)) : ∃ x : Im, cs = imC x ∧ inI x.n := by
  obtain ⟨y0, y1, n, _, hl, h0, h1⟩ := trod_struct2 Try.underlying73 h
  rw [c73] at hl
  obtain ⟨a, b, rfl⟩ := two_cells hl
  simp only [c9, c3, List.drop_zero, List.take_succ_cons, List.take_zero, List.drop_succ_cons] at h0 h1
  obtain ⟨x, hx, hw, _⟩ := rdInt _ _ _ _ h0
  obtain ⟨y, hy⟩ := rdStr _ _ _ _ h1
  injection hx with hx _
  injection hy with hy _
  subst hx hy
  exact ⟨⟨x, y⟩, rfl, hw⟩
variable {r : Reach} {b0 : Nat}
set_option maxRecDepth 100000 in
theorem arg_en {v : Value} {d : DataW H} {p : List MemPlace} (hv : Value.okWide Try.prog w r b0 26 v) (h : DataW.Trod enc Try.prog w 0 (fun _ => true) true 26 v d p) (hs : sz Try.prog 26 d) :
    ∃ (e : En) (A : Option Addr) (c : Nat) (D : Option Addr) (dd : Nat), v = enV e A c D dd ∧ EnAt w e A D ∧ Wf e ∧ (A = none → e.out.length = 0 ∧ c = 0) := by
  obtain ⟨cs, rfl, hsz⟩ := okWide_struct Try.underlying26 hv
  obtain ⟨fuel, hf⟩ := h
  obtain ⟨xs, n, _, hx, hl, hxl, hfs⟩ := DataW.trod_struct Try.underlying26 hf
  injection hx with hd _
  subst hd
  rw [c26] at hsz
  obtain ⟨cl⟩ := cs
  match cl, hsz with
  | [a0, a1, a2, a3, a4, a5, a6], _ =>
    match xs, hxl with
    | [y0, y1, y2, y3, y4, y5, y6], _ =>
      have g : ∀ (i : Nat) (f : Field) (ty : TypeId) (u : Value) (y : DataW H × List MemPlace), (#[{ name := "Life", type := 3, offset := 0, embedded := false, tag := "", pkgPath := "", byteOffset := 0 }, { name := "Peer", type := 3, offset := 1, embedded := false, tag := "", pkgPath := "", byteOffset := 8 }, { name := "Phase", type := 22, offset := 2, embedded := false, tag := "", pkgPath := "", byteOffset := 16 }, { name := "Base", type := 3, offset := 3, embedded := false, tag := "", pkgPath := "", byteOffset := 24 }, { name := "Out", type := 23, offset := 4, embedded := false, tag := "", pkgPath := "", byteOffset := 32 }, { name := "Want", type := 3, offset := 5, embedded := false, tag := "", pkgPath := "", byteOffset := 56 }, { name := "In", type := 24, offset := 6, embedded := false, tag := "", pkgPath := "", byteOffset := 64 }] : Array Field)[i]? = some f → f.type = ty → Try.prog.cellsOf ty = 1 → (([a0, a1, a2, a3, a4, a5, a6].drop f.offset).take 1) = [u] → [y0, y1, y2, y3, y4, y5, y6][i]? = some y →
          DataW.trod enc Try.prog w 0 (fun _ => true) true n ty [u] = some (y.1, y.2) ∧ (sz Try.prog ty y.1) := by
        intro i f ty u y hi ht hc hu hy
        have h1 := hfs i f hi
        rw [ht, hc] at h1
        have h2 : ((Value.agg ⟨[a0, a1, a2, a3, a4, a5, a6]⟩).cells.toList.drop f.offset).take 1 = [u] := hu
        rw [h2, hy] at h1
        refine ⟨h1, ?_⟩
        have h3 := sz_field (i := i) (d := y.1) Try.underlying26 hs hi (by rw [List.getElem?_map, hy]; rfl)
        rw [ht] at h3
        exact h3
      obtain ⟨h0, _⟩ := g 0 _ 3 a0 y0 rfl rfl c3 rfl rfl
      obtain ⟨h1, _⟩ := g 1 _ 3 a1 y1 rfl rfl c3 rfl rfl
      obtain ⟨h2, _⟩ := g 2 _ 22 a2 y2 rfl rfl c22 rfl rfl
      obtain ⟨h3, _⟩ := g 3 _ 3 a3 y3 rfl rfl c3 rfl rfl
      obtain ⟨h4, s4⟩ := g 4 _ 23 a4 y4 rfl rfl c23 rfl rfl
      obtain ⟨h5, _⟩ := g 5 _ 3 a5 y5 rfl rfl c3 rfl rfl
      obtain ⟨h6, s6⟩ := g 6 _ 24 a6 y6 rfl rfl c24 rfl rfl
      obtain ⟨x0, e0, _⟩ := rdInt _ _ _ _ h0
      obtain ⟨x1, e1, _⟩ := rdInt _ _ _ _ h1
      obtain ⟨x2, e2, _, _⟩ := DataW.trod_int Try.underlying22 h2
      obtain ⟨x3, e3, i3, _⟩ := rdInt _ _ _ _ h3
      obtain ⟨x5, e5, _⟩ := rdInt _ _ _ _ h5
      injection e0 with e0 _
      injection e1 with e1 _
      injection e2 with e2 _
      injection e3 with e3 _
      injection e5 with e5 _
      subst e0 e1 e2 e3 e5
      obtain ⟨A, os, c, rfl, hA, _, hn⟩ := open_elems ouC (fun _ => True) (fun _ => rfl) Try.underlying23 c71 b71 (by decide) (by decide) (fun _ _ _ _ h _ => rdOu _ _ _ _ h) h4 s4
      obtain ⟨D, is, d, rfl, hD, hq, _⟩ := open_elems imC (fun x => inI x.n) (fun _ => rfl) Try.underlying24 c73 b73 (by decide) (by decide) (fun _ _ _ _ h _ => rdIm _ _ _ _ h) h6 s6
      exact ⟨⟨x0, x1, x2, x3, os, x5, is⟩, A, c, D, d, rfl, ⟨hA, hD⟩, ⟨i3, hq⟩, fun h => ⟨by show os.length = 0; rw [(hn h).1]; rfl, (hn h).2⟩⟩
end
theorem sz_arg {H : Type} {P : Program} {ts : List TypeId} {ds : List (DataW H)} (h : (DataW.weightsEach P ts ds).all (· ≤ reachBytes) = true) {j : Nat} {t : TypeId} {d : DataW H} (ht : ts[j]? = some t) (hd : ds[j]? = some d) : sz P t d := by
  intro n hn
  have := List.all_eq_true.1 h _ (DataW.weights_mem_each ht hd n hn)
  simpa using this
end Go.Proofs.Ytejabnoidhlfaaa

/- SessStarts returns true at every number and end, and leaves its arguments as they were. No condition. -/
namespace Go.Proofs.Ytejabnoidhlfaaa
open Go.ChangeShapes Go.WideShapes Go.ChangeAt Go.RowKit

theorem own_starts : ownKnob Try.prog.godebug = none := by kernel_rfl
theorem laid_starts : laidOutB Try.prog = true := by kernel_rfl

set_option maxRecDepth 100000 in
theorem lifted_starts (os : Os) (started : os.Started) (H : Type) (enc : TypeId × Value → H) :
    ReturnsInHanded {} Try.checked os 3 .any (Rows.sessStartsSpec.pre6 enc Try.prog Try.f3 Rows.sessStartsRow.domain false) (Rows.sessStartsSpec.post enc Try.prog Try.f3 false true false false) := by
  refine returnsInHanded_of_change_sized (C := Try.checked) own_starts started (by kernel_rfl) Try.func3
    (ChangeSpec.witness6 (enc := enc) (C := Try.checked) false ⟨#[], #[.int .i64 0, .agg #[.int .i64 0, .int .i64 0, .int .i64 0, .int .i64 0, .slice none 0 0, .int .i64 0, .slice none 0 0]], []⟩ 8 (by kernel_rfl) (by kernel_rfl) (by kernel_rfl) (by kernel_rfl)) ?_
  intro W base args ds gs before hval0 hW hcnd hsz0 _
  have hval : ∀ (j : Nat) t v, Try.f3.params[j]? = some t → args[j]? = some v → Value.okWide Try.prog W .any base t v := hval0
  have hsz : (DataW.weightsEach Try.prog (Try.f3.params.toList ++ Rows.sessStartsSpec.plain.varTypes Try.prog) (ds ++ gs)).all (· ≤ reachBytes) = true := hsz0
  have hW' := hW
  obtain ⟨p, q, hA0, hV, rfl, hfz, hnd⟩ := hW
  have hA : DataW.TrodAll enc Try.prog W 0 (fun _ => true) true Try.f3.params.toList args.toList ds p := hA0
  rw [Try.params3] at hA hval hsz
  obtain ⟨v0, vs0, d0, ds0, p0, q0, hargs, rfl, rfl, h0, r0⟩ := trodAll_cons hA
  obtain ⟨v1, vs1, d1, ds1, p1, q1, rfl, rfl, rfl, h1, r1⟩ := trodAll_cons r0
  obtain ⟨rfl, rfl, rfl⟩ := trodAll_nil r1
  obtain rfl : args = #[v0, v1] := by cases args; simp_all
  obtain ⟨rfl, rfl⟩ := trodVars_none hV
  obtain ⟨i0, rfl, rfl, rfl, hi0⟩ := open_int Try.underlying3 (hval 0 3 v0 rfl rfl) h0
  have s1 : sz Try.prog 26 d1 := sz_arg hsz (j := 1) rfl rfl
  obtain ⟨e1, A1, c1, D1, f1, rfl, hC1, hw1, hn1⟩ := arg_en (hval 1 26 v1 rfl rfl) h1 s1
  have k1 := h1
  have lt1 : ∀ x ∈ p1, x.block < W.heap.size := by obtain ⟨m, hm⟩ := k1; exact DataW.trod_lt m _ _ _ hm
  clear hA0 hval0
  refine (walk_starts i0 e1 A1 c1 D1 f1 W hC1 hw1).mono fun e W' ⟨he, bel⟩ => ?_
  subst he
  exact ⟨_, rfl, _, _, _, [], _, [], hW', trodAll_mk1 (shut_bool Try.underlying4 _), (trodAll_cons_mk (shut_int Try.underlying3 hi0) (trodAll_cons_mk (Below.trod laid_starts (by kernel_rfl) (of_decide_eq_true (by kernel_rfl)) k1 bel lt1) trodAll_mk0)), rfl, bel.frame _, fun h => by cases h⟩

theorem starts_holds : Rows.SessStartsSaid :=
  OpenClaim.holds_of_wide 3 Try.f3 rfl rfl rfl rfl rfl rfl rfl ⟨rfl, rfl, rfl, rfl, rfl⟩ rfl rfl rfl rfl rfl (by kernel_rfl) Try.func3 (by kernel_rfl)
    (of_decide_eq_true (by kernel_rfl)) (by unfold Func.isWrapper; first | (rw [if_pos (by decide +kernel)]; kernel_rfl) | (rw [if_neg (by decide +kernel)]; exact ⟨rfl, rfl⟩))
    (fun os started H enc _ => lifted_starts os started H enc)
#print axioms starts_holds
end Go.Proofs.Ytejabnoidhlfaaa
