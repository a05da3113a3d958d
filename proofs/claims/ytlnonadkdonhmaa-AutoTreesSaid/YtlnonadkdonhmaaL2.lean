/- Contracts and lemmas that a claim of this seat uses. -/
import Derived.RangeFuncBox
import Derived.RangeFuncLeaves
import Derived.RangeFuncNested
import Derived.RangeFuncBound
import Derived.RangeFuncCalls
import Derived.Shelf.Abstract
import Derived.OwnWalkIn
import Derived.TacticsInMore
import Derived.LoopNIn
import Derived.LoopIn
import Derived.Test.YtlnonadkdonhmaaL1

/- Contracts: members (an iterator over a set), slices.Collect of it, others. -/
namespace Go.Proofs.Ytlnonadkdonhmaa
open Go.RowKit Go.Shelf

attribute [local go_sem] Oper.semAt_some

/-- The channels of a set. -/
def memL (set : Int) : List Int := pickTo (fun i => inI set i) 6
abbrev Mem (set : Int) := { x : Int // 0 ≤ x ∧ x < 6 ∧ inI set x = true }

theorem members_any (s : Int) (w : World) : Calls Try.prog 120 #[.int .i64 s] w fun e w' => e = .returned (.func (.func 125) #[] #[.pointer (some ⟨w.heap.size, 0, none⟩)]) ∧ w' = w.alloc (.cells #[.int .i64 s] 3) := by
  go_enter Try.func120, Try.ntmps120
  go_wp2
  go_ret
  exact ⟨rfl, rfl⟩

set_option maxRecDepth 100000 in
set_option maxHeartbeats 1000000 in
theorem members1_in (n : Nat) (hn : 1 ≤ n) (l Bn n₀ : Nat) (hbn : Bn < n₀) (s : Int) (J Jx : List (Mem s) → World → Prop)
    (hY : ∀ pre x W, J pre W → pre.length < 6 → YieldAt Fence.wide (n - 1) Try.prog l #[.int .i64 x.1] W fun e W' =>
      (e = .returned (.bool true) ∧ J (pre ++ [x]) W' ∧ Below n₀ W W') ∨ (e = .returned (.bool false) ∧ Jx (pre ++ [x]) W'))
    (W : World) (hBn : W.cell? ⟨Bn, 0, none⟩ = some (.int .i64 s)) (h0 : J [] W) :
    CallsIn Fence.wide n Try.prog 125 #[.func (.yield l) #[] #[], .pointer (some ⟨Bn, 0, none⟩)] W fun e W' => (∃ v, e = .returned v) ∧
      ((∃ ys, ys.map (·.1) = memL s ∧ J ys W') ∨ (∃ pre, pre.map (·.1) <+: memL s ∧ Jx pre W')) := by
  refine callsIn_of_wp Try.func125 rfl trivial ?_ rfl
  simp only [Try.ntmps125, List.size_toArray, List.length_cons, List.length_nil, Nat.reduceAdd, Nat.reduceSub, Array.replicate_succ, Array.replicate_zero, List.push_toArray, List.append_toArray, List.nil_append, List.cons_append]
  gi_wp2
  gi_loopw [4] (fun p wr => ∃ (k : Nat) (pre : List (Mem s)), k ≤ 6 ∧ p = .int .i64 k ∧ pre.map (·.1) = pickTo (fun i => inI s i) k ∧ J pre wr ∧ wr.cell? ⟨Bn, 0, none⟩ = some (.int .i64 s))
    (fun p _ => 6 - (intOf p).toNat)
  case atStart => exact ⟨0, [], by omega, rfl, rfl, h0, hBn⟩
  case round =>
    obtain ⟨k, pre, hk, rfl, hpre, hJ, hc⟩ := hrel
    have HP := Lib.hid hpre
    have hlen : pre.length ≤ k := by
      have h1 := congrArg List.length hpre
      rw [List.length_map] at h1
      rw [h1]; exact pickTo_len _ k
    clear hpre
    by_cases hlt : k < 6
    · by_cases hin : inI s k = true
      · have HI := Lib.hid hin
        obtain ⟨x, hx⟩ : ∃ x : Mem s, x.1 = k := ⟨⟨k, by omega, by omega, hin⟩, rfl⟩
        obtain ⟨fn, tmps, assign, body, hy, hR⟩ := hY pre x wr hJ (by omega)
        rw [hx] at hy
        have HX := Lib.hid hx
        have HJ := Lib.hid hJ
        clear hin hx hJ
        gi_wp2_with (refine ⟨trivial, ?_⟩; gi_at_call 107; refine (callsIn_wide.2 (in_any s k _ (by omega) (by omega))).mono ?_; rintro e w1 ⟨rfl, rfl⟩; rw [HI.out])
        refine hR.mono ?_
        rintro e W3 (⟨rfl, hJ3, hk3⟩ | ⟨rfl, hJx3⟩)
        · have HJ3 := Lib.hid hJ3
          have hc3 : W3.cell? ⟨Bn, 0, none⟩ = some (.int .i64 s) := (hk3.cell (p := ⟨Bn, 0, none⟩) hbn).trans hc
          clear hJ3
          gi_wp2
          go_roundw
          case rel => exact ⟨k + 1, pre ++ [x], by omega, by go_num, by rw [List.map_append, HP.out, pickTo_hit HI.out]; simp [HX.out], HJ3.out, hc3⟩
          case measure => simp [intOf]; omega
        · have HJ3 := Lib.hid hJx3
          clear hJx3
          gi_wp2
          refine bodyPost_ret (results_none rfl _ _ _) rfl ?_
          refine ⟨⟨_, rfl⟩, .inr ⟨pre ++ [x], ?_, HJ3.out⟩⟩
          rw [List.map_append, HP.out]
          have e : pickTo (fun i => inI s i) k ++ [x].map (·.1) = pickTo (fun i => inI s i) (k + 1) := by rw [pickTo_hit HI.out]; simp [HX.out]
          rw [e]
          exact pickTo_prefix _ (by omega)
      · simp only [Bool.not_eq_true] at hin
        have HI := Lib.hid hin
        have HJ := Lib.hid hJ
        clear hin hJ
        gi_wp2_with (refine ⟨trivial, ?_⟩; gi_at_call 107; refine (callsIn_wide.2 (in_any s k _ (by omega) (by omega))).mono ?_; rintro e w1 ⟨rfl, rfl⟩; rw [HI.out])
        refine ⟨fun _ h => (by cases h), ?_⟩
        gi_wp2
        go_roundw
        case rel => exact ⟨k + 1, pre, by omega, by go_num, by rw [pickTo_miss HI.out]; exact HP.out, HJ.out, hc⟩
        case measure => simp [intOf]; omega
    · obtain rfl : k = 6 := by omega
      gi_wp2
      go_end0
      exact ⟨⟨_, rfl⟩, .inl ⟨pre, HP.out, hJ⟩⟩

theorem members_stops (n : Nat) (hn : 1 ≤ n) (Bn n₀ : Nat) (s : Int) (w : World) (hBn : Bn < w.heap.size) (hbn : Bn < n₀) (hc : w.cell? ⟨Bn, 0, none⟩ = some (.int .i64 s)) :
    SeqStopsK Fence.wide n Try.prog 125 #[.pointer (some ⟨Bn, 0, none⟩)] (fun x : Mem s => #[Value.int .i64 x.1]) (Below n₀) (fun ys => ys.map (·.1) = memL s) (fun pre => pre.map (·.1) <+: memL s) 6 w := fun l J Jx W hW _ _ hY h0 =>
  members1_in n hn l Bn n₀ hbn s J Jx hY W ((hW.cell (p := ⟨Bn, 0, none⟩) hBn).trans hc) h0

set_option maxRecDepth 100000 in
set_option maxHeartbeats 2000000 in
theorem appendSeq_in (n Bn : Nat) (hn : 3 ≤ n) (s : Int) (w : World) (hBn : Bn < w.heap.size) (hc : w.cell? ⟨Bn, 0, none⟩ = some (.int .i64 s)) :
    CallsIn Fence.wide n Try.prog 126 #[.slice none 0 0, .func (.func 125) #[] #[.pointer (some ⟨Bn, 0, none⟩)]] w fun e W' =>
      ∃ v, e = .returned v ∧ W'.ownsRow w.heap.size 3 1 v (memL s).length (ints (memL s)) ∧ Below w.heap.size w W' := by
  have h1 : 1 ≤ n := by omega
  obtain ⟨i0, z, hi, hz0, hz1, hz2, hz3⟩ := rInt.row
  refine callsIn_of_wp_marks Try.func126 rfl trivial ?_ rfl
  simp only [Try.ntmps126, List.size_toArray, List.length_cons, List.length_nil, Nat.reduceAdd, Nat.reduceSub, Array.replicate_succ, Array.replicate_zero, List.push_toArray, List.append_toArray, List.nil_append, List.cons_append]
  gi_wp2
  have bO := Boxed.new w 22 (.slice none 0 0)
  have hB0 : Below w.heap.size w (w.alloc (.cells #[.slice none 0 0] 22)) := (Below.refl _ w).alloc (Nat.le_refl _) _
  refine wpIn_rangeFunc_ownG (F := Fence.wide) rfl h1 (gf := 125) (lb := #[.pointer (some ⟨Bn, 0, none⟩)]) rfl trivial (enters_of Try.func125 (by kernel_rfl) rfl)
    (members_stops (n - 1) (by omega) Bn (w.heap.size) s (w.alloc (.cells #[.slice none 0 0] 22)) (by simp; omega) hBn ((hB0.cell (p := ⟨Bn, 0, none⟩) hBn).trans hc)) belowK_t (belowK_b (by simp)) (Below.refl _ _) (fun _ => rfl)
    (fun pre W => (∃ v, Boxed W w.heap.size 22 v ∧ W.ownsRow w.heap.size 3 1 v pre.length (ints (pre.map (·.1))) ∧ True) ∧ Below w.heap.size w W)
    (fun _ _ _ => False)
    (OwnFrom.and (Own.from (holdsRow_own w.heap.size w.heap.size 22 3 1 (fun pre : List (Mem s) => pre.length) (fun pre => ints (pre.map (·.1))) (fun _ _ => True)) _) (ownFrom_below (Nat.le_refl _) (by simp)))
    (fun _ _ _ _ _ hs _ _ => hs)
    ⟨⟨_, bO, World.ownsRow_nil _ _ _ _, trivial⟩, hB0⟩
    (fun x => { tmps := #[.slice none 0 0, .func (.func 125) #[] #[.pointer (some ⟨Bn, 0, none⟩)], .pointer (some ⟨w.heap.size, 0, none⟩), undef, .slice none 0 0, .int .i64 x.1, .func (.func 125) #[] #[.pointer (some ⟨Bn, 0, none⟩)], .int .i64 x.1, undef, undef, undef, undef, undef], defers := [] }) ?assign ?body ?done ?stop
  case assign =>
    intro l x W K hK
    gi_wp2
    exact hK
  case body =>
    rintro l pre x W ⟨⟨v, hv, hrow, _⟩, hB⟩ hlt
    have hc := hv.cell
    gi_wp2_with (gi_at_builtin; refine wpListIn_append_own _ rfl _ _ 22 rfl w.heap.size 3 i0 z 1 8 Try.underlying22 hi hz0 hz1 hz2 hz3 (by decide) _ _ _ rfl (hrow.alloc _) ⟨W.heap.size, 0, none⟩ 1 1 [.int .i64 x.1] rfl rfl (cell_one_new _ _ _) (by simp [Value.oneCell']) (by unfold maxLen; omega) (by omega) (by have := hB.size; simp; omega) ?_; intro v' w1 hown' hgrow _; obtain ⟨g', cap', rfl⟩ := ownsRow_succ hown'; obtain ⟨hv1, hv2, hr2, hk2, hb2⟩ := hv.appended (by decide) hrow hB.size (Nat.le_refl _) hown' hgrow; have hc1 := hv1.cell; have hf1 := hv1.frozen)
    exact ⟨hk2.from _, hb2, ⟨_, hv2, by simpa [ints] using hr2, trivial⟩, hB.trans hb2⟩
  case done =>
    rintro D ys W hD hys ⟨⟨v, hv, hrow, _⟩, hB⟩ hK
    have hc := hv.cell
    have HY := Lib.hid hys
    clear hys
    gi_wp2
    refine ⟨by simp, .inl ⟨_, _, rfl, run_takeDeferred hK, ?_⟩⟩
    have hrow' := hrow
    rw [HY.out, show ys.length = (memL s).length by rw [← HY.out]; simp] at hrow'
    exact ⟨_, results_tmp rfl _ _ _, v, rfl, ownsRow_putObj hrow' _ hK rfl, hB.trans (belowK_b (w := w) (Nat.le_refl _) W D _ _ (by simp at hD; omega) hK rfl rfl)⟩
  case stop =>
    rintro D c pre W _ _ h _
    exact h.elim

theorem memL_len (s : Int) : (memL s).length ≤ 6 := pickTo_len _ _

theorem collect_any (Bn : Nat) (s : Int) (w : World) (hBn : Bn < w.heap.size) (hc : w.cell? ⟨Bn, 0, none⟩ = some (.int .i64 s)) :
    Calls Try.prog 124 #[.func (.func 125) #[] #[.pointer (some ⟨Bn, 0, none⟩)]] w fun e w' => ∃ A c, e = .returned (.slice A (memL s).length c) ∧ New w' w.heap.size A (ints (memL s)) ∧ Below w.heap.size w w' := by
  go_enter Try.func124, Try.ntmps124
  go_wp2_with (go_at_call 126; refine (callsIn_wide.1 (appendSeq_in 3 Bn (by omega) s w hBn hc)).mono ?_; rintro e w1 ⟨v, rfl, hown, hB⟩; obtain ⟨A, c, rfl, hnew⟩ := own_new hown (by have := memL_len s; simp [ints]; omega))
  go_ret
  exact ⟨A, c, rfl, hnew, hB⟩
end Go.Proofs.Ytlnonadkdonhmaa

/- Contracts: others, step, moves. -/
namespace Go.Proofs.Ytlnonadkdonhmaa
open Go.RowKit

/-- The channels of a rule but one, as the program has them. -/
def othersA (r c : Int) : List Int := memL (bits BinOp.andNot .i64 r (2 ^ c.toNat))

set_option maxRecDepth 100000 in
set_option maxHeartbeats 1000000 in
theorem others_any (n : Int) (rule : Nat) (ch : Int) (A : Option Addr) (c : Nat) (rs : List Int) (r : Int) (w : World) (hA : Cells w A (ints rs)) (hr : rs[rule]? = some r) (h0 : 0 ≤ ch) (h1 : ch ≤ 60) :
    Calls Try.prog 115 #[.agg #[.int .i64 n, .slice A rs.length c], .int .i64 (rule : Int), .int .i64 ch] w fun e w' => ∃ A' c', e = .returned (.slice A' (othersA r ch).length c') ∧ New w' w.heap.size A' (ints (othersA r ch)) ∧ Below w.heap.size w w' := by
  have hlr : rs.length ≤ 17592186043904 := by simpa [ints] using hA.1
  have hlt : rule < rs.length := (List.getElem?_eq_some_iff.1 hr).1
  obtain ⟨x, b, o, hx, hb, hix, hc⟩ := ints_at (c := c) (hA.below ((Below.refl _ w).alloc (Nat.le_refl _) (.cells #[.int .i64 n, .slice A rs.length c] 24)) (Nat.le_refl _)) Try.underlying22 szInt hlt
  obtain rfl : r = x := by rw [hr] at hx; injection hx
  clear hx hr
  have hp := p2_wrap h0 (by omega)
  have hb2 := Lib.hid (box_cell (w.alloc (.cells #[.int .i64 n, .slice A rs.length c] 24)) #[.int .i64 (bits BinOp.andNot .i64 r (2 ^ ch.toNat))] 3 0 rfl)
  rw [World.size_alloc] at hb2
  go_enter Try.func115, Try.ntmps115
  go_wp2
  refine stail 8 (by kernel_rfl) (by kernel_rfl) (fun Kq hKq => ?_)
  simp only [List.take_succ_cons, List.take_zero, List.drop_succ_cons, List.drop_zero] at hKq ⊢
  repeat still_step
  refine wpStill_nil (hKq _ ?_)
  clear hKq Kq
  go_wp2_with (first
    | (go_at_call 120; refine (members_any _ _).mono ?_; rintro e w1 ⟨rfl, rfl⟩)
    | (go_at_call 124; go_must (refine (collect_any _ (bits BinOp.andNot .i64 r (2 ^ ch.toNat)) _ (by simp) (by exact hb2.out)).mono ?_); rintro e w2 ⟨A', c', rfl, hnew, hB⟩))
  go_ret
  refine ⟨A', c', rfl, hnew.mono (by simp; omega), ?_⟩
  exact (((Below.refl _ w).alloc (Nat.le_refl _) _).drew.alloc (by simp) _).trans (hB.mono (by simp; omega))

/-! ### step -/
def bit0 (kept : Int) (i : Nat) : Bool := bits BinOp.and .i64 (kept / 2 ^ i) 1 == 0
/-- The set that is next, the others up to k looked at. -/
def toF (os : List Int) (set kept : Int) : Nat → Int
  | 0 => set
  | k + 1 => if bit0 kept k then bits BinOp.andNot .i64 (toF os set kept k) (2 ^ (os.getD k 0).toNat) else toF os set kept k
def stepL (os : List Int) (set : Int) : List Int := (List.range (2 ^ os.length)).map fun (kept : Nat) => toF os set (kept : Int) os.length
abbrev fullI (set ch : Int) : Int := bits BinOp.or .i64 set (2 ^ ch.toNat)
def stepR (rs : List Int) (set ch : Int) : Int := match readyL rs (fullI set ch) with | [] => -1 | r :: _ => r
def stepN (rs : List Int) (set ch : Int) : List Int := match readyL rs (fullI set ch) with | [] => [fullI set ch] | r :: _ => stepL (othersA (rs.getD r.toNat 0) ch) set

theorem othersA_bd {r c x : Int} (h : x ∈ othersA r c) : 0 ≤ x ∧ x < 6 := by
  obtain ⟨i, rfl, hi, _⟩ := pickTo_mem h
  omega
theorem othersA_len (r c : Int) : (othersA r c).length ≤ 6 := pickTo_len _ _

theorem range_map_succ {α : Type} (f : Nat → α) (k : Nat) : (List.range (k + 1)).map f = (List.range k).map f ++ [f k] := by
  rw [List.range_succ, List.map_append]; rfl

set_option maxRecDepth 100000 in
set_option maxHeartbeats 400000 in
theorem step_none (n set ch : Int) (A : Option Addr) (c : Nat) (rs : List Int) (w : World) (hA : Cells w A (ints rs)) (h0 : 0 ≤ ch) (h1 : ch ≤ 60) (hl : readyL rs (fullI set ch) = []) :
    Calls Try.prog 73 #[.agg #[.int .i64 n, .slice A rs.length c], .int .i64 set, .int .i64 ch] w fun e w' => ∃ A' c', e = .returned (.tuple #[.int .i64 (-1), .slice A' 1 c']) ∧ New w' w.heap.size A' (ints [fullI set ch]) ∧ Below w.heap.size w w' := by
  have hp := p2_wrap h0 (by omega)
  have hp' := p2_wrap' h0 (by omega)
  have HL := Lib.hid hl
  clear hl
  go_enter Try.func73, Try.ntmps73
  go_wp2
  refine stail 5 (by kernel_rfl) (by kernel_rfl) (fun Kq hKq => ?_)
  simp only [List.take_succ_cons, List.take_zero, List.drop_succ_cons, List.drop_zero] at hKq ⊢
  repeat still_step
  refine wpStill_nil (hKq _ ?_)
  clear hKq Kq
  go_wp2_with (go_at_call 100; go_must (refine (ready_any n (bits BinOp.or .i64 set (2 ^ ch.toNat)) A c rs _ (by exact (hA.box0 _).drew)).mono ?_); rintro e w1 ⟨A', c', rfl, hcs, hB1⟩; rw [HL.out] at hcs; rw [HL.out])
  go_region
  all_goals
    go_wp2
    go_ret2
    exact ⟨_, _, rfl, (lit_new w1 [.int .i64 (bits BinOp.or .i64 set (2 ^ ch.toNat))] 3 (by simp)).drew.mono (by have := hB1.size; simp at this; omega), ((((Below.refl _ w).alloc (Nat.le_refl _) _).drew.trans (hB1.mono (by simp))).alloc (by have := hB1.size; simp at this; omega) _).drew⟩

theorem readyL_mem {rs : List Int} {set r : Int} (h : r ∈ readyL rs set) : ∃ i : Nat, r = i ∧ i < rs.length := by
  obtain ⟨i, h1, h2, _⟩ := pickTo_mem h
  exact ⟨i, h1, h2⟩

theorem step_len (os : List Int) (set : Int) (k : Nat) : (ints ((List.range k).map fun (kept : Nat) => toF os set (kept : Int) os.length)).length = k := by simp [ints]

set_option maxRecDepth 100000 in
set_option maxHeartbeats 4000000 in
theorem step_some (n set ch : Int) (A : Option Addr) (c : Nat) (rs : List Int) (w : World) (hA : Cells w A (ints rs)) (h0 : 0 ≤ ch) (h1 : ch ≤ 60) (r0 : Nat) (L : List Int) (hl : readyL rs (fullI set ch) = (r0 : Int) :: L) (r : Int) (hr : rs[r0]? = some r) :
    Calls Try.prog 73 #[.agg #[.int .i64 n, .slice A rs.length c], .int .i64 set, .int .i64 ch] w fun e w' => ∃ A' c', e = .returned (.tuple #[.int .i64 (r0 : Int), .slice A' (stepL (othersA r ch) set).length c']) ∧ New w' w.heap.size A' (ints (stepL (othersA r ch) set)) ∧ Below w.heap.size w w' := by
  have hp := p2_wrap h0 (by omega)
  have hp' := p2_wrap' h0 (by omega)
  have HL := Lib.hid hl
  have hlen : ((L.length : Int) + 1 == 0) = false := by simp; omega
  have HR := Lib.hid hr
  obtain ⟨os, HO⟩ : ∃ os, Hid (othersA r ch = os) := ⟨_, rfl⟩
  have hol : os.length ≤ 6 := by rw [← HO.out]; exact othersA_len _ _
  have HOB : Hid (∀ x ∈ os, 0 ≤ x ∧ x < 6) := by rw [← HO.out]; exact fun x hx => othersA_bd hx
  obtain ⟨N, HN⟩ : ∃ N : Nat, Hid (2 ^ os.length = N) := ⟨_, rfl⟩
  have hN : N ≤ 64 := by
    have h2 : 2 ^ os.length ≤ 2 ^ 6 := Nat.pow_le_pow_right (by decide) hol
    rw [HN.out] at h2; exact h2
  have hpN : wrap64 (2 ^ os.length) = (N : Int) := by
    have h2 := p2_wrap (n := (os.length : Int)) (by omega) (by omega)
    rw [Int.toNat_natCast] at h2
    rw [h2, ← HN.out]
    simp
  clear hl hr
  go_enter Try.func73, Try.ntmps73
  go_wp2
  refine stail 5 (by kernel_rfl) (by kernel_rfl) (fun Kq hKq => ?_)
  simp only [List.take_succ_cons, List.take_zero, List.drop_succ_cons, List.drop_zero] at hKq ⊢
  repeat still_step
  refine wpStill_nil (hKq _ ?_)
  clear hKq Kq
  go_wp2_with (go_at_call 100; go_must (refine (ready_any n (bits BinOp.or .i64 set (2 ^ ch.toNat)) A c rs _ (by exact (hA.box0 _).drew)).mono ?_); rintro e w1 ⟨A1, c1, rfl, hcs, hB1⟩; rw [HL.out] at hcs; rw [HL.out]; obtain ⟨b1, o1, hb1, hix1, hc1⟩ := ints_hd (c := c1) (n := L.length + 1) hcs rfl Try.underlying22 szInt; have g0 := (hB1.cell (p := ⟨w.heap.size, 0, none⟩) (by simp)).trans (box_cell w #[.int .i64 n, .slice A rs.length c] 24 0 rfl); have g1 := (hB1.cell (p := ⟨w.heap.size, 1, none⟩) (by simp)).trans (box_cell w #[.int .i64 n, .slice A rs.length c] 24 1 rfl))
  have hA1 : Cells w1 A (ints rs) := (hA.box0 _).drew.below hB1 (Nat.le_refl _)
  have hsz1 := hB1.size
  refine stail 5 (by kernel_rfl) (by kernel_rfl) (fun Kq hKq => ?_)
  simp only [List.take_succ_cons, List.take_zero, List.drop_succ_cons, List.drop_zero] at hKq ⊢
  repeat still_step
  refine wpStill_nil (hKq _ ?_)
  clear hKq Kq
  go_wp2_with (go_at_call 115; go_must (refine (others_any n r0 ch A c rs r _ (by exact hA1.drew) HR.out h0 h1).mono ?_); rintro e w2 ⟨A2, c2, rfl, hnew, hB2⟩; rw [HO.out] at hnew; rw [HO.out])
  have hB2' : Below w1.heap.size w1 w2 := (Below.refl _ w1).drew.trans hB2
  have hc1' : w2.cell? ⟨b1, o1, none⟩ = some (.int .i64 r0) := (hB2'.cell (p := ⟨b1, o1, none⟩) hb1).trans hc1
  have hb1' : b1 < w2.heap.size := Nat.lt_of_lt_of_le hb1 hB2'.size
  have hsz2 := hB2'.size
  clear hc1 g0 g1
  go_loopw [10, 38] (fun v i wr => ∃ k : Nat, k ≤ N ∧ i = .int .i64 k ∧ wr.ownsRow w2.heap.size 3 1 v k (ints ((List.range k).map fun (kept : Nat) => toF os set (kept : Int) os.length)) ∧ Below w2.heap.size w2 wr) (fun _ i _ => N - (intOf i).toNat)
  case atStart => exact ⟨0, Nat.zero_le _, rfl, World.ownsRow_nil _ _ _ _, Below.refl _ _⟩
  case round =>
    obtain ⟨k, hk, rfl, hown, hB⟩ := hrel
    have hc1'' : wr.cell? ⟨b1, o1, none⟩ = some (.int .i64 r0) := (hB.cell (p := ⟨b1, o1, none⟩) hb1').trans hc1'
    by_cases hlt : k < N
    · go_wp2
      go_loop [12, 44] (fun v i => ∃ j : Nat, j ≤ os.length ∧ i = .int .i64 j ∧ v = .int .i64 (toF os set k j)) (fun _ i => os.length - (intOf i).toNat)
      case atStart => exact ⟨0, Nat.zero_le _, rfl, rfl⟩
      case round =>
        obtain ⟨j, hj, rfl, rfl⟩ := hrel
        by_cases hjt : j < os.length
        · obtain ⟨x, b, o, hx, hb, hix, hc⟩ := ints_at (c := c2) (hnew.1.below hB (Nat.le_refl _)) Try.underlying22 szInt hjt
          have hx2 := HOB.out x (List.mem_of_getElem? hx)
          have hx0 := hx2.1
          have hx1 := hx2.2
          have HX : Hid (os.getD j 0 = x) := by show _ = _; simp [List.getD, hx]
          clear hx hx2
          have hpx := p2_wrap (n := x) (by omega) (by omega)
          by_cases h : bit0 k j = true
          · have H := Lib.hid h
            unfold bit0 at h
            go_wp2
            go_round
            case rel => exact ⟨j + 1, by omega, by go_num, by simp only [toF, H.out, HX.out, if_true]⟩
            case measure => simp [intOf]; omega
          · simp only [Bool.not_eq_true] at h
            have H := Lib.hid h
            unfold bit0 at h
            go_wp2
            go_round
            case rel => exact ⟨j + 1, by omega, by go_num, by simp [toF, H.out]⟩
            case measure => simp [intOf]; omega
        · obtain rfl : j = os.length := by omega
          go_wp2_with (at_builtin; refine wpList_app1 rInt _ rfl _ _ rfl hown rfl [_] 1 rfl rfl (by simp [Value.oneCell']) (by omega) hB.size ?_; intro v' w3 hown3 hB3)
          clear hp hp' hpN
          go_roundw
          case rel => exact ⟨_, _, _, _, _, _, ⟨k + 1, by omega, by go_num, by rw [range_map_succ]; simpa [ints] using hown3, hB.trans hB3⟩, rfl, rfl, rfl, rfl, rfl, rfl⟩
          case measure => simp [intOf]; omega
    · have hkN : k = N := by clear hp hp' hpN; omega
      subst hkN
      go_wp2
      clear hp hp' hpN
      obtain ⟨A', c', rfl, hcs'⟩ := own_new hown (by rw [step_len]; omega)
      go_ret2
      refine ⟨A', c', ?_, ?_, ?_⟩
      · simp [stepL, HO.out, HN.out]
      · rw [HO.out]; unfold stepL; rw [HN.out]; exact hcs'.mono (by simp at hsz1; omega)
      · exact ((((Below.refl _ w).alloc (Nat.le_refl _) _).drew.trans (hB1.mono (by simp))).trans (hB2'.mono (by simp at hsz1; omega))).trans (hB.mono (by simp at hsz1; omega))
end Go.Proofs.Ytlnonadkdonhmaa

/- Contracts: moves (the reference's step). -/
namespace Go.Proofs.Ytlnonadkdonhmaa
open Go.RowKit

def moveF (os : List Int) (set all : Int) (k : Nat) : Int := bits BinOp.andNot .i64 set (bits BinOp.andNot .i64 all (keepsI os k))
def movesL (os : List Int) (set : Int) : List Int := (List.range (2 ^ os.length)).map fun (k : Nat) => moveF os set (keepsI os ((2 ^ os.length : Nat) - 1)) k
theorem othersI_bd {r c x : Int} (h : x ∈ othersI r c) : 0 ≤ x ∧ x < 6 := by
  obtain ⟨i, rfl, hi, _⟩ := pickTo_mem h
  omega
theorem othersI_len (r c : Int) : (othersI r c).length ≤ 6 := pickTo_len _ _

set_option maxRecDepth 100000 in
set_option maxHeartbeats 2000000 in
theorem moves_none (n set ch : Int) (A : Option Addr) (c : Nat) (rs : List Int) (w : World) (hA : Cells w A (ints rs)) (h0 : 0 ≤ ch) (h1 : ch ≤ 60) (hl : readyL rs (fullI set ch) = []) :
    Calls Try.prog 76 #[.agg #[.int .i64 n, .slice A rs.length c], .int .i64 set, .int .i64 ch] w fun e w' => ∃ A' c', e = .returned (.tuple #[.int .i64 (-1), .slice A' 1 c']) ∧ New w' w.heap.size A' (ints [fullI set ch]) ∧ Below w.heap.size w w' := by
  have hp := p2_wrap h0 (by omega)
  have HL := Lib.hid hl
  clear hl
  go_enter Try.func76, Try.ntmps76
  go_wp2_with (go_at_call 53; go_must (refine (Ready_any n (bits BinOp.or .i64 set (2 ^ ch.toNat)) A c rs _ (by exact (hA.box0 _))).mono ?_); rintro e w1 ⟨A', c', rfl, hcs, hB1⟩; rw [HL.out] at hcs; rw [HL.out])
  go_ret2
  exact ⟨_, _, rfl, (lit_new w1 [.int .i64 (bits BinOp.or .i64 set (2 ^ ch.toNat))] 3 (by simp)).mono (by have := hB1.size; simp at this; omega), (((Below.refl _ w).alloc (Nat.le_refl _) _).trans (hB1.mono (by simp))).alloc (by have := hB1.size; simp at this; omega) _⟩

theorem moves_len (os : List Int) (set all : Int) (k : Nat) : (ints ((List.range k).map fun (j : Nat) => moveF os set all j)).length = k := by simp [ints]

set_option maxRecDepth 100000 in
set_option maxHeartbeats 4000000 in
theorem moves_some (n set ch : Int) (A : Option Addr) (c : Nat) (rs : List Int) (w : World) (hA : Cells w A (ints rs)) (h0 : 0 ≤ ch) (h1 : ch ≤ 60) (r0 : Nat) (L : List Int) (hl : readyL rs (fullI set ch) = (r0 : Int) :: L) (r : Int) (hr : rs[r0]? = some r) :
    Calls Try.prog 76 #[.agg #[.int .i64 n, .slice A rs.length c], .int .i64 set, .int .i64 ch] w fun e w' => ∃ A' c', e = .returned (.tuple #[.int .i64 (r0 : Int), .slice A' (movesL (othersI r ch) set).length c']) ∧ New w' w.heap.size A' (ints (movesL (othersI r ch) set)) ∧ Below w.heap.size w w' := by
  have hp := p2_wrap h0 (by omega)
  have HL := Lib.hid hl
  have hlen : ((L.length : Int) + 1 == 0) = false := by simp; omega
  have HR := Lib.hid hr
  have hrl : r0 < rs.length := (List.getElem?_eq_some_iff.1 hr).1
  obtain ⟨os, HO⟩ : ∃ os, Hid (othersI r ch = os) := ⟨_, rfl⟩
  have hol : os.length ≤ 6 := by rw [← HO.out]; exact othersI_len _ _
  have HOB : Hid (∀ x ∈ os, 0 ≤ x ∧ x < 6) := by rw [← HO.out]; exact fun x hx => othersI_bd hx
  obtain ⟨N, HN⟩ : ∃ N : Nat, Hid (2 ^ os.length = N) := ⟨_, rfl⟩
  have hN : N ≤ 64 := by
    have h2 : 2 ^ os.length ≤ 2 ^ 6 := Nat.pow_le_pow_right (by decide) hol
    rw [HN.out] at h2; exact h2
  have hpN : wrap64 (2 ^ os.length) = (N : Int) := by
    have h2 := p2_wrap (n := (os.length : Int)) (by omega) (by omega)
    rw [Int.toNat_natCast] at h2
    rw [h2, ← HN.out]
    simp
  obtain ⟨all, HA⟩ : ∃ all, Hid (keepsI os ((N : Int) - 1) = all) := ⟨_, rfl⟩
  clear hl hr
  go_enter Try.func76, Try.ntmps76
  go_wp2_with (go_at_call 53; go_must (refine (Ready_any n (bits BinOp.or .i64 set (2 ^ ch.toNat)) A c rs _ (by exact (hA.box0 _))).mono ?_); rintro e w1 ⟨A1, c1, rfl, hcs, hB1⟩; rw [HL.out] at hcs; rw [HL.out]; obtain ⟨b1, o1, hb1, hix1, hc1⟩ := ints_hd (c := c1) (n := L.length + 1) hcs rfl Try.underlying22 szInt; have g0 := (hB1.cell (p := ⟨w.heap.size, 0, none⟩) (by simp)).trans (box_cell w #[.int .i64 n, .slice A rs.length c] 24 0 rfl); have g1 := (hB1.cell (p := ⟨w.heap.size, 1, none⟩) (by simp)).trans (box_cell w #[.int .i64 n, .slice A rs.length c] 24 1 rfl))
  have hA1 : Cells w1 A (ints rs) := (hA.box0 _).below hB1 (Nat.le_refl _)
  have hsz1 := hB1.size
  obtain ⟨x, b, o, hx, hb, hix, hc⟩ := ints_at (c := c) hA1 Try.underlying22 szInt hrl
  obtain rfl : r = x := by rw [HR.out] at hx; injection hx
  clear hx
  refine stail 8 (by kernel_rfl) (by kernel_rfl) (fun Kq hKq => ?_)
  simp only [List.take_succ_cons, List.take_zero, List.drop_succ_cons, List.drop_zero] at hKq ⊢
  repeat still_step
  refine wpStill_nil (hKq _ ?_)
  clear hKq Kq
  go_wp2_with (first
    | (go_at_call 78; go_must (refine (Others_any r ch _).mono ?_); rintro e w2 ⟨A2, c2, rfl, hos, hB2⟩; rw [HO.out] at hos; rw [HO.out])
    | (go_at_call 88; go_must (refine (keeps_any os ((N : Int) - 1) A2 c2 w2 hos hol HOB.out).mono ?_); rintro e w3 ⟨rfl, rfl⟩; rw [HA.out]))
  have hB2' : Below w1.heap.size w1 w2 := (Below.refl _ w1).drew.trans hB2
  have hc1' : w2.cell? ⟨b1, o1, none⟩ = some (.int .i64 r0) := (hB2'.cell (p := ⟨b1, o1, none⟩) hb1).trans hc1
  have hb1' : b1 < w2.heap.size := Nat.lt_of_lt_of_le hb1 hB2'.size
  have hsz2 := hB2'.size
  clear hc1 g0 g1 hix hc
  go_loopw [12, 13] (fun v i wr => ∃ k : Nat, k ≤ N ∧ i = .int .i64 k ∧ wr.ownsRow w2.heap.size 3 1 v k (ints ((List.range k).map fun (j : Nat) => moveF os set all j)) ∧ Below w2.heap.size w2 wr) (fun _ i _ => N - (intOf i).toNat)
  case atStart => exact ⟨0, Nat.zero_le _, rfl, World.ownsRow_nil _ _ _ _, Below.refl _ _⟩
  case round =>
    obtain ⟨k, hk, rfl, hown, hB⟩ := hrel
    have hc1'' : wr.cell? ⟨b1, o1, none⟩ = some (.int .i64 r0) := (hB.cell (p := ⟨b1, o1, none⟩) hb1').trans hc1'
    have hos' := hos.below hB (Nat.le_refl _)
    by_cases hlt : k < N
    · go_wp2_with (first
        | (go_at_call 88; go_must (refine (keeps_any os k A2 c2 wr hos' hol HOB.out).mono ?_); rintro e w3 ⟨rfl, rfl⟩)
        | (at_builtin; refine wpList_app1 rInt _ rfl _ _ rfl hown rfl [_] 1 rfl rfl (by simp [Value.oneCell']) (by omega) hB.size ?_; intro v' w4 hown3 hB3))
      clear hp hpN
      go_roundw
      case rel => exact ⟨k + 1, by omega, by go_num, by rw [range_map_succ]; simpa [ints, moveF] using hown3, hB.trans hB3⟩
      case measure => simp [intOf]; omega
    · have hkN : k = N := by clear hp hpN; omega
      subst hkN
      go_wp2
      clear hp hpN
      obtain ⟨A', c', rfl, hcs'⟩ := own_new hown (by rw [moves_len]; omega)
      go_ret2
      refine ⟨A', c', ?_, ?_, ?_⟩
      · simp [movesL, HO.out, HN.out]
      · rw [HO.out]; unfold movesL; rw [HN.out, HA.out]; exact hcs'.mono (by simp at hsz1; omega)
      · exact ((((Below.refl _ w).alloc (Nat.le_refl _) _).trans (hB1.mono (by simp))).trans (hB2'.mono (by simp at hsz1; omega))).trans (hB.mono (by simp at hsz1; omega))
end Go.Proofs.Ytlnonadkdonhmaa

/- Machines in memory: slices of slices of acts. compact. -/
namespace Go.Proofs.Ytlnonadkdonhmaa
open Go.RowKit

structure AAct where
  rule : Int
  next : List Int
deriving DecidableEq
abbrev Mach := List (List AAct)

def actCells (p : AAct × (Option Addr × Nat)) : List Value := [.int .i64 p.1.rule, .slice p.2.1 p.1.next.length p.2.2]
theorem actCells_len (x : AAct × (Option Addr × Nat)) : (actCells x).length = 2 := rfl
def rowCell (p : List AAct × (Option Addr × Nat)) : List Value := [.slice p.2.1 p.1.length p.2.2]
theorem rowCell_len (x : List AAct × (Option Addr × Nat)) : (rowCell x).length = 1 := rfl

theorem rAct : ElemRow Try.prog 101 103 2 32 := ElemRow.mk' (z := .agg #[.int .i64 0, .slice none 0 0]) Try.underlying101 (by kernel_rfl) rfl (by decide) (by decide)
theorem rRow : ElemRow Try.prog 25 101 1 24 := ElemRow.mk' (z := .slice none 0 0) Try.underlying25 (by kernel_rfl) rfl (by decide) (by decide)

/-- The slice with the address A reads as these acts. -/
def ActsAt (w : World) (A : Option Addr) (acts : List AAct) : Prop :=
  ∃ hs : List (Option Addr × Nat), hs.length = acts.length ∧ Cells w A ((acts.zip hs).flatMap actCells) ∧ ∀ p ∈ acts.zip hs, Cells w p.2.1 (ints p.1.next)
/-- The slice with the address A reads as the states of a machine. -/
def MachAt (w : World) (A : Option Addr) (m : Mach) : Prop :=
  ∃ hs : List (Option Addr × Nat), hs.length = m.length ∧ Cells w A ((m.zip hs).flatMap rowCell) ∧ ∀ p ∈ m.zip hs, ActsAt w p.2.1 p.1

theorem ActsAt.below {w w' : World} {A : Option Addr} {acts : List AAct} {B : Nat} (h : ActsAt w A acts) (hb : Below B w w') (hB : w.heap.size ≤ B) : ActsAt w' A acts := by
  obtain ⟨hs, hl, hc, hn⟩ := h
  exact ⟨hs, hl, hc.below hb hB, fun p hp => (hn p hp).below hb hB⟩
theorem MachAt.below {w w' : World} {A : Option Addr} {m : Mach} {B : Nat} (h : MachAt w A m) (hb : Below B w w') (hB : w.heap.size ≤ B) : MachAt w' A m := by
  obtain ⟨hs, hl, hc, hn⟩ := h
  exact ⟨hs, hl, hc.below hb hB, fun p hp => (hn p hp).below hb hB⟩
theorem ActsAt.drew {w : World} {A : Option Addr} {acts : List AAct} (h : ActsAt w A acts) : ActsAt w.drew A acts := h
theorem MachAt.drew {w : World} {A : Option Addr} {m : Mach} (h : MachAt w A m) : MachAt w.drew A m := h
theorem ActsAt.box0 {w : World} {A : Option Addr} {acts : List AAct} (h : ActsAt w A acts) (o : Obj) : ActsAt (w.alloc o) A acts := h.below ((Below.refl _ w).alloc (Nat.le_refl _) o) (Nat.le_refl _)
theorem MachAt.box0 {w : World} {A : Option Addr} {m : Mach} (h : MachAt w A m) (o : Obj) : MachAt (w.alloc o) A m := h.below ((Below.refl _ w).alloc (Nat.le_refl _) o) (Nat.le_refl _)

theorem ActsAt.len {w : World} {A : Option Addr} {acts : List AAct} (h : ActsAt w A acts) : acts.length ≤ 8796093021952 := by
  obtain ⟨hs, hl, hc, _⟩ := h
  have := hc.1
  rw [flat_len actCells_len, List.length_zip] at this
  omega
theorem MachAt.len {w : World} {A : Option Addr} {m : Mach} (h : MachAt w A m) : m.length ≤ 17592186043904 := by
  obtain ⟨hs, hl, hc, _⟩ := h
  have := hc.1
  rw [flat_len rowCell_len, List.length_zip] at this
  omega

theorem acts_at {w : World} {A : Option Addr} {acts : List AAct} {c k : Nat} (h : ActsAt w A acts) (hk : k < acts.length) :
    ∃ a B d b o, acts[k]? = some a ∧ b < w.heap.size ∧ (∀ w', (Instr.indexAt 101 (.slice A acts.length c) (.int .i64 (k : Int))).run Try.prog w' = .ok (.pointer (some ⟨b, o, none⟩)) w') ∧
      w.cell? ⟨b, o, none⟩ = some (.int .i64 a.rule) ∧ w.cell? ⟨b, o + 1, none⟩ = some (.slice B a.next.length d) ∧ Cells w B (ints a.next) := by
  obtain ⟨hs, hl, hc, hn⟩ := h
  have hz : (acts.zip hs).length = acts.length := by rw [List.length_zip, hl, Nat.min_self]
  obtain ⟨x, b, o, hx, hb, hix, hcell⟩ := flat_at (c := c) hc actCells_len Try.underlying101 rAct.size_eq (by decide) (by rw [hz]; exact hk)
  rw [hz] at hix
  have hm : x ∈ acts.zip hs := List.mem_of_getElem? hx
  rw [List.getElem?_zip_eq_some] at hx
  exact ⟨x.1, x.2.1, x.2.2, b, o, hx.1, hb, hix, by simpa using hcell 0 _ rfl, hcell 1 _ rfl, hn x hm⟩

theorem mach_at {w : World} {A : Option Addr} {m : Mach} {c k : Nat} (h : MachAt w A m) (hk : k < m.length) :
    ∃ acts B d b o, m[k]? = some acts ∧ b < w.heap.size ∧ (∀ w', (Instr.indexAt 25 (.slice A m.length c) (.int .i64 (k : Int))).run Try.prog w' = .ok (.pointer (some ⟨b, o, none⟩)) w') ∧
      w.cell? ⟨b, o, none⟩ = some (.slice B acts.length d) ∧ ActsAt w B acts := by
  obtain ⟨hs, hl, hc, hn⟩ := h
  have hz : (m.zip hs).length = m.length := by rw [List.length_zip, hl, Nat.min_self]
  obtain ⟨x, b, o, hx, hb, hix, hcell⟩ := flat_at (c := c) hc rowCell_len Try.underlying25 rRow.size_eq (by decide) (by rw [hz]; exact hk)
  rw [hz] at hix
  have hm : x ∈ m.zip hs := List.mem_of_getElem? hx
  rw [List.getElem?_zip_eq_some] at hx
  exact ⟨x.1, x.2.1, x.2.2, b, o, hx.1, hb, hix, by simpa using hcell 0 _ rfl, hn x hm⟩

/-! ### compact -/
def actC (a : AAct) : Bool := decide (a.next.length ≤ 40)
def rowC (acts : List AAct) : Bool := decide (acts.length ≤ 10) && acts.all actC
def compactB (m : Mach) : Bool := decide (m.length ≤ 70) && m.all rowC

set_option maxRecDepth 100000 in
set_option maxHeartbeats 2000000 in
theorem compact_any (A : Option Addr) (c : Nat) (m : Mach) (w : World) (hA : MachAt w A m) :
    Calls Try.prog 19 #[.agg #[.slice A m.length c]] w fun e w' => e = .returned (.bool (compactB m)) ∧ Below w.heap.size w w' := by
  have hml := hA.len
  by_cases h70 : 70 < m.length
  · have hg : compactB m = false := by simp [compactB]; omega
    have hd : (70 : Int) < (m.length : Int) := by omega
    rw [hg]
    go_enter Try.func19, Try.ntmps19
    go_wp2
    go_ret
    exact ⟨rfl, (Below.refl _ _).alloc (Nat.le_refl _) _⟩
  · have HG : Hid (compactB m = m.all rowC) := by show _ = _; simp [compactB, show m.length ≤ 70 by omega]
    have hd : decide ((70 : Int) < (m.length : Int)) = false := by simp; omega
    rw [HG.out]
    go_enter Try.func19, Try.ntmps19
    go_wp2
    go_loopw [14] (fun i wr => ∃ k : Nat, k ≤ m.length ∧ i = .int .i64 k ∧ (m.take k).all rowC = true ∧ Below w.heap.size w wr) (fun i _ => m.length - (intOf i).toNat)
    case atStart => exact ⟨0, Nat.zero_le _, rfl, rfl, (Below.refl _ _).alloc (Nat.le_refl _) _⟩
    case round =>
      obtain ⟨k, hk, rfl, hall, hB⟩ := hrel
      have Hall := Lib.hid hall
      clear hall
      by_cases hlt : k < m.length
      · obtain ⟨acts, B, d, b, o, hr, hb, hix, hc, hacts⟩ := mach_at (c := c) (hA.below hB (Nat.le_refl _)) hlt
        have HR := Lib.hid hr
        have hal := hacts.len
        clear hr
        by_cases h10 : 10 < acts.length
        · have hd2 : (10 : Int) < (acts.length : Int) := by omega
          go_wp2
          go_ret
          exact ⟨by rw [all_no HR.out (by simp [rowC]; omega)]; rfl, hB⟩
        · have hd2 : decide ((10 : Int) < (acts.length : Int)) = false := by simp; omega
          have HW : Hid (rowC acts = acts.all actC) := by show _ = _; simp [rowC, show acts.length ≤ 10 by omega]
          go_wp2
          obtain ⟨wo, HWO⟩ : ∃ wo : World, Hid (wo = wr) := ⟨_, rfl⟩
          have hBo : Below w.heap.size w wo := by rw [HWO.out]; exact hB
          go_loopw [23] (fun i wr2 => ∃ j : Nat, j ≤ acts.length ∧ i = .int .i64 j ∧ (acts.take j).all actC = true ∧ Below wr.heap.size wr wr2) (fun i _ => acts.length - (intOf i).toNat)
          case atStart => exact ⟨0, Nat.zero_le _, rfl, rfl, Below.refl _ _⟩
          case round =>
            obtain ⟨j, hj, rfl, hall2, hB2⟩ := hrel
            have Hall2 := Lib.hid hall2
            clear hall2
            by_cases hjt : j < acts.length
            · obtain ⟨a, B', d', b', o', hr', hb', hix', hc0, hc1, hnx⟩ := acts_at (c := d) (hacts.below hB2 (Nat.le_refl _)) hjt
              have HR' := Lib.hid hr'
              have hnl := hnx.1
              rw [show (ints a.next).length = a.next.length by simp [ints]] at hnl
              clear hr'
              by_cases h40 : 40 < a.next.length
              · have hd3 : (40 : Int) < (a.next.length : Int) := by omega
                go_wp2
                go_ret
                exact ⟨by rw [all_no HR.out (by rw [HW.out]; exact all_no HR'.out (by simp [actC]; omega))]; rfl, hB.trans ((hB2.mono hB.size).alloc (Nat.le_trans hB.size hB2.size) _)⟩
              · have hd3 : decide ((40 : Int) < (a.next.length : Int)) = false := by simp; omega
                go_wp2
                go_roundw
                case rel => exact ⟨j + 1, by omega, by go_num, all_step Hall2.out HR'.out (by simp [actC]; omega), hB2.alloc hB2.size _⟩
                case measure => simp [intOf]; omega
            · obtain rfl : j = acts.length := by omega
              go_wp2
              go_roundw
              case rel => exact ⟨k + 1, by omega, by go_num, all_step Hall.out HR.out (by rw [HW.out]; exact all_done Hall2.out), hB.trans (hB2.mono hB.size)⟩
              case measure => simp [intOf]; omega
      · obtain rfl : k = m.length := by omega
        go_wp2
        go_ret
        exact ⟨by rw [all_done Hall.out]; rfl, hB⟩
end Go.Proofs.Ytlnonadkdonhmaa

/- Contracts: State, Letter, Word. -/
namespace Go.Proofs.Ytlnonadkdonhmaa
open Go.RowKit

def stateB (m : Mach) (s : Int) : Bool := decide (0 ≤ s) && decide (s < m.length)
def letterB (n : Int) (l : Lt) : Bool := decide (0 ≤ l.ch) && decide (l.ch < n) && setI n l.keep
def wordB (n : Int) (l : List Lt) : Bool := l.all (letterB n) && decide (l.length ≤ 60)

theorem state_any (A : Option Addr) (c : Nat) (m : Mach) (s : Int) (w : World) :
    Calls Try.prog 29 #[.agg #[.slice A m.length c], .int .i64 s] w fun e w' => e = .returned (.bool (stateB m s)) ∧ Below w.heap.size w w' := by
  by_cases h : 0 ≤ s
  · go_enter Try.func29, Try.ntmps29
    go_wp2
    go_ret
    exact ⟨by simp [stateB, h], (Below.refl _ _).alloc (Nat.le_refl _) _⟩
  · go_enter Try.func29, Try.ntmps29
    go_wp2
    go_ret
    exact ⟨by simp [stateB]; omega, (Below.refl _ _).alloc (Nat.le_refl _) _⟩

set_option maxRecDepth 100000 in
set_option maxHeartbeats 1000000 in
theorem letter_any (n : Int) (A : Option Addr) (l c : Nat) (ch keep : Int) (w : World) (h0 : 0 ≤ n) (h1 : n ≤ 62) :
    Calls Try.prog 82 #[.agg #[.int .i64 n, .slice A l c], .agg #[.int .i64 ch, .int .i64 keep]] w fun e w' => e = .returned (.bool (letterB n ⟨ch, keep⟩)) ∧ Below w.heap.size w w' := by
  by_cases h : 0 ≤ ch
  · by_cases h2 : ch < n
    · go_enter Try.func82, Try.ntmps82
      go_wp2_with (go_at_call 52; go_must (refine (set_any n keep A l c _ h0 h1).mono ?_); rintro e w1 ⟨rfl, hB⟩)
      go_ret
      exact ⟨by simp [letterB, h, h2], (((Below.refl _ _).alloc (Nat.le_refl _) _).alloc (by simp) _).trans (hB.mono (by simp; omega))⟩
    · have hd : decide (ch < n) = false := by simp; omega
      go_enter Try.func82, Try.ntmps82
      go_wp2
      go_ret
      exact ⟨by simp [letterB, hd], ((Below.refl _ _).alloc (Nat.le_refl _) _).alloc (by simp) _⟩
  · have hd : decide (0 ≤ ch) = false := by simp; omega
    go_enter Try.func82, Try.ntmps82
    go_wp2
    go_ret
    exact ⟨by simp [letterB, hd], ((Below.refl _ _).alloc (Nat.le_refl _) _).alloc (by simp) _⟩

set_option maxRecDepth 100000 in
set_option maxHeartbeats 2000000 in
theorem word_any (n : Int) (A : Option Addr) (l c : Nat) (B : Option Addr) (d : Nat) (xs : List Lt) (w : World) (h0 : 0 ≤ n) (h1 : n ≤ 62) (hB' : Cells w B (lts xs)) :
    Calls Try.prog 30 #[.agg #[.int .i64 n, .slice A l c], .slice B xs.length d] w fun e w' => e = .returned (.bool (wordB n xs)) ∧ Below w.heap.size w w' := by
  have hlx : xs.length * 2 ≤ 17592186043904 := by simpa [lts, flat_len ltCells_len] using hB'.1
  go_enter Try.func30, Try.ntmps30
  go_wp2
  go_loopw [9] (fun i wr => ∃ k : Nat, k ≤ xs.length ∧ i = .int .i64 k ∧ (xs.take k).all (letterB n) = true ∧ Below (w.heap.size + 1) (w.alloc (.cells #[.int .i64 n, .slice A l c] 24)) wr) (fun i _ => xs.length - (intOf i).toNat)
  case atStart => exact ⟨0, Nat.zero_le _, rfl, rfl, Below.refl _ _⟩
  case round =>
    obtain ⟨k, hk, rfl, hall, hB⟩ := hrel
    have Hall := Lib.hid hall
    have g0 := box_at hB 0 (v := .int .i64 n) rfl
    have g1 := box_at hB 1 (v := .slice A l c) rfl
    have hsz := box_sz hB
    have hsz0 : w.heap.size < wr.heap.size := hsz
    clear hall
    by_cases hlt : k < xs.length
    · obtain ⟨x, b, o, hx, hb, hix, hc⟩ := flat_at (c := d) (hB'.box hB) ltCells_len Try.underlying38 rLt.size_eq (by decide) hlt
      obtain ⟨x0, x1⟩ := x
      have c0 := hc 0 _ rfl
      have c1 := hc 1 _ rfl
      rw [Nat.add_zero] at c0
      have HX := Lib.hid hx
      clear hx hc
      by_cases h : letterB n ⟨x0, x1⟩ = true
      · have H := Lib.hid h
        clear h
        go_wp2_with (go_at_call 82; go_must (refine (letter_any n A l c x0 x1 _ h0 h1).mono ?_); rintro e w1 ⟨rfl, hB1⟩; rw [H.out])
        go_roundw
        case rel => exact ⟨k + 1, by omega, by go_num, all_step Hall.out HX.out H.out, (hB.alloc hsz _).trans (hB1.mono (by simp; omega))⟩
        case measure => simp [intOf]; omega
      · simp only [Bool.not_eq_true] at h
        have H := Lib.hid h
        clear h
        go_wp2_with (go_at_call 82; go_must (refine (letter_any n A l c x0 x1 _ h0 h1).mono ?_); rintro e w1 ⟨rfl, hB1⟩; rw [H.out])
        go_ret
        exact ⟨by unfold wordB; rw [all_no HX.out H.out]; rfl, below_box ((hB.alloc hsz _).trans (hB1.mono (by simp; omega)))⟩
    · obtain rfl : k = xs.length := by omega
      go_wp2
      go_ret
      refine ⟨?_, below_box hB⟩
      unfold wordB
      rw [all_done Hall.out]
      simp
      omega
end Go.Proofs.Ytlnonadkdonhmaa

/- Contracts: formed, Formed of the program. -/
namespace Go.Proofs.Ytlnonadkdonhmaa
open Go.RowKit

def nextOk (len : Nat) (x : Int) : Bool := decide (0 ≤ x) && decide (x < len)
def ruleOk (rs : List Int) (c rule : Int) : Bool := decide (rule = -1) || (decide (0 ≤ rule) && decide (rule < rs.length) && inI (rs.getD rule.toNat 0) c)
def manyA (rs : List Int) (c rule : Int) : Nat := if rule = -1 then 1 else 2 ^ (othersA (rs.getD rule.toNat 0) c).length
def actOkA (rs : List Int) (len : Nat) (c : Int) (a : AAct) : Bool := ruleOk rs c a.rule && decide (a.next.length = manyA rs c a.rule) && a.next.all (nextOk len)

set_option maxRecDepth 100000 in
set_option maxHeartbeats 4000000 in
theorem formed_no (n : Int) (A : Option Addr) (c : Nat) (rs : List Int) (B : Option Addr) (d : Nat) (m : Mach) (ch rule : Int) (D : Option Addr) (f len : Nat) (w : World) (hA : Cells w A (ints rs)) (h0 : 0 ≤ ch) (h1 : ch ≤ 60) (hr : ruleOk rs ch rule = false) :
    Calls Try.prog 75 #[.agg #[.int .i64 n, .slice A rs.length c], .agg #[.slice B m.length d], .int .i64 ch, .agg #[.int .i64 rule, .slice D len f]] w fun e w' => e = .returned (.bool false) ∧ Below w.heap.size w w' := by
  have hb3 : Below w.heap.size w (((w.alloc (.cells #[.int .i64 n, .slice A rs.length c] 24)).alloc (.cells #[.slice B m.length d] 27)).alloc (.cells #[.int .i64 rule, .slice D len f] 103)) := (((Below.refl _ _).alloc (Nat.le_refl _) _).alloc (by simp) _).alloc (by simp; omega) _
  have hne : rule ≠ -1 := by rintro rfl; simp [ruleOk] at hr
  have hd1 : (rule != -1) = true := by simpa using hne
  by_cases h2 : rule < 0
  · go_enter Try.func75, Try.ntmps75
    go_wp2
    go_ret
    exact ⟨rfl, hb3⟩
  · have hd2 : decide (rule < 0) = false := by simp; omega
    by_cases h3 : (rs.length : Int) ≤ rule
    · go_enter Try.func75, Try.ntmps75
      go_wp2
      go_ret
      exact ⟨rfl, hb3⟩
    · obtain ⟨r0, rfl⟩ := Int.eq_ofNat_of_zero_le (show 0 ≤ rule by omega)
      have hd3 : decide ((rs.length : Int) ≤ (r0 : Int)) = false := by simp; omega
      obtain ⟨x, b, o, hx, hb, hix, hc⟩ := ints_at (c := c) (k := r0) (hA.below hb3 (Nat.le_refl _)) Try.underlying22 szInt (by omega)
      have HI : Hid (inI x ch = false) := by
        show _ = _
        have e1 : rs.getD r0 0 = x := by simp [List.getD, hx]
        have e2 : (r0 : Int) < rs.length := by omega
        simp only [ruleOk, Int.toNat_natCast, e1, e2] at hr
        simpa [hne] using hr
      clear hx hr hne
      go_enter Try.func75, Try.ntmps75
      go_wp2_with (go_at_call 107; go_must (refine (in_any x ch _ h0 h1).mono ?_); rintro e w1 ⟨rfl, rfl⟩; rw [HI.out])
      go_ret
      exact ⟨rfl, hb3⟩

/-- The world behind formed's three boxes. -/
abbrev fbox (w : World) (n : Int) (A : Option Addr) (l c : Nat) (B : Option Addr) (k d : Nat) (rule : Int) (D : Option Addr) (len f : Nat) : World :=
  ((w.alloc (.cells #[.int .i64 n, .slice A l c] 24)).alloc (.cells #[.slice B k d] 27)).alloc (.cells #[.int .i64 rule, .slice D len f] 103)

theorem fbox_below (w : World) (n : Int) (A : Option Addr) (l c : Nat) (B : Option Addr) (k d : Nat) (rule : Int) (D : Option Addr) (len f : Nat) : Below w.heap.size w (fbox w n A l c B k d rule D len f) :=
  (((Below.refl _ _).alloc (Nat.le_refl _) _).alloc (by simp) _).alloc (by simp; omega) _
theorem fbox_size (w : World) (n : Int) (A : Option Addr) (l c : Nat) (B : Option Addr) (k d : Nat) (rule : Int) (D : Option Addr) (len f : Nat) : (fbox w n A l c B k d rule D len f).heap.size = w.heap.size + 3 := by simp

set_option maxRecDepth 100000 in
set_option maxHeartbeats 4000000 in
theorem formed_yes (n : Int) (A : Option Addr) (c : Nat) (rs : List Int) (B : Option Addr) (d : Nat) (m : Mach) (ch rule : Int) (D : Option Addr) (f : Nat) (nx : List Int) (w : World) (hA : Cells w A (ints rs)) (hD : Cells w D (ints nx)) (h0 : 0 ≤ ch) (h1 : ch ≤ 60) (hr : ruleOk rs ch rule = true) :
    Calls Try.prog 75 #[.agg #[.int .i64 n, .slice A rs.length c], .agg #[.slice B m.length d], .int .i64 ch, .agg #[.int .i64 rule, .slice D nx.length f]] w fun e w' => e = .returned (.bool (decide (nx.length = manyA rs ch rule) && nx.all (nextOk m.length))) ∧ Below w.heap.size w w' := by
  have hb3 := fbox_below w n A rs.length c B m.length d rule D nx.length f
  have hs3 := fbox_size w n A rs.length c B m.length d rule D nx.length f
  have hnl : nx.length ≤ 17592186043904 := by simpa [ints] using hD.1
  obtain ⟨M, HM⟩ : ∃ M : Nat, Hid (manyA rs ch rule = M) := ⟨_, rfl⟩
  rw [HM.out]
  by_cases hm1 : rule = -1
  · have hd1 : (rule != -1) = false := by simp [hm1]
    obtain rfl : M = 1 := by have h := HM.out; simp [manyA, hm1] at h; exact h.symm
    clear hm1 hr
    by_cases hM : nx.length = 1
    · have hd2 : ((nx.length : Int) != 1) = false := by simp [hM]
      have HN := Lib.hid hM
      clear hM hs3
      go_enter Try.func75, Try.ntmps75
      go_wp2
      have hDx : Cells (fbox w n A rs.length c B m.length d rule D nx.length f) D (ints nx) := hD.below hb3 (Nat.le_refl _)
      have hBx := hb3
      go_loop [52] (fun i => ∃ k : Nat, k ≤ nx.length ∧ i = .int .i64 k ∧ (nx.take k).all (nextOk m.length) = true) (fun i => nx.length - (intOf i).toNat)
      case atStart => exact ⟨0, Nat.zero_le _, rfl, rfl⟩
      case round =>
        obtain ⟨k, hk, rfl, hall⟩ := hrel
        have Hall := Lib.hid hall
        clear hall
        by_cases hlt : k < nx.length
        · obtain ⟨x, b, o, hx, hb, hix, hc⟩ := ints_at (c := f) hDx Try.underlying22 szInt hlt
          have HX := Lib.hid hx
          clear hx
          by_cases h1 : x < 0
          · go_wp2
            go_ret
            exact ⟨by rw [all_no HX.out (by simp [nextOk]; omega)]; simp, hBx⟩
          · have hd5 : decide (x < 0) = false := by simp; omega
            by_cases h2 : (m.length : Int) ≤ x
            · go_wp2
              go_ret
              exact ⟨by rw [all_no HX.out (by simp [nextOk]; omega)]; simp, hBx⟩
            · have hd6 : decide ((m.length : Int) ≤ x) = false := by simp; omega
              go_wp2
              go_round
              case rel => exact ⟨k + 1, by omega, by go_num, all_step Hall.out HX.out (by simp [nextOk]; omega)⟩
              case measure => simp [intOf]; omega
        · obtain rfl : k = nx.length := by omega
          go_wp2
          go_ret
          exact ⟨by rw [all_done Hall.out, decide_eq_true HN.out]; rfl, hBx⟩
    · have hd2 : ((nx.length : Int) != 1) = true := by simp; omega
      go_enter Try.func75, Try.ntmps75
      go_wp2
      go_ret
      exact ⟨by simp [hM], hb3⟩
  · have hd1 : (rule != -1) = true := by simpa using hm1
    have hr' : 0 ≤ rule ∧ rule < rs.length ∧ inI (rs.getD rule.toNat 0) ch = true := by simpa [ruleOk, hm1, and_assoc] using hr
    obtain ⟨r0, rfl⟩ := Int.eq_ofNat_of_zero_le hr'.1
    have hrl : r0 < rs.length := by omega
    have hd2 : decide ((r0 : Int) < 0) = false := by simp
    have hd3 : decide ((rs.length : Int) ≤ (r0 : Int)) = false := by simp; omega
    obtain ⟨x, b, o, hx, hb, hix, hc⟩ := ints_at (c := c) (k := r0) (hA.below hb3 (Nat.le_refl _)) Try.underlying22 szInt hrl
    have e1 : rs.getD r0 0 = x := by simp [List.getD, hx]
    have HI : Hid (inI x ch = true) := by
      show _ = _
      have h := hr'.2.2
      rw [Int.toNat_natCast, e1] at h; exact h
    have HX := Lib.hid hx
    obtain ⟨os, HO⟩ : ∃ os, Hid (othersA x ch = os) := ⟨_, rfl⟩
    have hol : os.length ≤ 6 := by rw [← HO.out]; exact othersA_len _ _
    have HM2 : Hid (2 ^ os.length = M) := by
      show _ = _
      rw [← HM.out, ← HO.out]
      simp [manyA, hm1, List.getD, hx]
    have hM6 : M ≤ 64 := by
      have h2 : 2 ^ os.length ≤ 2 ^ 6 := Nat.pow_le_pow_right (by decide) hol
      rw [HM2.out] at h2; exact h2
    have hpM : wrap64 (2 ^ os.length) = (M : Int) := by
      have h2 := p2_wrap (n := (os.length : Int)) (by omega) (by omega)
      rw [Int.toNat_natCast] at h2
      rw [h2, ← HM2.out]
      simp
    clear hx hr hr' hm1 e1
    by_cases hM : nx.length = M
    · have hd4 : ((nx.length : Int) != (M : Int)) = false := by simp [hM]
      have HN := Lib.hid hM
      have HS3 := Lib.hid hs3
      have HB3 := Lib.hid hb3
      clear hM hs3 hb3
      go_enter Try.func75, Try.ntmps75
      go_wp2_with (first
        | (go_at_call 107; go_must (refine (in_any x ch _ h0 h1).mono ?_); rintro e w1 ⟨rfl, rfl⟩; rw [HI.out])
        | (go_at_call 115; go_must (refine (others_any n r0 ch A c rs x _ (by exact hA.below HB3.out (Nat.le_refl _)) HX.out h0 h1).mono ?_); rintro e w1 ⟨A2, c2, rfl, hnew, hB2⟩; rw [HO.out] at hnew; rw [HO.out]; have g1 := cell_chain (b := w.heap.size + 1) (i := 0) (v := .slice B m.length d) hB2 (by simp <;> omega) (by go_simp); have g2 := cell_chain (b := w.heap.size + 2) (i := 1) (v := .slice D nx.length f) hB2 (by simp <;> omega) (by go_simp)))
      have hDx : Cells w1 D (ints nx) := (hD.below HB3.out (Nat.le_refl _)).below hB2 (Nat.le_refl _)
      have hBx : Below w.heap.size w w1 := HB3.out.trans (hB2.mono (by simp; omega))
      clear hpM
      go_loop [52] (fun i => ∃ k : Nat, k ≤ nx.length ∧ i = .int .i64 k ∧ (nx.take k).all (nextOk m.length) = true) (fun i => nx.length - (intOf i).toNat)
      case atStart => exact ⟨0, Nat.zero_le _, rfl, rfl⟩
      case round =>
        obtain ⟨k, hk, rfl, hall⟩ := hrel
        have Hall := Lib.hid hall
        clear hall
        by_cases hlt : k < nx.length
        · obtain ⟨x, b, o, hx, hb, hix, hc⟩ := ints_at (c := f) hDx Try.underlying22 szInt hlt
          have HX := Lib.hid hx
          clear hx
          by_cases h1 : x < 0
          · go_wp2
            go_ret
            exact ⟨by rw [all_no HX.out (by simp [nextOk]; omega)]; simp, hBx⟩
          · have hd5 : decide (x < 0) = false := by simp; omega
            by_cases h2 : (m.length : Int) ≤ x
            · go_wp2
              go_ret
              exact ⟨by rw [all_no HX.out (by simp [nextOk]; omega)]; simp, hBx⟩
            · have hd6 : decide ((m.length : Int) ≤ x) = false := by simp; omega
              go_wp2
              go_round
              case rel => exact ⟨k + 1, by omega, by go_num, all_step Hall.out HX.out (by simp [nextOk]; omega)⟩
              case measure => simp [intOf]; omega
        · obtain rfl : k = nx.length := by omega
          go_wp2
          go_ret
          exact ⟨by rw [all_done Hall.out, decide_eq_true HN.out]; rfl, hBx⟩
    · have hd4 : ((nx.length : Int) != (M : Int)) = true := by simp; omega
      have HN : Hid (decide (nx.length = M) = false) := decide_eq_false hM
      have HB3 := Lib.hid hb3
      clear hM hs3 hb3
      go_enter Try.func75, Try.ntmps75
      go_wp2_with (first
        | (go_at_call 107; go_must (refine (in_any x ch _ h0 h1).mono ?_); rintro e w1 ⟨rfl, rfl⟩; rw [HI.out])
        | (go_at_call 115; go_must (refine (others_any n r0 ch A c rs x _ (by exact hA.below HB3.out (Nat.le_refl _)) HX.out h0 h1).mono ?_); rintro e w1 ⟨A2, c2, rfl, hnew, hB2⟩; rw [HO.out] at hnew; rw [HO.out]; have g2 := cell_chain (b := w.heap.size + 2) (i := 1) (v := .slice D nx.length f) hB2 (by simp <;> omega) (by go_simp)))
      go_ret
      exact ⟨by rw [HN.out]; rfl, HB3.out.trans (hB2.mono (by simp; omega))⟩

theorem formed_any (n : Int) (A : Option Addr) (c : Nat) (rs : List Int) (B : Option Addr) (d : Nat) (m : Mach) (ch rule : Int) (D : Option Addr) (f : Nat) (nx : List Int) (w : World) (hA : Cells w A (ints rs)) (hD : Cells w D (ints nx)) (h0 : 0 ≤ ch) (h1 : ch ≤ 60) :
    Calls Try.prog 75 #[.agg #[.int .i64 n, .slice A rs.length c], .agg #[.slice B m.length d], .int .i64 ch, .agg #[.int .i64 rule, .slice D nx.length f]] w fun e w' => e = .returned (.bool (actOkA rs m.length ch ⟨rule, nx⟩)) ∧ Below w.heap.size w w' := by
  by_cases h : ruleOk rs ch rule = true
  · have e : actOkA rs m.length ch ⟨rule, nx⟩ = (decide (nx.length = manyA rs ch rule) && nx.all (nextOk m.length)) := by simp [actOkA, h]
    rw [e]
    exact formed_yes n A c rs B d m ch rule D f nx w hA hD h0 h1 h
  · simp only [Bool.not_eq_true] at h
    have e : actOkA rs m.length ch ⟨rule, nx⟩ = false := by simp [actOkA, h]
    rw [e]
    exact formed_no n A c rs B d m ch rule D f nx.length w hA h0 h1 h
end Go.Proofs.Ytlnonadkdonhmaa

/- Contract: Formed of the program. -/
namespace Go.Proofs.Ytlnonadkdonhmaa
open Go.RowKit

def rowOkA (n : Int) (rs : List Int) (len : Nat) (acts : List AAct) : Bool := decide ((acts.length : Int) = n) && allTo (fun c a => actOkA rs len c a) acts acts.length
def formedA (n : Int) (rs : List Int) (m : Mach) : Bool := grpOk n rs && decide (1 ≤ m.length) && decide (m.length ≤ 64) && m.all (rowOkA n rs m.length)

abbrev gbox (w : World) (n : Int) (A : Option Addr) (l c : Nat) (B : Option Addr) (k d : Nat) : World :=
  (w.alloc (.cells #[.int .i64 n, .slice A l c] 24)).alloc (.cells #[.slice B k d] 27)
theorem gbox_below (w : World) (n : Int) (A : Option Addr) (l c : Nat) (B : Option Addr) (k d : Nat) : Below w.heap.size w (gbox w n A l c B k d) :=
  ((Below.refl _ _).alloc (Nat.le_refl _) _).alloc (by simp) _
theorem gbox_size (w : World) (n : Int) (A : Option Addr) (l c : Nat) (B : Option Addr) (k d : Nat) : (gbox w n A l c B k d).heap.size = w.heap.size + 2 := by simp

set_option maxRecDepth 100000 in
set_option maxHeartbeats 4000000 in
theorem Formed_loop (n : Int) (A : Option Addr) (c : Nat) (rs : List Int) (B : Option Addr) (d : Nat) (m : Mach) (w : World) (hA : Cells w A (ints rs)) (hM : MachAt w B m) (hg : grpOk n rs = true) (hl1 : 1 ≤ m.length) (hl2 : m.length ≤ 64) :
    Calls Try.prog 22 #[.agg #[.int .i64 n, .slice A rs.length c], .agg #[.slice B m.length d]] w fun e w' => e = .returned (.int .i64 (errI (m.all (rowOkA n rs m.length)))) ∧ Below w.heap.size w w' := by
  obtain ⟨hn1, hn6, _, _⟩ := grpOk_true hg
  have HG : Hid (errI (grpOk n rs) = 0) := by show _ = _; rw [hg]; rfl
  have HB2 := Lib.hid (gbox_below w n A rs.length c B m.length d)
  have HA2 := Lib.hid (hA.below HB2.out (Nat.le_refl _))
  have hM2 : MachAt (gbox w n A rs.length c B m.length d) B m := hM.below HB2.out (Nat.le_refl _)
  have hd2 : decide ((m.length : Int) < 1) = false := by simp <;> omega
  have hd3 : decide ((64 : Int) < (m.length : Int)) = false := by simp <;> omega
  clear hg
  go_enter Try.func22, Try.ntmps22
  go_wp2_with (go_at_call 48; go_must (refine (check_any n A c rs _ HA2.out).mono ?_); rintro e w1 ⟨rfl, hB1⟩; rw [HG.out]; have g1 := cell_chain (b := w.heap.size + 1) (i := 0) (v := .slice B m.length d) hB1 (by simp <;> omega) (by go_simp))
  have hsz1 := hB1.size
  rw [gbox_size] at hsz1
  have hBw : Below (w.heap.size + 2) (gbox w n A rs.length c B m.length d) w1 := hB1.mono (by rw [gbox_size]; exact Nat.le_refl _)
  clear g1
  go_loopw [27] (fun i wr => ∃ k : Nat, k ≤ m.length ∧ i = .int .i64 k ∧ (m.take k).all (rowOkA n rs m.length) = true ∧ Below (w.heap.size + 2) (gbox w n A rs.length c B m.length d) wr) (fun i _ => m.length - (intOf i).toNat)
  case atStart => exact ⟨0, Nat.zero_le _, rfl, rfl, hBw⟩
  case round =>
    obtain ⟨k, hk, rfl, hall, hB⟩ := hrel
    have Hall := Lib.hid hall
    have g0 := cell_chain (b := w.heap.size) (i := 0) (v := .int .i64 n) hB (by omega) (by go_simp)
    have hMr := hM2.below hB (by rw [gbox_size]; exact Nat.le_refl _)
    have hszr : w.heap.size + 2 ≤ wr.heap.size := by have h := hB.size; rw [gbox_size] at h; exact h
    clear hall
    by_cases hlt : k < m.length
    · obtain ⟨acts, E, f, b, o, hr, hb, hix, hc, hacts⟩ := mach_at (c := d) hMr hlt
      have HR := Lib.hid hr
      have hal := hacts.len
      clear hr
      by_cases hln : (acts.length : Int) = n
      · have hd4 : ((acts.length : Int) != n) = false := by simp [hln]
        have HLN := Lib.hid hln
        have hlb : acts.length ≤ 6 := by omega
        have HW : Hid (rowOkA n rs m.length acts = allTo (fun c a => actOkA rs m.length c a) acts acts.length) := by show _ = _; simp [rowOkA, hln]
        clear hln
        go_wp2
        obtain ⟨wo, rfl⟩ : ∃ wo : World, wo = wr := ⟨_, rfl⟩
        go_loopw [38] (fun i wr2 => ∃ j : Nat, j ≤ acts.length ∧ i = .int .i64 j ∧ allTo (fun c a => actOkA rs m.length c a) acts j = true ∧ Below wo.heap.size wo wr2) (fun i _ => acts.length - (intOf i).toNat)
        case atStart => exact ⟨0, Nat.zero_le _, rfl, rfl, Below.refl _ _⟩
        case round =>
          obtain ⟨j, hj, rfl, hall2, hB2⟩ := hrel
          have Hall2 := Lib.hid hall2
          have hszr2 := hB2.size
          have e0 := cell_chain (b := w.heap.size) (i := 0) (v := .int .i64 n) hB2 (by omega) g0
          have e1 := cell_chain (b := w.heap.size) (i := 1) (v := .slice A rs.length c) hB2 (by omega) (cell_chain hB (by omega) (by go_simp))
          have e2 := cell_chain (b := w.heap.size + 1) (i := 0) (v := .slice B m.length d) hB2 (by omega) (cell_chain hB (by omega) (by go_simp))
          have hz0 : w.heap.size < wr.heap.size := by omega
          have hz1 : w.heap.size + 1 < wr.heap.size := by omega
          clear hall2
          by_cases hjt : j < acts.length
          · obtain ⟨a, D, f', b', o', hr', hb', hix', hc0, hc1, hnx⟩ := acts_at (c := f) (hacts.below hB2 (Nat.le_refl _)) hjt
            have HR' := Lib.hid hr'
            have hA2 : Cells wr A (ints rs) := (HA2.out.below hB (by rw [gbox_size]; exact Nat.le_refl _)).below hB2 (Nat.le_refl _)
            clear hr'
            cases hok : actOkA rs m.length j ⟨a.rule, a.next⟩
            · have HK := Lib.hid hok
              clear hok
              go_wp2_with (go_at_call 75; go_must (refine (formed_any n A c rs B d m j a.rule D f' a.next _ (by exact hA2.box0 _) (by exact hnx.box0 _) (by omega) (by omega)).mono ?_); rintro e w3 ⟨rfl, hB3⟩; rw [HK.out])
              go_ret
              exact ⟨by rw [all_no HR.out (by rw [HW.out]; exact allTo_no HR'.out HK.out hjt)]; rfl, HB2.out.trans ((hB.mono (by omega)).trans ((hB2.mono (by omega)).trans (((Below.refl _ _).alloc (by omega) _).trans (hB3.mono (by simp <;> omega)))))⟩
            · have HK := Lib.hid hok
              clear hok
              go_wp2_with (go_at_call 75; go_must (refine (formed_any n A c rs B d m j a.rule D f' a.next _ (by exact hA2.box0 _) (by exact hnx.box0 _) (by omega) (by omega)).mono ?_); rintro e w3 ⟨rfl, hB3⟩; rw [HK.out])
              go_roundw
              case rel => exact ⟨j + 1, by omega, by go_num, allTo_step Hall2.out HR'.out HK.out, hB2.trans (((Below.refl _ _).alloc (by omega) _).trans (hB3.mono (by simp <;> omega)))⟩
              case measure => simp [intOf]; omega
          · obtain rfl : j = acts.length := by omega
            go_wp2
            go_roundw
            case rel => exact ⟨k + 1, by omega, by go_num, all_step Hall.out HR.out (by rw [HW.out]; exact Hall2.out), hB.trans (hB2.mono hszr)⟩
            case measure => simp [intOf]; omega
      · have hd4 : ((acts.length : Int) != n) = true := by simpa using hln
        have HN : Hid (rowOkA n rs m.length acts = false) := by show _ = _; simp [rowOkA, hln]
        clear hln
        go_wp2
        go_ret
        exact ⟨by rw [all_no HR.out HN.out]; rfl, HB2.out.trans (hB.mono (by omega))⟩
    · obtain rfl : k = m.length := by omega
      go_wp2
      go_ret
      exact ⟨by rw [all_done Hall.out]; rfl, HB2.out.trans (hB.mono (by omega))⟩

set_option maxRecDepth 100000 in
set_option maxHeartbeats 2000000 in
theorem Formed_any (n : Int) (A : Option Addr) (c : Nat) (rs : List Int) (B : Option Addr) (d : Nat) (m : Mach) (w : World) (hA : Cells w A (ints rs)) (hM : MachAt w B m) :
    Calls Try.prog 22 #[.agg #[.int .i64 n, .slice A rs.length c], .agg #[.slice B m.length d]] w fun e w' => e = .returned (.int .i64 (errI (formedA n rs m))) ∧ Below w.heap.size w w' := by
  have HB2 := Lib.hid (gbox_below w n A rs.length c B m.length d)
  have HA2 := Lib.hid (hA.below HB2.out (Nat.le_refl _))
  have hml := hM.len
  cases hg : grpOk n rs
  · have hf : formedA n rs m = false := by simp [formedA, hg]
    have HG : Hid (errI (grpOk n rs) = 2) := by show _ = _; rw [hg]; rfl
    rw [hf]
    clear hg hf
    go_enter Try.func22, Try.ntmps22
    go_wp2_with (go_at_call 48; go_must (refine (check_any n A c rs _ HA2.out).mono ?_); rintro e w1 ⟨rfl, hB1⟩; rw [HG.out])
    go_ret
    exact ⟨rfl, HB2.out.trans (hB1.mono (by simp <;> omega))⟩
  · by_cases hl1 : 1 ≤ m.length
    · by_cases hl2 : m.length ≤ 64
      · have hf : formedA n rs m = m.all (rowOkA n rs m.length) := by simp [formedA, hg, hl1, hl2]
        rw [hf]
        exact Formed_loop n A c rs B d m w hA hM hg hl1 hl2
      · have hf : formedA n rs m = false := by simp [formedA, hl2]
        have HG : Hid (errI (grpOk n rs) = 0) := by show _ = _; rw [hg]; rfl
        have hd2 : decide ((m.length : Int) < 1) = false := by simp <;> omega
        have hd3 : decide ((64 : Int) < (m.length : Int)) = true := by simp <;> omega
        rw [hf]
        clear hg hf
        go_enter Try.func22, Try.ntmps22
        go_wp2_with (go_at_call 48; go_must (refine (check_any n A c rs _ HA2.out).mono ?_); rintro e w1 ⟨rfl, hB1⟩; rw [HG.out]; have g1 := cell_chain (b := w.heap.size + 1) (i := 0) (v := .slice B m.length d) hB1 (by simp <;> omega) (by go_simp))
        go_ret
        exact ⟨rfl, HB2.out.trans (hB1.mono (by simp <;> omega))⟩
    · have hf : formedA n rs m = false := by simp [formedA, hl1]
      have HG : Hid (errI (grpOk n rs) = 0) := by show _ = _; rw [hg]; rfl
      have hd2 : decide ((m.length : Int) < 1) = true := by simp <;> omega
      rw [hf]
      clear hg hf
      go_enter Try.func22, Try.ntmps22
      go_wp2_with (go_at_call 48; go_must (refine (check_any n A c rs _ HA2.out).mono ?_); rintro e w1 ⟨rfl, hB1⟩; rw [HG.out]; have g1 := cell_chain (b := w.heap.size + 1) (i := 0) (v := .slice B m.length d) hB1 (by simp <;> omega) (by go_simp))
      go_ret
      exact ⟨rfl, HB2.out.trans (hB1.mono (by simp <;> omega))⟩
end Go.Proofs.Ytlnonadkdonhmaa
