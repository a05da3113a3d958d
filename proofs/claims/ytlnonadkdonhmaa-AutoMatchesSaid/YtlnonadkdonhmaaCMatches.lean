/- AutoMatches returns true for every group and list of messages, and leaves its arguments as they were. No condition. -/
import Derived.Test.YtlnonadkdonhmaaL19
import Derived.Test.YtlnonadkdonhmaaL16
import Derived.Test.YtlnonadkdonhmaaL17
import Derived.Test.YtlnonadkdonhmaaL14
import Derived.Test.YtlnonadkdonhmaaL9
import Derived.Test.YtlnonadkdonhmaaL10
import Derived.Test.YtlnonadkdonhmaaRows

/- The walk of AutoMatches. -/
namespace Go.Proofs.Ytlnonadkdonhmaa
open Go.RowKit Go.Maps

/-! ### the closure asks whether the first rule that is ready reacts -/
def matGood (_ : Unit) (_ : Nat) (rule : Int) (rd : List Int) : Prop := rd ≠ [] → rd[0]? = some rule
set_option maxRecDepth 100000 in
set_option maxHeartbeats 1000000 in
theorem mat1_any (i : Nat) (rule : Int) (rd : List Int) (R : Option Addr) (c : Nat) (w : World) (hg : matGood () i rule rd) (hR : Cells w R (ints rd)) :
    Calls Try.prog 69 #[.int .i64 (i : Int), .int .i64 rule, .slice R rd.length c] w fun e w' => e = .returned (.bool true) ∧ w = w' := by
  have hlr : rd.length ≤ 17592186043904 := by simpa [ints] using hR.1
  by_cases hrd : rd = []
  · have hz : ((rd.length : Int) == 0) = true := by rw [hrd]; rfl
    clear hg hrd
    go_enter Try.func69, Try.ntmps69
    go_wp2
    go_ret
    exact ⟨rfl, rfl⟩
  · have hpos := List.length_pos_iff.2 hrd
    have hz : ((rd.length : Int) == 0) = false := by rw [beq_eq_false_iff_ne]; omega
    obtain ⟨r, b, o, hr, hb, hix, hc⟩ := ints_at (c := c) (k := 0) hR Try.underlying22 szInt hpos
    have e := hg hrd
    rw [hr] at e
    injection e with e
    subst e
    rw [show ((0 : Nat) : Int) = 0 from rfl] at hix
    clear hg hrd hr
    go_enter Try.func69, Try.ntmps69
    go_wp2
    go_ret
    exact ⟨by simp, rfl⟩

theorem mat_watch (L : Nat) : WatchOk 69 #[] (σ := Unit) L (fun _ => False) (fun _ _ => True) (fun _ _ _ _ => ()) matGood where
  enter := enters_of Try.func69 (by kernel_rfl) rfl
  keep := fun _ _ _ _ h _ _ => h
  calls := by
    intro s i rule rd R c w _ _ _ hg hR _
    exact (mat1_any i rule rd R c w hg hR).mono fun e w' ⟨h1, h2⟩ => ⟨h1, trivial, by subst h2; exact Frame.refl _ _⟩

theorem mat_good {N : Nat} {rs l : List Int} : ∀ k, k < l.length → matGood () k ((qTo rs chFirst N () l l.length).out.getD k 0) (readyL rs (setQ (incAt (qTo rs chFirst N () l k).many (l.getD k 0)))) := by
  intro k hk hne
  have hx : l[k]? = some l[k] := List.getElem?_eq_getElem hk
  have hgx : l.getD k 0 = l[k] := by simp [List.getD, hx]
  rw [hgx] at hne ⊢
  have hm := chFirst_mem () k _ hne
  obtain ⟨b, r, hb, hbr, _⟩ := ready_mem hm
  have e := qTo_some (rs := rs) (ch := chFirst) (N := N) (s0 := ()) (l := l) (k := k) (r := r) (rd := readyL rs (setQ (incAt (qTo rs chFirst N () l k).many l[k]))) rfl hx rfl hne (by rw [show (qTo rs chFirst N () l k).st = () from rfl, hb, Int.toNat_natCast]; exact hbr)
  have e2 := qTo_out hk (by rw [e])
  have e3 : (qTo rs chFirst N () l l.length).out.getD k 0 = (readyL rs (setQ (incAt (qTo rs chFirst N () l k).many l[k]))).getD 0 0 := by
    simp only [List.getD, e2]
    rfl
  rw [e3]
  obtain ⟨y, t, hyt⟩ := List.exists_cons_of_ne_nil hne
  rw [hyt]
  rfl


set_option maxRecDepth 100000 in
set_option maxHeartbeats 4000000 in
theorem matches_no (n : Int) (A : Option Addr) (c : Nat) (rs : List Int) (D : Option Addr) (f : Nat) (l : List Int) (w : World) (hA : Cells w A (ints rs)) (hD : Cells w D (ints l)) (h : (decide (rs.length ≤ 30) && grpOk n rs && comeR n l) = false) :
    Calls Try.prog 17 #[.agg #[.int .i64 n, .slice A rs.length c], .slice D l.length f] w fun e w' => e = .returned (.bool true) ∧ Below w.heap.size w w' := by
  cases hs : decide (rs.length ≤ 30) with
  | false =>
    have HS := Lib.hid hs
    clear h hs
    have HB0 : Hid (Below w.heap.size w (w.alloc (.cells #[.int .i64 n, .slice A rs.length c] 24))) := (Below.refl _ w).alloc (Nat.le_refl _) _
    have HA0 := Lib.hid (hA.below HB0.out (Nat.le_refl _))
    have hgm := Blk.new w (.cells #[.int .i64 n, .slice A rs.length c] 24)
    go_enter Try.func17, Try.ntmps17
    go_wp2_with fail
    obtain ⟨W, hW⟩ : ∃ W, w.alloc (.cells #[.int .i64 n, .slice A rs.length c] 24) = W := ⟨_, rfl⟩
    rw [hW] at HB0 HA0 hgm
    rw [hW]
    have c0 := hgm.cell 0 (v := .int .i64 n) rfl
    have c1 := hgm.cell 1 (v := .slice A rs.length c) rfl
    have hl0 := hgm.lt
    clear hW hgm
    refine (small_any n A rs.length c W).mono ?_
    rintro e w1 ⟨rfl, hB1⟩
    rw [HS.out]
    go_wp2_with (go_at_call 20; go_must (refine (known_any _).mono ?_); rintro e wz ⟨rfl, hBz⟩)
    go_ret
    exact ⟨rfl, below_in HB0.out (below_in hB1 hBz)⟩
  | true =>
    have HS := Lib.hid hs
    cases hg : grpOk n rs with
    | false =>
      have HG := Lib.hid hg
      clear h hs hg
      have HB0 : Hid (Below w.heap.size w (w.alloc (.cells #[.int .i64 n, .slice A rs.length c] 24))) := (Below.refl _ w).alloc (Nat.le_refl _) _
      have HA0 := Lib.hid (hA.below HB0.out (Nat.le_refl _))
      have hgm := Blk.new w (.cells #[.int .i64 n, .slice A rs.length c] 24)
      go_enter Try.func17, Try.ntmps17
      go_wp2_with fail
      obtain ⟨W, hW⟩ : ∃ W, w.alloc (.cells #[.int .i64 n, .slice A rs.length c] 24) = W := ⟨_, rfl⟩
      rw [hW] at HB0 HA0 hgm
      rw [hW]
      have c0 := hgm.cell 0 (v := .int .i64 n) rfl
      have c1 := hgm.cell 1 (v := .slice A rs.length c) rfl
      have hl0 := hgm.lt
      clear hW hgm
      refine (small_any n A rs.length c W).mono ?_
      rintro e w1 ⟨rfl, hB1⟩
      rw [HS.out]
      have x0 := cell_chain hB1 hl0 c0
      have x1 := cell_chain hB1 hl0 c1
      go_wp2_with fail
      clear x0 x1
      refine (group_any n A c rs w1 (HA0.out.below hB1 (Nat.le_refl _))).mono ?_
      rintro e w2 ⟨rfl, hB2⟩
      rw [HG.out]
      have hI2 := below_in hB1 hB2
      go_wp2_with (go_at_call 20; go_must (refine (known_any _).mono ?_); rintro e wz ⟨rfl, hBz⟩)
      go_ret
      exact ⟨rfl, below_in HB0.out (below_in hI2 hBz)⟩
    | true =>
      have hr : comeR n l = false := by rw [hs, hg] at h; simpa using h
      have HG := Lib.hid hg
      have HCR := Lib.hid hr
      clear h hs hg hr
      have HB0 : Hid (Below w.heap.size w (w.alloc (.cells #[.int .i64 n, .slice A rs.length c] 24))) := (Below.refl _ w).alloc (Nat.le_refl _) _
      have HA0 := Lib.hid (hA.below HB0.out (Nat.le_refl _))
      have hgm := Blk.new w (.cells #[.int .i64 n, .slice A rs.length c] 24)
      go_enter Try.func17, Try.ntmps17
      go_wp2_with fail
      obtain ⟨W, hW⟩ : ∃ W, w.alloc (.cells #[.int .i64 n, .slice A rs.length c] 24) = W := ⟨_, rfl⟩
      rw [hW] at HB0 HA0 hgm
      rw [hW]
      have c0 := hgm.cell 0 (v := .int .i64 n) rfl
      have c1 := hgm.cell 1 (v := .slice A rs.length c) rfl
      have hl0 := hgm.lt
      clear hW hgm
      refine (small_any n A rs.length c W).mono ?_
      rintro e w1 ⟨rfl, hB1⟩
      rw [HS.out]
      have x0 := cell_chain hB1 hl0 c0
      have x1 := cell_chain hB1 hl0 c1
      go_wp2_with fail
      clear x0 x1
      refine (group_any n A c rs w1 (HA0.out.below hB1 (Nat.le_refl _))).mono ?_
      rintro e w2 ⟨rfl, hB2⟩
      rw [HG.out]
      have hI2 := below_in hB1 hB2
      have x0 := cell_chain hI2 hl0 c0
      have x1 := cell_chain hI2 hl0 c1
      have HD0 := Lib.hid (hD.below HB0.out (Nat.le_refl _))
      go_wp2_with fail
      clear x0 x1
      refine (Come_any n A c rs D f l w2 (HD0.out.below hI2 (Nat.le_refl _))).mono ?_
      rintro e w3 ⟨rfl, hB3⟩
      rw [HCR.out]
      have hI3 := below_in hI2 hB3
      go_wp2_with (go_at_call 20; go_must (refine (known_any _).mono ?_); rintro e wz ⟨rfl, hBz⟩)
      go_ret
      exact ⟨rfl, below_in HB0.out (below_in hI3 hBz)⟩

set_option maxRecDepth 100000 in
set_option maxHeartbeats 16000000 in
theorem matches_yes (n : Int) (A : Option Addr) (c : Nat) (rs : List Int) (D : Option Addr) (f : Nat) (l : List Int) (w : World) (hA : Cells w A (ints rs)) (hD : Cells w D (ints l)) (h : (decide (rs.length ≤ 30) && grpOk n rs && comeR n l) = true) :
    Calls Try.prog 17 #[.agg #[.int .i64 n, .slice A rs.length c], .slice D l.length f] w fun e w' => e = .returned (.bool true) ∧ Below w.heap.size w w' := by
  simp only [Bool.and_eq_true] at h
  obtain ⟨⟨hs, hg⟩, hr⟩ := h
  have ho : comeI n rs l = true := by
    have e : comeI n rs l = (grpOk n rs && comeR n l) := by unfold comeI comeR; rw [Bool.and_assoc]
    rw [e, hg, hr]; rfl
  have hr' := hr
  simp only [comeR, Bool.and_eq_true, decide_eq_true_eq, Bool.not_eq_true'] at hr'
  obtain ⟨hl60, hbad⟩ := hr'
  obtain ⟨hn1, hn6, hrl, _⟩ := grpOk_true hg
  obtain ⟨N, hN⟩ := Int.eq_ofNat_of_zero_le (show 0 ≤ n by omega)
  have HN : Hid ((N : Int) = n) := hN.symm
  have hl : Hid (∀ x ∈ l, 0 ≤ x ∧ x < (N : Int)) := by
    intro x hx
    have hb : badC n x = false := by
      rw [List.any_eq_false] at hbad
      simpa using hbad x hx
    simp [badC] at hb
    omega
  have hgN : grpOk (N : Int) rs = true := by rw [HN.out]; exact hg
  have hfm : formedA (N : Int) rs (machI N rs) = true := formedA_machI hgN
  have hfl := least_formed hfm
  obtain ⟨q1, hq1, hm1, ho1, _⟩ := run_mach hgN hl.out l.length (Nat.le_refl _)
  have hq2 : ∃ q2, rnTo rs (leastM (machI N rs)) N l l.length = some q2 ∧ q2.many = q1.many ∧ q2.out = q1.out := by
    rcases run_bis hfl hfm (least_bis hfm) ⟨by have := formed_len hfm; omega, by rw [firstA_zero]; exact leastH_zero⟩ hl.out l.length (Nat.le_refl _) with ⟨_, h2⟩ | ⟨q, q', h1, h2, h3, h4, _⟩
    · rw [hq1] at h2; cases h2
    · rw [hq1] at h2
      injection h2 with h2
      subst h2
      exact ⟨q, h1, h3, h4⟩
  obtain ⟨q2, hq2, hm2, ho2⟩ := hq2
  obtain ⟨Mk, hMk⟩ : ∃ Mk : Nat → List Int, (fun k => (qTo rs chFirst N () l k).many) = Mk := ⟨_, rfl⟩
  have HPL1 : Hid (PlayOk N rs l q1.out q1.many Mk) := by
    rw [hm1, ho1, ← hMk]
    exact Lib.hid (qTo_play chFirst_mem)
  have HPL2 : Hid (PlayOk N rs l q2.out q2.many Mk) := by rw [hm2, ho2]; exact HPL1
  have HGD1 : Hid (∀ k, k < l.length → matGood (wTo (fun _ _ _ _ => ()) () rs l q1.out Mk k) k (q1.out.getD k 0) (readyL rs (setQ (incAt (Mk k) (l.getD k 0))))) := by
    intro k hk
    rw [ho1, ← hMk]
    exact mat_good k hk
  have HGD2 : Hid (∀ k, k < l.length → matGood (wTo (fun _ _ _ _ => ()) () rs l q2.out Mk k) k (q2.out.getD k 0) (readyL rs (setQ (incAt (Mk k) (l.getD k 0))))) := by
    rw [ho2]
    exact HGD1
  obtain ⟨M, hMM⟩ : ∃ M, machI (N : Int) rs = M := ⟨_, rfl⟩
  rw [hMM] at hfm hfl hq1 hq2
  obtain ⟨X, hXX⟩ : ∃ X, leastM M = X := ⟨_, rfl⟩
  rw [hXX] at hfl hq2
  have hle : X.length ≤ M.length := by rw [← hXX]; exact leastM_le hfm
  rw [HN.out] at hfm hfl
  have HMR : Hid (machR n rs = M) := by show _ = _; rw [machR_yes hg, ← HN.out]; exact hMM
  have HGE : Hid (errI (grpOk n rs) = 0) := by show _ = _; rw [hg]; rfl
  have HC1 := Lib.hid (formed_compact hfm)
  have HC2 := Lib.hid (formed_compact hfl)
  have HF1 : Hid (formedR n rs M = true) := by show _ = _; rw [← formed_eq M hg]; exact hfm
  have HF2 : Hid (formedR n rs X = true) := by show _ = _; rw [← formed_eq X hg]; exact hfl
  have HLM : Hid (leastMR n rs M = X) := by show _ = _; unfold leastMR; rw [hfm]; exact hXX
  have HLE : Hid (errI (formedA n rs M) = 0) := by show _ = _; rw [hfm]; rfl
  have HR1 : Hid (runB (N : Int) rs M l = true) := by show _ = _; unfold runB; rw [HN.out, ho, hfm]; rfl
  have HR2 : Hid (runB (N : Int) rs X l = true) := by show _ = _; unfold runB; rw [HN.out, ho, hfl]; rfl
  have HQ1 := Lib.hid hq1
  have HQ2 := Lib.hid hq2
  have HS := Lib.hid hs
  have HG := Lib.hid hg
  have HCR := Lib.hid hr
  clear hs hg hr ho hbad hN hgN hfm hfl hq1 hm1 ho1 hq2 hm2 ho2 hMk hMM hXX
  have HB0 : Hid (Below w.heap.size w (w.alloc (.cells #[.int .i64 n, .slice A rs.length c] 24))) := (Below.refl _ w).alloc (Nat.le_refl _) _
  have HA0 := Lib.hid (hA.below HB0.out (Nat.le_refl _))
  have hgm := Blk.new w (.cells #[.int .i64 n, .slice A rs.length c] 24)
  go_enter Try.func17, Try.ntmps17
  go_wp2_with fail
  obtain ⟨W, hW⟩ : ∃ W, w.alloc (.cells #[.int .i64 n, .slice A rs.length c] 24) = W := ⟨_, rfl⟩
  rw [hW] at HB0 HA0 hgm
  rw [hW]
  have c0 := hgm.cell 0 (v := .int .i64 n) rfl
  have c1 := hgm.cell 1 (v := .slice A rs.length c) rfl
  have hl0 := hgm.lt
  clear hW hgm
  refine (small_any n A rs.length c W).mono ?_
  rintro e w1 ⟨rfl, hB1⟩
  rw [HS.out]
  have x0 := cell_chain hB1 hl0 c0
  have x1 := cell_chain hB1 hl0 c1
  go_wp2_with fail
  clear x0 x1
  refine (group_any n A c rs w1 (HA0.out.below hB1 (Nat.le_refl _))).mono ?_
  rintro e w2 ⟨rfl, hB2⟩
  rw [HG.out]
  have hI2 := below_in hB1 hB2
  have x0 := cell_chain hI2 hl0 c0
  have x1 := cell_chain hI2 hl0 c1
  have HD0 := Lib.hid (hD.below HB0.out (Nat.le_refl _))
  go_wp2_with fail
  clear x0 x1
  refine (Come_any n A c rs D f l w2 (HD0.out.below hI2 (Nat.le_refl _))).mono ?_
  rintro e w3 ⟨rfl, hB3⟩
  rw [HCR.out]
  have hI3 := below_in hI2 hB3
  have HGW : Hid (∀ z, Below W.heap.size W z → z.cell? ⟨w.heap.size, 0, none⟩ = some (.int .i64 n) ∧ z.cell? ⟨w.heap.size, 1, none⟩ = some (.slice A rs.length c) ∧ w.heap.size < z.heap.size) := fun z hz => ⟨cell_chain hz hl0 c0, cell_chain hz hl0 c1, Nat.lt_of_lt_of_le hl0 hz.size⟩
  clear c0 c1 hl0
  have t3 := HGW.out w3 hI3
  have x0 := t3.1
  have x1 := t3.2.1
  clear t3
  go_wp2_with fail
  clear x0 x1
  refine (Machine_any n A c rs w3 (HA0.out.below hI3 (Nat.le_refl _))).mono ?_
  rintro e w4 ⟨A4, c4, rfl, hM4, hB4⟩
  rw [HMR.out] at hM4 ⊢
  rw [HGE.out]
  have hI4 := below_in hI3 hB4
  obtain ⟨Y, hY⟩ : ∃ Y, w4.alloc (.cells #[.slice A4 M.length c4] 27) = Y := ⟨_, rfl⟩
  have hb4 : Blk Y w4.heap.size (.cells #[.slice A4 M.length c4] 27) := by rw [← hY]; exact Blk.new _ _
  have h4Y : Below w4.heap.size w4 Y := by rw [← hY]; exact (Below.refl _ w4).alloc (Nat.le_refl _) _
  have hIY := below_in hI4 h4Y
  have HMY := Lib.hid (hM4.below h4Y (Nat.le_refl _))
  have y0 := hb4.cell 0 (v := .slice A4 M.length c4) rfl
  have yl := hb4.lt
  clear hM4 hb4 h4Y hB1 hB2 hB3 hB4 hI2 hI3 hI4
  have t3 := HGW.out Y hIY
  have x0 := t3.1
  have x1 := t3.2.1
  have x2 := t3.2.2
  clear t3
  go_wp2_with fail
  clear x0 x1 x2
  refine (compact_any A4 c4 M Y HMY.out).mono ?_
  rintro e w5 ⟨rfl, hB5⟩
  rw [HC1.out]
  have hI5 := below_in hIY hB5
  have HY5 : Hid (Below Y.heap.size Y w5) := hB5
  have y5 := cell_chain hB5 yl y0
  have yl5 : w4.heap.size < w5.heap.size := Nat.lt_of_lt_of_le yl hB5.size
  have t3 := HGW.out w5 hI5
  have x0 := t3.1
  have x1 := t3.2.1
  have x2 := t3.2.2
  clear t3 hB5
  go_wp2_with fail
  clear x0 x1 x2
  refine (FormedR_any n A c rs A4 c4 M w5 (HA0.out.below hI5 (Nat.le_refl _)) (HMY.out.below HY5.out (Nat.le_refl _)) (by omega)).mono ?_
  rintro e w6 ⟨rfl, hB6⟩
  rw [HF1.out]
  have hI6 := below_in hI5 hB6
  have HY6 : Hid (Below Y.heap.size Y w6) := below_in HY5.out hB6
  have y6 := cell_chain hB6 yl5 y5
  have yl6 : w4.heap.size < w6.heap.size := Nat.lt_of_lt_of_le yl5 hB6.size
  have t3 := HGW.out w6 hI6
  have x0 := t3.1
  have x1 := t3.2.1
  have x2 := t3.2.2
  clear t3 hB6 y5
  go_wp2_with fail
  clear x0 x1 x2
  refine (Least_any n A c rs A4 c4 M w6 (HA0.out.below hI6 (Nat.le_refl _)) (HMY.out.below HY6.out (Nat.le_refl _))).mono ?_
  rintro e w7 ⟨A7, c7, C7, d7, rfl, hM7, _, hB7⟩
  rw [HLM.out] at hM7 ⊢
  rw [HLE.out]
  have hI7 := below_in hI6 hB7
  have hY7 := below_in HY6.out hB7
  have y7 := cell_chain hB7 yl6 y6
  have yl7 : w4.heap.size < w7.heap.size := Nat.lt_of_lt_of_le yl6 hB7.size
  obtain ⟨Z, hZ⟩ : ∃ Z, w7.alloc (.cells #[.slice A7 X.length c7] 27) = Z := ⟨_, rfl⟩
  have hb7 : Blk Z w7.heap.size (.cells #[.slice A7 X.length c7] 27) := by rw [← hZ]; exact Blk.new _ _
  have h7Z : Below w7.heap.size w7 Z := by rw [← hZ]; exact (Below.refl _ w7).alloc (Nat.le_refl _) _
  have hIZ := below_in hI7 h7Z
  have HYZ := Lib.hid (below_in hY7 h7Z)
  have HXZ := Lib.hid (hM7.below h7Z (Nat.le_refl _))
  have z0 := hb7.cell 0 (v := .slice A7 X.length c7) rfl
  have zl := hb7.lt
  have yZ := cell_chain h7Z yl7 y7
  have ylZ : w4.heap.size < Z.heap.size := Nat.lt_of_lt_of_le yl7 h7Z.size
  have t3 := HGW.out Z hIZ
  have x0 := t3.1
  have x1 := t3.2.1
  have x2 := t3.2.2
  have hd1 : decide (M.length < X.length) = false := by simp; omega
  have hd2 : decide ((M.length : Int) < (X.length : Int)) = false := by simp; omega
  clear t3 hM7 hb7 h7Z hB7 y6 y7 yl7 yl6 yl5 hY
  go_wp2_with fail
  clear x0 x1 x2
  refine (compact_any A7 c7 X Z HXZ.out).mono ?_
  rintro e w8 ⟨rfl, hB8⟩
  rw [HC2.out]
  have hI8 := below_in hIZ hB8
  have HZ8 : Hid (Below Z.heap.size Z w8) := hB8
  have z8 := cell_chain hB8 zl z0
  have zl8 : w7.heap.size < w8.heap.size := Nat.lt_of_lt_of_le zl hB8.size
  have y8 := cell_chain hB8 ylZ yZ
  have yl8 : w4.heap.size < w8.heap.size := Nat.lt_of_lt_of_le ylZ hB8.size
  have t3 := HGW.out w8 hI8
  have x0 := t3.1
  have x1 := t3.2.1
  have x2 := t3.2.2
  clear t3 hB8 hZ
  go_wp2_with fail
  clear x0 x1 x2
  refine (FormedR_any n A c rs A7 c7 X w8 (HA0.out.below hI8 (Nat.le_refl _)) (HXZ.out.below HZ8.out (Nat.le_refl _)) (by omega)).mono ?_
  rintro e w9 ⟨rfl, hB9⟩
  rw [HF2.out]
  have hI9 := below_in hI8 hB9
  have HZ9 : Hid (Below Z.heap.size Z w9) := below_in HZ8.out hB9
  have HY9 : Hid (Below Y.heap.size Y w9) := below_in HYZ.out HZ9.out
  have z9 := cell_chain hB9 zl8 z8
  have zl9 : w7.heap.size < w9.heap.size := Nat.lt_of_lt_of_le zl8 hB9.size
  have y9 := cell_chain hB9 yl8 y8
  have yl9 : w4.heap.size < w9.heap.size := Nat.lt_of_lt_of_le yl8 hB9.size
  have t3 := HGW.out w9 hI9
  have x0 := t3.1
  have x1 := t3.2.1
  have x2 := t3.2.2
  have e54 := Run_yes N A c rs A4 c4 M D f l w9 (HA0.out.below hI9 (Nat.le_refl _)) (HMY.out.below HY9.out (Nat.le_refl _)) (HD0.out.below hI9 (Nat.le_refl _)) HR1.out
  rw [HN.out, HQ1.out] at e54
  have H54 := Lib.hid e54
  clear t3 hB9 z8 y8 zl8 yl8 e54
  go_wp2_with fail
  clear x0 x1 x2
  refine H54.out.mono ?_
  rintro e wA ⟨⟨AA, cA, BA, dA, rfl, hCA, hEA⟩, hBA⟩
  have HCA := Lib.hid hCA
  have HEA := Lib.hid hEA
  have hIA := below_in hI9 hBA
  have HZA : Hid (Below Z.heap.size Z wA) := below_in HZ9.out hBA
  have zA := cell_chain hBA zl9 z9
  have zlA : w7.heap.size < wA.heap.size := Nat.lt_of_lt_of_le zl9 hBA.size
  have t3 := HGW.out wA hIA
  have x0 := t3.1
  have x1 := t3.2.1
  have x2 := t3.2.2
  have e54 := Run_yes N A c rs A7 c7 X D f l wA (HA0.out.below hIA (Nat.le_refl _)) (HXZ.out.below HZA.out (Nat.le_refl _)) (HD0.out.below hIA (Nat.le_refl _)) HR2.out
  rw [HN.out, HQ2.out] at e54
  have H54' := Lib.hid e54
  clear t3 hBA hCA hEA z9 y9 zl9 yl9 e54 H54
  go_wp2_with fail
  clear x0 x1 x2
  refine H54'.out.mono ?_
  rintro e wB ⟨⟨AB, cB, BB, dB, rfl, hCB, hEB⟩, hBB⟩
  have HCB := Lib.hid hCB
  have HEB := Lib.hid hEB
  have HAB : Hid (Below wA.heap.size wA wB) := hBB
  have hIB := below_in hIA hBB
  have HIB := Lib.hid hIB
  have t3 := HGW.out wB hIB
  have x0 := t3.1
  have x1 := t3.2.1
  have x2 := t3.2.2
  have e39 := followed_any 69 #[] (σ := Unit) (fun _ => False) (fun _ _ => True) (fun _ _ _ _ => ()) matGood () N A c rs D f l AA cA q1.out BA dA q1.many Mk wB wB (mat_watch _) HPL1.out
    (HA0.out.below hIB (Nat.le_refl _)) (HD0.out.below hIB (Nat.le_refl _)) (HCA.out.below hBB (Nat.le_refl _)) (HEA.out.below hBB (Nat.le_refl _)) (Below.refl _ _) trivial (fun b h => h.elim) (by rw [HN.out]; exact HG.out) hl hl60 HGD1.out
  rw [HN.out] at e39
  have H39 := Lib.hid e39
  clear t3 hBB hCB hEB zA zlA e39
  go_wp2_with fail
  clear x0 x1 x2
  refine H39.out.mono ?_
  rintro e wC ⟨rfl, _, hFC⟩
  have hBC : Below wB.heap.size wB wC := hFC.below (B := wB.heap.size) (fun b h => h.elim) (Nat.le_refl _)
  have hIC := below_in hIB hBC
  have t3 := HGW.out wC hIC
  have x0 := t3.1
  have x1 := t3.2.1
  have x2 := t3.2.2
  have e39 := followed_any 69 #[] (σ := Unit) (fun _ => False) (fun _ _ => True) (fun _ _ _ _ => ()) matGood () N A c rs D f l AB cB q2.out BB dB q2.many Mk wC wC (mat_watch _) HPL2.out
    (HA0.out.below hIC (Nat.le_refl _)) (HD0.out.below hIC (Nat.le_refl _)) (HCB.out.below hBC (Nat.le_refl _)) (HEB.out.below hBC (Nat.le_refl _)) (Below.refl _ _) trivial (fun b h => h.elim) (by rw [HN.out]; exact HG.out) hl hl60 HGD2.out
  rw [HN.out] at e39
  have H39' := Lib.hid e39
  clear t3 hFC H39 e39
  go_wp2_with fail
  clear x0 x1 x2
  refine H39'.out.mono ?_
  rintro e wD ⟨rfl, _, hFD⟩
  have hBD : Below wC.heap.size wC wD := hFD.below (B := wC.heap.size) (fun b h => h.elim) (Nat.le_refl _)
  have HID := Lib.hid (below_in HB0.out (below_in hIC hBD))
  clear hFD
  go_wp2_with (go_at_call 20; go_must (refine (known_any _).mono ?_); rintro e wz ⟨rfl, hBz⟩)
  go_ret
  exact ⟨rfl, below_in HID.out hBz⟩

theorem walk_matches (n : Int) (A : Option Addr) (c : Nat) (rs : List Int) (D : Option Addr) (f : Nat) (l : List Int) (w : World) (hA : Cells w A (ints rs)) (hD : Cells w D (ints l)) :
    Calls Try.prog 17 #[.agg #[.int .i64 n, .slice A rs.length c], .slice D l.length f] w fun e w' => e = .returned (.bool true) ∧ Below w.heap.size w w' := by
  cases h : (decide (rs.length ≤ 30) && grpOk n rs && comeR n l) with
  | false => exact matches_no n A c rs D f l w hA hD h
  | true => exact matches_yes n A c rs D f l w hA hD h
end Go.Proofs.Ytlnonadkdonhmaa

/- AutoMatches returns true for every group and list of messages, and leaves its arguments as they were. No condition. -/
namespace Go.Proofs.Ytlnonadkdonhmaa
open Go.ChangeShapes Go.WideShapes Go.ChangeAt Go.RowKit

theorem own_matches : ownKnob Try.prog.godebug = none := by kernel_rfl
theorem laid_matches : laidOutB Try.prog = true := by kernel_rfl

set_option maxRecDepth 100000 in
theorem lifted_matches (os : Os) (started : os.Started) (H : Type) (enc : TypeId × Value → H) :
    ReturnsInHanded {} Try.checked os 17 .any (Rows.autoMatchesSpec.pre6 enc Try.prog Try.f17 Rows.autoMatchesRow.domain false) (Rows.autoMatchesSpec.post enc Try.prog Try.f17 false true false false) := by
  refine returnsInHanded_of_change_sized (C := Try.checked) own_matches started (by kernel_rfl) Try.func17
    (ChangeSpec.witness6 (enc := enc) (C := Try.checked) false ⟨#[], #[.agg #[.int .i64 0, .slice none 0 0], .slice none 0 0], []⟩ 8 (by kernel_rfl) (by kernel_rfl) (by kernel_rfl) (by kernel_rfl)) ?_
  intro W base args ds gs before hval0 hW hcnd hsz0 _
  have hval : ∀ (j : Nat) t v, Try.f17.params[j]? = some t → args[j]? = some v → Value.okWide Try.prog W .any base t v := hval0
  have hsz : (DataW.weightsEach Try.prog (Try.f17.params.toList ++ Rows.autoMatchesSpec.plain.varTypes Try.prog) (ds ++ gs)).all (· ≤ reachBytes) = true := hsz0
  have hW' := hW
  obtain ⟨p, q, hA0, hV, rfl, hfz, hnd⟩ := hW
  have hA : DataW.TrodAll enc Try.prog W 0 (fun _ => true) true Try.f17.params.toList args.toList ds p := hA0
  rw [Try.params17] at hA hval hsz
  obtain ⟨v0, vs0, d0, ds0, p0, q0, hargs, rfl, rfl, h0, r0⟩ := trodAll_cons hA
  obtain ⟨v1, vs1, d1, ds1, p1, q1, rfl, rfl, rfl, h1, r1⟩ := trodAll_cons r0
  obtain ⟨rfl, rfl, rfl⟩ := trodAll_nil r1
  obtain rfl : args = #[v0, v1] := by cases args; simp_all
  obtain ⟨rfl, rfl⟩ := trodVars_none hV
  have s0 : sz Try.prog 24 d0 := sz_arg hsz (j := 0) rfl rfl
  obtain ⟨n0, A0, rs0, c0, rfl, hC0, hw0⟩ := arg_group (hval 0 24 v0 rfl rfl) h0 s0
  have k0 := h0
  have lt0 : ∀ x ∈ p0, x.block < W.heap.size := by obtain ⟨m, hm⟩ := k0; exact DataW.trod_lt m _ _ _ hm
  have s1 : sz Try.prog 22 d1 := sz_arg hsz (j := 1) rfl rfl
  obtain ⟨D1, xs1, f1, rfl, hC1⟩ := arg_slI (hval 1 22 v1 rfl rfl) h1 s1
  have k1 := h1
  have lt1 : ∀ x ∈ p1, x.block < W.heap.size := by obtain ⟨m, hm⟩ := k1; exact DataW.trod_lt m _ _ _ hm
  clear hA0 hval0
  refine (walk_matches n0 A0 c0 rs0 D1 f1 xs1 W hC0 hC1).mono fun e W' ⟨he, bel⟩ => ?_
  subst he
  exact ⟨_, rfl, _, _, _, [], _, [], hW', trodAll_mk1 (shut_bool Try.underlying4 _), (trodAll_cons_mk (Below.trod laid_matches (by kernel_rfl) (of_decide_eq_true (by kernel_rfl)) k0 bel lt0) (trodAll_cons_mk (Below.trod laid_matches (by kernel_rfl) (of_decide_eq_true (by kernel_rfl)) k1 bel lt1) trodAll_mk0)), rfl, bel.frame _, fun h => by cases h⟩

theorem matches_holds : Rows.AutoMatchesSaid :=
  OpenClaim.holds_of_wide 17 Try.f17 rfl rfl rfl rfl rfl rfl rfl ⟨rfl, rfl, rfl, rfl, rfl⟩ rfl rfl rfl rfl rfl (by kernel_rfl) Try.func17 (by kernel_rfl)
    (of_decide_eq_true (by kernel_rfl)) (by unfold Func.isWrapper; first | (rw [if_pos (by decide +kernel)]; kernel_rfl) | (rw [if_neg (by decide +kernel)]; exact ⟨rfl, rfl⟩))
    (fun os started H enc _ => lifted_matches os started H enc)
#print axioms matches_holds
end Go.Proofs.Ytlnonadkdonhmaa
