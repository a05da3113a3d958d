/- Contracts and lemmas that a claim of this seat uses. -/
import Derived.Test.YtlnonadkdonhmaaL1
import Derived.Test.YtlnonadkdonhmaaL6
import Derived.Test.YtlnonadkdonhmaaL4
import Derived.Test.YtlnonadkdonhmaaL8
import Derived.Test.YtlnonadkdonhmaaL10

/- A region of reading operations of which many are off: each step behind a structure, so that no type is unfolded on the way. -/
namespace Go.Proofs.Ytlnonadkdonhmaa
open Go.RowKit

structure Boxed (p : Prop) : Prop where
  out : p
section
variable {P : Program} {ops : Array Oper} {w : World} {Q : Act → Prop} {a : Act} {o : Oper} {rest : List Oper}
theorem hs_go (h : Boxed (wpStill P ops w Q rest a)) : wpStill P ops w Q rest a := h.out
theorem hs_nil (h : Q a) : Boxed (wpStill P ops w Q [] a) := ⟨wpStill_nil h⟩
theorem hs_off (h : Region.wanted o (yielded ops a.tmps) = false) (hr : Boxed (wpStill P ops w Q rest (a.put o.dst undef))) : Boxed (wpStill P ops w Q (o :: rest) a) := ⟨still_off h hr.out⟩
theorem hs_on (h : Region.wanted o (yielded ops a.tmps) = true) (hr : ∀ K : Act → Prop, Boxed (∀ a, Boxed (wpStill P ops w Q rest a) → K a) → o.still P a w K) : Boxed (wpStill P ops w Q (o :: rest) a) :=
  ⟨still_on h fun K hK => hr K ⟨fun a ha => hK a ha.out⟩⟩
end
end Go.Proofs.Ytlnonadkdonhmaa

/- Two lists of the same integers are told to be the same. -/
namespace Go.Proofs.Ytlnonadkdonhmaa
open Go.RowKit

theorem Ints_refl (xs : List Int) (A B : Option Addr) (c d : Nat) (w : World) (hA : Cells w A (ints xs)) (hB : Cells w B (ints xs)) : Calls Try.prog 32 #[.slice A xs.length c, .slice B xs.length d] w fun e w' => e = .returned (.bool true) ∧ Below w.heap.size w w' := by
  have h := Ints_any xs xs A B c d w hA hB
  rw [decide_eq_true rfl] at h
  exact h
end Go.Proofs.Ytlnonadkdonhmaa

/- Contracts of the reference: Come, Filled, take. -/
namespace Go.Proofs.Ytlnonadkdonhmaa
open Go.RowKit Go.Maps

def comeR (n : Int) (l : List Int) : Bool := decide (l.length ≤ 60) && !(l.any (badC n))

set_option maxRecDepth 100000 in
set_option maxHeartbeats 2000000 in
theorem Come_any (n : Int) (A : Option Addr) (c : Nat) (rs : List Int) (D : Option Addr) (f : Nat) (l : List Int) (w : World) (hD : Cells w D (ints l)) :
    Calls Try.prog 37 #[.agg #[.int .i64 n, .slice A rs.length c], .slice D l.length f] w fun e w' => e = .returned (.bool (comeR n l)) ∧ Below w.heap.size w w' := by
  have hll : l.length ≤ 17592186043904 := by simpa [ints] using hD.1
  have hB1 : Below w.heap.size w (w.alloc (.cells #[.int .i64 n, .slice A rs.length c] 24)) := (Below.refl _ w).alloc (Nat.le_refl _) _
  go_enter Try.func37, Try.ntmps37
  go_wp2
  go_loop [9] (fun i => ∃ k : Nat, k ≤ l.length ∧ i = .int .i64 k ∧ (l.take k).any (badC n) = false) (fun i => l.length - (intOf i).toNat)
  case atStart => exact ⟨0, Nat.zero_le _, rfl, rfl⟩
  case round =>
    obtain ⟨k, hk, rfl, hany⟩ := hrel
    have HAN := Lib.hid hany
    clear hany
    by_cases hlt : k < l.length
    · obtain ⟨x, b, o, hx, hb, hix, hcx⟩ := ints_at (c := f) hD Try.underlying22 szInt hlt
      have HX := Lib.hid hx
      clear hx
      by_cases h0 : x < 0
      · have HB : Hid (comeR n l = false) := by
          show _ = _
          have e : l.any (badC n) = true := List.any_eq_true.2 ⟨x, List.mem_of_getElem? HX.out, by simp [badC, h0]⟩
          simp [comeR, e]
        go_wp2
        go_ret
        exact ⟨by rw [HB.out]; rfl, hB1⟩
      · by_cases h1 : n ≤ x
        · have HB : Hid (comeR n l = false) := by
            show _ = _
            have e : l.any (badC n) = true := List.any_eq_true.2 ⟨x, List.mem_of_getElem? HX.out, by simp [badC, h1]⟩
            simp [comeR, e]
          have hd : decide (x < 0) = false := by simp <;> omega
          go_wp2
          go_ret
          exact ⟨by rw [HB.out]; rfl, hB1⟩
        · have hd : decide (x < 0) = false := by simp <;> omega
          have hd2 : decide (n ≤ x) = false := by simp <;> omega
          go_wp2
          go_round
          case rel => exact ⟨k + 1, by omega, by go_num, any_drop HAN.out HX.out (by simp [badC, h0, h1])⟩
          case measure => simp [intOf]; omega
    · obtain rfl : k = l.length := by omega
      go_wp2
      go_ret
      rw [List.take_length] at HAN
      refine ⟨?_, hB1⟩
      unfold comeR
      rw [HAN.out]
      have e : decide ((l.length : Int) ≤ 60) = decide (l.length ≤ 60) := decide_eq_decide.2 (by omega)
      show Ending.returned (Value.bool (decide ((l.length : Int) ≤ 60))) = _
      rw [e]
      simp

theorem setTo_bd {many : List Int} : ∀ k, k ≤ 6 → 0 ≤ setTo many k ∧ setTo many k < 2 ^ k
  | 0, _ => by simp [setTo]
  | k + 1, hk => by
    obtain ⟨h1, h2⟩ := setTo_bd (many := many) k (by omega)
    have hp : (0 : Int) < 2 ^ k := Int.pow_pos (by decide)
    rw [setTo, Int.pow_succ]
    split
    · rw [or_join (by omega) h1 h2]
      omega
    · omega
theorem setTo_add {many : List Int} {k : Nat} {x : Int} (hk : k < 6) (h : many[k]? = some x) (hx : 0 < x) : setTo many (k + 1) = setTo many k + 2 ^ k := by
  obtain ⟨h1, h2⟩ := setTo_bd (many := many) k (by omega)
  rw [setTo_hit h hx, or_join hk h1 h2]
theorem setQ_isB {many : List Int} (h : many.length ≤ 6) : isB (setQ many) := by
  obtain ⟨h1, h2⟩ := setTo_bd (many := many) many.length h
  have h3 : (2 : Nat) ^ many.length ≤ 2 ^ 6 := Nat.pow_le_pow_right (by decide) h
  have h4 : (2 : Int) ^ many.length ≤ 64 := by exact_mod_cast h3
  exact ⟨h1, by unfold setQ; omega⟩

set_option maxRecDepth 100000 in
set_option maxHeartbeats 2000000 in
theorem Filled_any (many : List Int) (D : Option Addr) (f : Nat) (w : World) (hD : Cells w D (ints many)) (hm : many.length ≤ 6) :
    Calls Try.prog 92 #[.slice D many.length f] w fun e w' => e = .returned (.int .i64 (setQ many)) ∧ w = w' := by
  go_enter Try.func92, Try.ntmps92
  go_wp2
  go_loop [3, 8] (fun s i => ∃ k : Nat, k ≤ many.length ∧ i = .int .i64 k ∧ s = .int .i64 (setTo many k)) (fun _ i => many.length - (intOf i).toNat)
  case atStart => exact ⟨0, Nat.zero_le _, rfl, rfl⟩
  case round =>
    obtain ⟨k, hk, rfl, rfl⟩ := hrel
    by_cases hlt : k < many.length
    · obtain ⟨x, b, o, hx, hb, hix, hcx⟩ := ints_at (c := f) hD Try.underlying22 szInt hlt
      have HX := Lib.hid hx
      have hp := p2_nat (k := k) (by omega)
      have hbd := setTo_bd (many := many) k (by omega)
      have hp6 : (2 : Int) ^ k ≤ 64 := by
        have h3 : (2 : Nat) ^ k ≤ 2 ^ 6 := Nat.pow_le_pow_right (by decide) (by omega)
        exact_mod_cast h3
      obtain ⟨S, HS0, hS1, hS2⟩ : ∃ S, Hid (setTo many k = S) ∧ 0 ≤ S ∧ S ≤ 64 := ⟨_, rfl, hbd.1, by omega⟩
      rw [HS0.out]
      clear hx hbd
      by_cases hpos : 0 < x
      · have HS := Lib.hid (setTo_add (by omega) HX.out hpos)
        rw [HS0.out] at HS
        obtain ⟨T, HT, hT1, hT2⟩ : ∃ T, Hid (S + 2 ^ k = T) ∧ 0 ≤ T ∧ T ≤ 128 := ⟨_, rfl, by have : (0 : Int) < 2 ^ k := Int.pow_pos (by decide); omega, by omega⟩
        have hw : wrap64 (S + 2 ^ k) = T := by rw [HT.out]; exact IntWalk.wrap64_in _ ⟨by omega, by omega⟩
        clear hp6
        go_wp2
        go_round
        case rel => exact ⟨k + 1, by omega, by go_num, by rw [HS.out, HT.out, show wrap64 T = T from IntWalk.wrap64_in _ ⟨by omega, by omega⟩]⟩
        case measure => simp [intOf]; omega
      · have HS := Lib.hid (setTo_miss HX.out hpos)
        go_wp2
        go_round
        case rel => exact ⟨k + 1, by omega, by go_num, by rw [HS.out, HS0.out]⟩
        case measure => simp [intOf]; omega
    · obtain rfl : k = many.length := by omega
      go_wp2
      go_ret
      exact ⟨rfl, rfl⟩

/-! ### take -/
/-- Behind k channels. -/
def decTo (r : Int) (many : List Int) (k : Nat) : List Int := (pickTo (fun i => inI r i) k).foldl decAt many
/-- Each channel of the rule has a message. -/
def okTake (r : Int) (many : List Int) : Bool := allTo (fun i x => !(inI r i) || !(x == 0)) many many.length
theorem decTo_len (r : Int) (many : List Int) (k : Nat) : (decTo r many k).length = many.length := foldl_len _ _
theorem decTo_hit {r : Int} {many : List Int} {k : Nat} (h : inI r k = true) : decTo r many (k + 1) = decAt (decTo r many k) k := by
  unfold decTo; rw [pickTo_hit (p := fun i => inI r i) h, List.foldl_append]; rfl
theorem decTo_miss {r : Int} {many : List Int} {k : Nat} (h : inI r k = false) : decTo r many (k + 1) = decTo r many k := by
  unfold decTo; rw [pickTo_miss (p := fun i => inI r i) h]
theorem decTo_get {r : Int} {many : List Int} : ∀ k j, k ≤ j → (decTo r many k)[j]? = many[j]?
  | 0, _, _ => rfl
  | k + 1, j, h => by
    cases hi : inI r k with
    | false => rw [decTo_miss hi]; exact decTo_get k j (by omega)
    | true =>
      rw [decTo_hit hi]
      unfold decAt
      rw [Int.toNat_natCast, List.getElem?_set_ne (by omega)]
      exact decTo_get k j (by omega)
theorem decTo_takeQ {r : Int} {many : List Int} (h : ∀ x ∈ memL r, x.toNat < many.length) (hm : many.length ≤ 6) : decTo r many many.length = takeQ r many := by
  unfold decTo takeQ memL
  have key : ∀ d, many.length + d ≤ 6 → pickTo (fun i => inI r i) (many.length + d) = pickTo (fun i => inI r i) many.length := by
    intro d
    induction d with
    | zero => intro _; rfl
    | succ d ih =>
      intro hd
      rw [← Nat.add_assoc]
      cases hi : inI r ((many.length + d : Nat) : Int) with
      | false => rw [pickTo_miss (p := fun i => inI r i) hi]; exact ih (by omega)
      | true =>
        have := h _ (memL_mem hi (by omega))
        rw [Int.toNat_natCast] at this
        omega
  have := key (6 - many.length) (by omega)
  rw [show many.length + (6 - many.length) = 6 by omega] at this
  rw [this]

set_option maxRecDepth 100000 in
set_option maxHeartbeats 2000000 in
theorem take_any93 (n : Int) (A : Option Addr) (c : Nat) (rs : List Int) (bD : Nat) (many : List Int) (f k : Nat) (r : Int) (w : World) (hA : Cells w A (ints rs)) (hr : Hid (rs[k]? = some r)) (hb : Blk w bD (.cells (ints many).toArray 3)) (hm : many.length ≤ 6)
    (hAb : ints rs ≠ [] → ∀ a, A = some a → a.block ≠ bD) (hbd : Hid (∀ x ∈ many, -1000 ≤ x ∧ x ≤ 1000)) :
    Calls Try.prog 93 #[.agg #[.int .i64 n, .slice A rs.length c], .slice (some ⟨bD, 0, none⟩) many.length f, .int .i64 k] w fun e w' => e = .returned (.bool (okTake r many)) ∧
      (∃ ms, Blk w' bD (.cells (ints ms).toArray 3) ∧ ms.length = many.length ∧ (okTake r many = true → ms = decTo r many many.length)) ∧ Frame (fun b => b = bD) w w' := by
  have hk : k < rs.length := (List.getElem?_eq_some_iff.1 hr.out).1
  have hbl := hb.lt
  have HB1 : Hid (Blk (w.alloc (.cells #[.int .i64 n, .slice A rs.length c] 24)) bD (.cells (ints many).toArray 3)) := hb.alloc _
  have HAB := Lib.hid hAb
  have hg := Blk.new w (.cells #[.int .i64 n, .slice A rs.length c] 24)
  clear hAb hb
  go_enter Try.func93, Try.ntmps93
  go_wp2
  obtain ⟨W, hW⟩ : ∃ W, w.alloc (.cells #[.int .i64 n, .slice A rs.length c] 24) = W := ⟨_, rfl⟩
  rw [hW] at HB1 hg ⊢
  have hBW : Below w.heap.size w W := by rw [← hW]; exact (Below.refl _ w).alloc (Nat.le_refl _) _
  have HBW := Lib.hid hBW
  have HAW := Lib.hid (hA.below hBW (Nat.le_refl _))
  have c1 := hg.cell 1 (v := .slice A rs.length c) rfl
  have lg := hg.lt
  clear hW hg hBW
  go_loopw [10] (fun i wr => ∃ q : Nat, q ≤ many.length ∧ i = .int .i64 q ∧ Blk wr bD (.cells (ints (decTo r many q)).toArray 3) ∧ Frame (fun b => b = bD) W wr ∧ allTo (fun i x => !(inI r i) || !(x == 0)) many q = true) (fun i _ => many.length - (intOf i).toNat)
  case atStart => exact ⟨0, Nat.zero_le _, rfl, HB1.out, Frame.refl _ _, rfl⟩
  case round =>
    obtain ⟨q, hq, rfl, hbq, hF, hall⟩ := hrel
    have HF := Lib.hid hF
    have HALL := Lib.hid hall
    have HBQ := Lib.hid hbq
    have d1 := cell_frame hF lg (by omega) c1
    have hsz := hF.size
    have HFw : Hid (Frame (fun b => b = bD) w wr) := (Frame.of_all HBW.out).trans hF (fun _ _ e => e)
    obtain ⟨x0, b0, o0, hx0, hb0, hix0, hcx0⟩ := ints_at (c := c) (HAW.out.frame hF HAB.out) Try.underlying22 szInt hk
    obtain rfl : r = x0 := by rw [hr.out] at hx0; injection hx0
    clear hx0 hF hall hbq
    by_cases hlt : q < many.length
    · obtain ⟨x, hx⟩ : ∃ x, Hid (many[q]? = some x) := ⟨_, List.getElem?_eq_getElem hlt⟩
      have hxb := hbd.out x (List.mem_of_getElem? hx.out)
      by_cases hin : inI r q = true
      · have HI := Lib.hid hin
        have hget : (decTo r many q)[q]? = some x := by rw [decTo_get q q (Nat.le_refl _)]; exact hx.out
        have hix := ix_own (b := bD) (n := many.length) (c := f) Try.underlying22 szInt hlt
        have hcx := HBQ.out.cell q (ints_get hget)
        have hfx := HBQ.out.free q
        have HGET := Lib.hid hget
        clear hin hget
        by_cases hx0 : x = 0
        · subst hx0
          have HOK : Hid (okTake r many = false) := allTo_no hx.out (by rw [HI.out]; rfl) hlt
          go_wp2_with (go_at_call 66; refine (has_any r q _ (by omega) (by omega)).mono ?_; rintro e w1 ⟨rfl, rfl⟩; rw [HI.out])
          go_ret
          exact ⟨by rw [HOK.out]; rfl, ⟨_, HBQ.out, decTo_len _ _ _, fun h => by rw [HOK.out] at h; cases h⟩, HFw.out⟩
        · have hne : (x == 0) = false := by simp [hx0]
          have HD : Hid (decTo r many (q + 1) = (decTo r many q).set q (x - 1)) := by
            show _ = _
            rw [decTo_hit HI.out]
            unfold decAt
            rw [Int.toNat_natCast]
            simp only [List.getD, HGET.out, Option.getD_some]
          go_wp2_with (go_at_call 66; refine (has_any r q _ (by omega) (by omega)).mono ?_; rintro e w1 ⟨rfl, rfl⟩; rw [HI.out])
          go_roundw
          case rel =>
            have e := HBQ.out.set q (.int .i64 (x - 1))
            rw [ints_set] at e
            exact ⟨q + 1, by omega, by go_num, by rw [HD.out]; exact e, HF.out.setCell (.inl rfl) _, allTo_step HALL.out hx.out (by rw [hne]; simp)⟩
          case measure => simp [intOf]; omega
      · simp only [Bool.not_eq_true] at hin
        have HI := Lib.hid hin
        clear hin
        go_wp2_with (go_at_call 66; refine (has_any r q _ (by omega) (by omega)).mono ?_; rintro e w1 ⟨rfl, rfl⟩; rw [HI.out])
        go_roundw
        case rel => exact ⟨q + 1, by omega, by go_num, by rw [decTo_miss HI.out]; exact HBQ.out, HF.out, allTo_step HALL.out hx.out (by rw [HI.out]; rfl)⟩
        case measure => simp [intOf]; omega
    · obtain rfl : q = many.length := by omega
      have HOK : Hid (okTake r many = true) := HALL.out
      go_wp2
      go_ret
      exact ⟨by rw [HOK.out]; rfl, ⟨_, HBQ.out, decTo_len _ _ _, fun _ => rfl⟩, HFw.out⟩
end Go.Proofs.Ytlnonadkdonhmaa

/- Contract: Fair of the reference. -/
namespace Go.Proofs.Ytlnonadkdonhmaa
open Go.RowKit Go.Maps

/-- The best of the first j, of the reference: -1, if there are none. -/
def bestR (last rd : List Int) (j : Nat) : Int := if j = 0 then -1 else bestTo last rd j
theorem bestR_one {last rd : List Int} {x : Int} (h : rd[0]? = some x) : bestR last rd 1 = x := by
  unfold bestR
  rw [if_neg (by decide)]
  simp [bestTo, List.getD, h]
theorem bestR_hit {last rd : List Int} {j : Nat} {x u b v : Int} (hj : 0 < j) (hx : rd[j]? = some x) (hb : bestR last rd j = b) (hu : last[x.toNat]? = some u) (hv : last[b.toNat]? = some v) (h : u < v) : bestR last rd (j + 1) = x := by
  unfold bestR at hb ⊢
  rw [if_neg (by omega)] at hb ⊢
  exact bestTo_hit hx hb hu hv h
theorem bestR_miss {last rd : List Int} {j : Nat} {x u b v : Int} (hj : 0 < j) (hx : rd[j]? = some x) (hb : bestR last rd j = b) (hu : last[x.toNat]? = some u) (hv : last[b.toNat]? = some v) (h : ¬ u < v) : bestR last rd (j + 1) = b := by
  unfold bestR at hb ⊢
  rw [if_neg (by omega)] at hb ⊢
  exact bestTo_miss hx hb hu hv h

theorem fair_st_len {rs l : List Int} {N : Nat} : ∀ k, (qTo rs chFair N (List.replicate rs.length 0) l k).st.length = rs.length
  | 0 => by simp [qTo]
  | k + 1 => by
    have ih := fair_st_len (rs := rs) (l := l) (N := N) k
    rw [qTo, qStep]
    split
    · exact ih
    · simp only [chFair, List.length_set]; exact ih

/-- A rule that is ready takes messages that are there. -/
theorem inI_set {many : List Int} {i : Nat} {x : Int} (hm : many.length ≤ 6) (h : many[i]? = some x) (hi : inI (setQ many) i = true) : 0 < x := by
  have key : ∀ k, k ≤ many.length → ∀ j : Nat, j < 6 → inI (setTo many k) j = true → j < k ∧ ∃ y, many[j]? = some y ∧ 0 < y := by
    intro k
    induction k with
    | zero =>
      intro _ j hj h
      exfalso
      have z : ((List.range 6).all fun j => !(inI 0 (j : Int))) = true := by kernel_rfl
      have := List.all_eq_true.1 z j (List.mem_range.2 hj)
      rw [setTo] at h
      rw [h] at this
      cases this
    | succ k ih =>
      intro hk j hj h
      have hx : many[k]? = some many[k] := List.getElem?_eq_getElem (by omega)
      by_cases hp : 0 < many[k]
      · rw [setTo_hit hx hp] at h
        have hb := setTo_bd (many := many) k (by omega)
        have hkB : isB (setTo many k) := by
          have h3 : (2 : Nat) ^ k ≤ 2 ^ 6 := Nat.pow_le_pow_right (by decide) (by omega)
          have h4 : (2 : Int) ^ k ≤ 64 := by exact_mod_cast h3
          exact ⟨hb.1, by omega⟩
        have e := in_full (s := setTo many k) (c := k) (x := j) hkB (by omega) hj
        simp only [fullI, Int.toNat_natCast] at e
        rw [e] at h
        rcases Bool.or_eq_true_iff.1 h with h | h
        · obtain ⟨h1, h2⟩ := ih (by omega) j hj h
          exact ⟨by omega, h2⟩
        · have : j = k := by simpa using h
          subst this
          exact ⟨by omega, _, hx, hp⟩
      · rw [setTo_miss hx hp] at h
        obtain ⟨h1, h2⟩ := ih (by omega) j hj h
        exact ⟨by omega, h2⟩
  have hil := (List.getElem?_eq_some_iff.1 h).1
  obtain ⟨_, y, hy, hp⟩ := key many.length (Nat.le_refl _) i (by omega) hi
  rw [h] at hy
  injection hy with hy
  omega
theorem ready_okTake {rs many : List Int} {r : Int} {x : Int} {i : Nat} (hm : many.length ≤ 6) (hb : bAll rs) (hr : rs[i]? = some r) (hx : x ∈ readyL rs (setQ many)) (hxi : x = i) : okTake r many = true := by
  obtain ⟨j, r', hj, hr', hw⟩ := ready_mem hx
  obtain rfl : j = i := by omega
  rw [hr] at hr'
  injection hr' with hr'
  subst hr'
  have hwi := (within_iff (hb r (List.mem_of_getElem? hr)) (setQ_isB hm)).1 hw
  unfold okTake allTo
  rw [List.all_eq_true]
  intro c hc
  have hc' := List.mem_range.1 hc
  rw [List.getElem?_eq_getElem hc']
  simp only [Option.all_some]
  cases hin : inI r c with
  | false => rfl
  | true =>
    have := inI_set hm (List.getElem?_eq_getElem hc') (hwi c (by omega) hin)
    have hne : (many[c] == 0) = false := by simp; omega
    rw [hne]; rfl

set_option maxRecDepth 100000 in
set_option maxHeartbeats 8000000 in
theorem RefFair_any (N : Nat) (A : Option Addr) (c : Nat) (rs : List Int) (D : Option Addr) (f : Nat) (l : List Int) (w : World) (hA : Cells w A (ints rs)) (hD : Cells w D (ints l)) (hg : grpOk N rs = true) (hl : Hid (∀ x ∈ l, 0 ≤ x ∧ x < (N : Int))) (hll : l.length ≤ 60) :
    Calls Try.prog 38 #[.agg #[.int .i64 (N : Int), .slice A rs.length c], .slice D l.length f] w fun e w' => ∃ A' c' B' d', e = .returned (.tuple #[.slice A' (qTo rs chFair N (List.replicate rs.length 0) l l.length).out.length c', .slice B' (qTo rs chFair N (List.replicate rs.length 0) l l.length).many.length d']) ∧
      Cells w' A' (ints (qTo rs chFair N (List.replicate rs.length 0) l l.length).out) ∧ Cells w' B' (ints (qTo rs chFair N (List.replicate rs.length 0) l l.length).many) ∧ Below w.heap.size w w' := by
  obtain ⟨hn1, hn6, hrl, hgood⟩ := grpOk_true hg
  have HBA := Lib.hid (bAll_of hg)
  have HGood : Hid (∀ r ∈ rs, goodR N r = true) := by rw [List.all_eq_true] at hgood; exact hgood
  obtain ⟨i0, hi, hz0, hz1, hz2⟩ := info_parts info3
  have hgb := Blk.new w (.cells #[.int .i64 (N : Int), .slice A rs.length c] 24)
  clear hg hgood
  have c1' := hgb.cell 1 (v := .slice A rs.length c) rfl
  have HGB := Lib.hid hgb
  have hB0 : Below w.heap.size w (w.alloc (.cells #[.int .i64 (N : Int), .slice A rs.length c] 24)) := (Below.refl _ w).alloc (Nat.le_refl _) _
  have HB0 := Lib.hid hB0
  have HC1 := Lib.hid c1'
  clear hgb hB0 c1'
  go_enter Try.func38, Try.ntmps38
  go_wp2_with (first
    | (at_make; refine wpList_make_full _ rfl _ _ 22 rfl w1.heap.size 3 i0 (.int .i64 0) 1 Try.underlying22 hi hz0 hz1 .i64 .i64 rs.length rs.length rs.length rfl rfl rfl rfl (by rw [hz2]; omega) (by unfold maxLen; omega) (Nat.le_refl _) ?_; intro w2 ho2 hg2)
    | (at_make; refine wpList_make_full _ rfl _ _ 22 rfl (w.alloc (.cells #[.int .i64 (N : Int), .slice A rs.length c] 24)).heap.size 3 i0 (.int .i64 0) 1 Try.underlying22 hi hz0 hz1 .i64 .i64 N N N rfl rfl rfl rfl (by rw [hz2]; omega) (by unfold maxLen; omega) (Nat.le_refl _) ?_; intro w1 ho1 hg1; have d1 := hg1.cell HC1.out (by simp); have hs1 := hg1.size; simp only [World.size_alloc] at hs1; have lg1 : w.heap.size < w1.heap.size := by omega)
    | fail)
  simp only [World.size_alloc] at ho1
  rw [made_ints] at ho1 ho2
  have HG1 : Hid (Below (w.alloc (.cells #[.int .i64 (N : Int), .slice A rs.length c] 24)).heap.size (w.alloc (.cells #[.int .i64 (N : Int), .slice A rs.length c] 24)) w1) := (Below.refl _ _).grown hg1 (Nat.le_refl _) (fun k e => by cases e)
  have HG2 : Hid (Below w1.heap.size w1 w2) := (Below.refl _ _).grown hg2 (Nat.le_refl _) (fun k e => by cases e)
  have HBD : Hid (Blk w2 (w.heap.size + 1) (.cells (ints (List.replicate N 0)).toArray 3)) := (own_full ho1).below HG2.out (own_full ho1).lt
  have HBL : Hid (Blk w2 w1.heap.size (.cells (ints (List.replicate rs.length 0)).toArray 3)) := own_full ho2
  have HGW : Hid (Blk w2 w.heap.size (.cells #[.int .i64 (N : Int), .slice A rs.length c] 24)) := (HGB.out.below HG1.out (by simp)).below HG2.out lg1
  have HB2 : Hid (Below w.heap.size w w2) := (HB0.out.trans (HG1.out.mono (by simp))).trans (HG2.out.mono (by omega))
  have hbl2 := HBL.out.lt
  have hbd1 : w.heap.size + 1 < w1.heap.size := (own_full ho1).lt
  clear ho1 ho2 hg1 hg2 d1
  go_loopw [8, 23] (fun v i wr => ∃ k : Nat, k ≤ l.length ∧ i = .int .i64 k ∧ wr.ownsRow w2.heap.size 3 1 v k (ints (qTo rs chFair N (List.replicate rs.length 0) l k).out) ∧ Blk wr (w.heap.size + 1) (.cells (ints (qTo rs chFair N (List.replicate rs.length 0) l k).many).toArray 3) ∧
      Blk wr w1.heap.size (.cells (ints (qTo rs chFair N (List.replicate rs.length 0) l k).st).toArray 3) ∧ Frame (fun b => b = w.heap.size + 1 ∨ b = w1.heap.size) w2 wr)
    (fun _ i _ => l.length - (intOf i).toNat)
  case atStart => exact ⟨0, Nat.zero_le _, rfl, World.ownsRow_nil _ _ _ _, HBD.out, HBL.out, Frame.refl _ _⟩
  case round =>
    obtain ⟨k, hk, rfl, hown, hbd, hbl, hF⟩ := hrel
    obtain ⟨q, HQT⟩ : ∃ q, Hid (qTo rs chFair N (List.replicate rs.length 0) l k = q) := ⟨_, rfl⟩
    obtain ⟨hok, hol⟩ := qTo_ok (rs := rs) (ch := chFair) (N := N) (s0 := List.replicate rs.length 0) (l := l) (by decide) k
    have hsl := fair_st_len (rs := rs) (l := l) (N := N) k
    rw [HQT.out] at hown hbd hbl hok hol hsl
    have HOWN := Lib.hid hown
    have HD1 := Lib.hid hbd
    have HL1 := Lib.hid hbl
    have HF := Lib.hid hF
    have HOK := Lib.hid hok
    have HOL := Lib.hid hol
    have HSL := Lib.hid hsl
    have HLEN := Lib.hid hok.len
    have hszr := hF.size
    have HFw : Hid (Below w.heap.size w wr) := HB2.out.trans (hF.below (B := w.heap.size) (fun b e => by omega) (by omega))
    have hgw := HGW.out.frame hF (by omega)
    have g0 := hgw.cell 0 (v := .int .i64 (N : Int)) rfl
    have g1 := hgw.cell 1 (v := .slice A rs.length c) rfl
    have HGR := Lib.hid hgw
    have hmlt := hbd.lt
    have hllt := hbl.lt
    have hlgr := hgw.lt
    clear hown hbd hbl hF hok hol hsl hgw
    by_cases hlt : k < l.length
    · obtain ⟨x, bx, ox, hx, hbx, hix, hcx⟩ := ints_at (c := f) (hD.below HFw.out (Nat.le_refl _)) Try.underlying22 szInt hlt
      have hxb := hl.out x (List.mem_of_getElem? hx)
      obtain ⟨x, rfl⟩ := Int.eq_ofNat_of_zero_le hxb.1
      have hxl : x < q.many.length := by rw [HLEN.out]; omega
      obtain ⟨y, hy⟩ : ∃ y, Hid (q.many[x]? = some y) := ⟨_, List.getElem?_eq_getElem hxl⟩
      have hyb := HOK.out.bd y (List.mem_of_getElem? hy.out)
      have HX := Lib.hid hx
      have hxN : x < N := by omega
      have hixq := ix_own (b := w.heap.size + 1) (n := N) (c := N) Try.underlying22 szInt hxN
      have hcq := HD1.out.cell x (ints_get hy.out)
      have hfq := HD1.out.free x
      have hinc : Hid (incAt q.many x = q.many.set x (y + 1)) := by show _ = _; simp [incAt, List.getD, hy.out]
      obtain ⟨m1, HM1⟩ : ∃ m1, Hid (incAt q.many x = m1) := ⟨_, rfl⟩
      obtain ⟨W, HW⟩ : ∃ W, Hid (wr.setCell ⟨w.heap.size + 1, x, none⟩ (.int .i64 (y + 1)) = W) := ⟨_, rfl⟩
      have HFW : Hid (Frame (fun b => b = w.heap.size + 1) wr W) := by
        rw [← HW.out]; exact (Frame.refl (fun b => b = w.heap.size + 1) wr).setCell (p := ⟨w.heap.size + 1, x, none⟩) (.inl rfl) _
      have HOK1 : Hid (QOk N (k + 1) m1) := by rw [← HM1.out]; exact HOK.out.inc x
      have hml1 : m1.length = N := HOK1.out.len
      have HML1 := Lib.hid hml1
      have HDW : Hid (Blk W (w.heap.size + 1) (.cells (ints m1).toArray 3)) := by
        have e := HD1.out.set x (.int .i64 (y + 1))
        rw [ints_set, HW.out, ← hinc.out, HM1.out] at e
        exact e
      have HLW : Hid (Blk W w1.heap.size (.cells (ints q.st).toArray 3)) := HL1.out.frame HFW.out (by omega)
      have HGWW : Hid (Blk W w.heap.size (.cells #[.int .i64 (N : Int), .slice A rs.length c] 24)) := HGR.out.frame HFW.out (by omega)
      have HOW : Hid (W.ownsRow w2.heap.size 3 1 u8 k (ints q.out)) := own_frame HOWN.out HFW.out (fun g hg e => by have := (HOWN.out.lt g hg).1; omega)
      have HFR : Hid (Frame (fun b => b = w.heap.size + 1 ∨ b = w1.heap.size) w2 W) := HF.out.trans HFW.out (fun b _ e => .inl e)
      have hszW := HFW.out.size
      clear hx hml1
      go_wp2
      rw [HW.out]
      clear hcq hfq hixq hix hcx g0 g1
      obtain ⟨rd, HRD⟩ : ∃ rd, Hid (readyL rs (setQ m1) = rd) := ⟨_, rfl⟩
      have w0 := HGWW.out.cell 0 (v := .int .i64 (N : Int)) rfl
      have w1' := HGWW.out.cell 1 (v := .slice A rs.length c) rfl
      have lgW := HGWW.out.lt
      have HAW : Hid (Cells W A (ints rs)) := hA.below (HB2.out.trans (HFR.out.below (B := w.heap.size) (fun b e => by omega) (by omega))) (Nat.le_refl _)
      have HCM : Hid (Cells W (some ⟨w.heap.size + 1, 0, none⟩) (ints m1)) := blk_cells HDW.out (by simp [ints]; have := HML1.out; omega)
      have hm6 : m1.length ≤ 6 := by have := HML1.out; omega
      have HFI : Hid (∀ w', Below W.heap.size W w' → Calls Try.prog 92 #[.slice (some ⟨w.heap.size + 1, 0, none⟩) N N] w' fun e w'' => e = .returned (.int .i64 (setQ m1)) ∧ w'' = w') := by
        intro w' hI
        have e := Filled_any m1 (some ⟨w.heap.size + 1, 0, none⟩) N w' (HCM.out.below hI (Nat.le_refl _)) hm6
        rw [HML1.out] at e
        exact e.mono fun _ _ h => ⟨h.1, h.2.symm⟩
      refine draw (fun w' => Below W.heap.size W w') 6 rfl (by kernel_rfl) (fun Qd hQd => ?_)
      apply anyI_step 0 rfl (by kernel_rfl)
      focus (intro wI hI Kv hKv; have t0 := cell_chain hI lgW w0; have t1 := cell_chain hI lgW w1'; go_simp; exact hKv)
      intro Kd hKd
      go_simp
      refine hKd _ ?_
      clear hKd Kd
      apply anyI_step 1 rfl (by kernel_rfl)
      focus (intro wI hI Kv hKv; have t0 := cell_chain hI lgW w0; have t1 := cell_chain hI lgW w1'; go_simp; exact hKv)
      intro Kd hKd
      go_simp
      refine hKd _ ?_
      clear hKd Kd
      apply anyI_step 5 rfl (by kernel_rfl)
      focus (intro wI hI Kv hKv; have t0 := cell_chain hI lgW w0; have t1 := cell_chain hI lgW w1'; go_simp; exact hKv)
      intro Kd hKd
      go_simp
      refine hKd _ ?_
      clear hKd Kd
      apply anyI_step 2 rfl (by kernel_rfl)
      focus (intro wI hI Kv hKv; go_simp; exact ⟨_, (HFI.out _ hI), hKv⟩)
      intro Kd hKd
      go_simp
      refine hKd _ ?_
      clear hKd Kd
      refine anyI_one' 3 rfl (by kernel_rfl) ((Below.refl _ _).drew) (fun Kd hKd => ?_)
      go_wp2_with (go_at_call 53; go_must (refine (Ready_any N (setQ m1) A c rs _ (by exact HAW.out.drew)).mono ?_); rintro e w4 ⟨R, cR, rfl, hcs, hB4⟩; rw [HRD.out] at hcs; rw [HRD.out])
      have hB4' : Below W.heap.size W w4 := (Below.refl _ W).drew.trans hB4
      apply anyI_step 4 rfl (by kernel_rfl)
      focus (intro wI hI Kv hKv; go_simp; exact hKv)
      intro Kd hKd
      go_simp
      refine hKd _ ?_
      clear hKd Kd
      refine anyI_end (by kernel_rfl) (hB4') (hQd _ _ ?_)
      clear hQd Qd
      have HI4 := Lib.hid hB4'
      have HCS := Lib.hid hcs
      have HF4 : Hid (Frame (fun b => b = w.heap.size + 1 ∨ b = w1.heap.size) w2 w4) := HFR.out.trans (Frame.of_all (S := fun _ => False) hB4') (fun _ _ h => h.elim)
      have HD4 : Hid (Blk w4 (w.heap.size + 1) (.cells (ints m1).toArray 3)) := HDW.out.below hB4' HDW.out.lt
      have HL4 : Hid (Blk w4 w1.heap.size (.cells (ints q.st).toArray 3)) := HLW.out.below hB4' HLW.out.lt
      have HG4 : Hid (Blk w4 w.heap.size (.cells #[.int .i64 (N : Int), .slice A rs.length c] 24)) := HGWW.out.below hB4' HGWW.out.lt
      have HO4 : Hid (w4.ownsRow w2.heap.size 3 1 u8 k (ints q.out)) := own_frame HOW.out (Frame.of_all (S := fun _ => False) hB4') (fun _ _ h => h)
      have hrd : ∀ z ∈ rd, 0 ≤ z ∧ z < rs.length := by rw [← HRD.out]; exact fun z hz => readyL_bd hz
      have HRDB := Lib.hid hrd
      have hs4 := hB4'.size
      have hrl60 : rd.length ≤ 60 := by
        rw [← HRD.out]
        have := pickTo_len (readyP rs (setQ m1)) rs.length
        unfold readyL; omega
      clear hB4 hB4' hcs hrd w0 w1'
      go_wp2
      go_loopw [11, 39] (fun b i wi => ∃ j : Nat, j ≤ rd.length ∧ i = .int .i64 j ∧ b = .int .i64 (bestR q.st rd j) ∧ Frame (fun _ => False) w4 wi) (fun _ i _ => rd.length - (intOf i).toNat)
      case atStart => exact ⟨0, Nat.zero_le _, rfl, rfl, Frame.refl _ _⟩
      case round =>
        obtain ⟨j, hj, rfl, rfl, hFi⟩ := hrel
        have HFi := Lib.hid hFi
        have HLi := Lib.hid (HL4.out.frame hFi (fun h => h))
        have hszi := hFi.size
        clear hFi
        by_cases hjl : j < rd.length
        · obtain ⟨z, b2, o2, hz, hb2, hix2, hcz⟩ := ints_at (c := cR) (HCS.out.frame HFi.out (fun _ _ _ h => h)) Try.underlying22 szInt hjl
          have hzb := HRDB.out z (List.mem_of_getElem? hz)
          obtain ⟨z, rfl⟩ := Int.eq_ofNat_of_zero_le hzb.1
          have hzl : z < rs.length := by omega
          have hzl2 : z < q.st.length := by rw [HSL.out]; exact hzl
          obtain ⟨u, hu⟩ : ∃ u, Hid (q.st[z]? = some u) := ⟨_, List.getElem?_eq_getElem hzl2⟩
          have hixz := ix_own (b := w1.heap.size) (n := rs.length) (c := rs.length) Try.underlying22 szInt hzl
          have hcu := HLi.out.cell z (ints_get hu.out)
          have HZ := Lib.hid hz
          clear hz
          by_cases hj0 : j = 0
          · subst hj0
            have HS : Hid (bestR q.st rd (0 + 1) = (z : Int)) := bestR_one HZ.out
            have HB : Hid (bestR q.st rd 0 = -1) := rfl
            rw [HB.out]
            simp only [Int.natCast_zero] at hix2
            go_wp2
            have HJL := Lib.hid hjl
            clear hix2 hixz hcz hcu hj hjl
            refine sall (by kernel_rfl) (by kernel_rfl) (fun Kq hKq => hs_go ?_)
            repeat (first | (refine hs_on rfl (fun K hK => ?_); go_simp; refine hK.out _ ?_; clear hK K) | (refine hs_off rfl ?_; go_simp))
            refine hs_nil (hKq _ ?_)
            clear hKq Kq
            go_wp2
            go_roundw
            case rel => exact ⟨0 + 1, by have := HJL.out; omega, by go_num, by rw [HS.out], HFi.out.drew⟩
            case measure => simp [intOf]; have := HJL.out; omega
          · have hbm : bestR q.st rd j ∈ rd := by
              unfold bestR
              rw [if_neg hj0]
              exact bestTo_mem (by omega) j hj
            have hbb := HRDB.out _ hbm
            obtain ⟨b, hb⟩ := Int.eq_ofNat_of_zero_le hbb.1
            have hbl' : b < rs.length := by omega
            have hbl2' : b < q.st.length := by rw [HSL.out]; exact hbl'
            obtain ⟨v, hv⟩ : ∃ v, Hid (q.st[b]? = some v) := ⟨_, List.getElem?_eq_getElem hbl2'⟩
            have hixb := ix_own (b := w1.heap.size) (n := rs.length) (c := rs.length) Try.underlying22 szInt hbl'
            have hcv := HLi.out.cell b (ints_get hv.out)
            have HBR := Lib.hid hb
            have hd0 : decide ((b : Int) < 0) = false := by simp
            rw [HBR.out]
            have HJ0 := Lib.hid hj0
            clear hbm hbb hb hj0
            by_cases huv : u < v
            · have HS : Hid (bestR q.st rd (j + 1) = (z : Int)) := bestR_hit (Nat.pos_of_ne_zero HJ0.out) HZ.out HBR.out (by simpa using hu.out) (by simpa using hv.out) huv
              go_wp2
              refine sall (by kernel_rfl) (by kernel_rfl) (fun Kq hKq => ?_)
              repeat still_step
              refine wpStill_nil (hKq _ ?_)
              clear hKq Kq
              go_wp2
              go_roundw
              case rel => exact ⟨j + 1, by omega, by go_num, by rw [HS.out], HFi.out.drew⟩
              case measure => simp [intOf]; omega
            · have HS : Hid (bestR q.st rd (j + 1) = (b : Int)) := bestR_miss (Nat.pos_of_ne_zero HJ0.out) HZ.out HBR.out (by simpa using hu.out) (by simpa using hv.out) huv
              go_wp2
              refine sall (by kernel_rfl) (by kernel_rfl) (fun Kq hKq => ?_)
              repeat still_step
              refine wpStill_nil (hKq _ ?_)
              clear hKq Kq
              go_wp2
              go_roundw
              case rel => exact ⟨j + 1, by omega, by go_num, by rw [HS.out], HFi.out.drew⟩
              case measure => simp [intOf]; omega
        · obtain rfl : j = rd.length := by omega
          have HDi := Lib.hid (HD4.out.frame HFi.out (fun h => h))
          have hgi := HG4.out.frame HFi.out (fun h => h)
          have HGi := Lib.hid hgi
          have HOi := Lib.hid (own_frame HO4.out HFi.out (fun _ _ h => h))
          have HF5 : Hid (Frame (fun b => b = w.heap.size + 1 ∨ b = w1.heap.size) w2 wr) := HF4.out.trans HFi.out (fun _ _ h => h.elim)
          have hol : k ≤ 60 := by omega
          by_cases hne : rd = []
          · subst hne
            have HBR : Hid (bestR q.st [] ([] : List Int).length = -1) := rfl
            have HT : Hid (qTo rs chFair N (List.replicate rs.length 0) l (k + 1) = ⟨m1, q.st, q.out ++ [-1]⟩) := by
              have e := qTo_none HQT.out HX.out (by rw [HM1.out]; exact HRD.out)
              rw [HM1.out] at e
              exact e
            rw [HBR.out]
            clear hgi
            go_wp2_with (at_builtin; go_must (refine wpList_app1' rInt _ rfl _ _ rfl HOi.out rfl [_] 1 rfl rfl (by simp [Value.oneCell']) (by omega) (by omega) ?_); intro vo' w6 ho6 hB6 hg6 hloc6)
            go_roundw
            case rel =>
              have hF6 := Frame.of_grown hg6
              have hn : ∀ b, b < w2.heap.size → ¬ u8.ownBlock = some b := fun b hb e => by have := (HOi.out.lt _ e).1; omega
              refine ⟨k + 1, by omega, by go_num, ?_, ?_, ?_, HF5.out.trans hF6 (fun b hb e => (hn b hb e).elim)⟩
              · rw [HT.out]; simpa [ints] using ho6
              · rw [HT.out]; exact HDi.out.frame hF6 (hn _ (by omega))
              · rw [HT.out]; exact HLi.out.frame hF6 (hn _ (by omega))
            case measure => simp [intOf]; omega
          · have hpos : 0 < rd.length := List.length_pos_iff.2 hne
            have hbe : bestR q.st rd rd.length = bestF q.st rd := by unfold bestR bestF; rw [if_neg (by omega)]
            have hpm : bestF q.st rd ∈ rd := bestTo_mem hpos _ (Nat.le_refl _)
            obtain ⟨hp1, hp2⟩ := HRDB.out _ hpm
            obtain ⟨b, hb⟩ := Int.eq_ofNat_of_zero_le hp1
            have hbl' : b < rs.length := by omega
            have hbl2' : b < q.st.length := by rw [HSL.out]; exact hbl'
            obtain ⟨v, hv⟩ : ∃ v, Hid (q.st[b]? = some v) := ⟨_, List.getElem?_eq_getElem hbl2'⟩
            obtain ⟨r, hr⟩ : ∃ r, Hid (rs[b]? = some r) := ⟨_, List.getElem?_eq_getElem hbl'⟩
            have HBR : Hid (bestR q.st rd rd.length = b) := by rw [hbe]; exact hb
            have hgr := HGood.out r (List.mem_of_getElem? hr.out)
            have HLM : Hid (∀ z ∈ memL r, z.toNat < m1.length) := by
              intro z hz
              have := memL_bd (n := N) (by omega) hgr hz
              rw [HML1.out]
              simpa using this
            have HT : Hid (qTo rs chFair N (List.replicate rs.length 0) l (k + 1) = ⟨takeQ r m1, q.st.set b ((k : Int) + 1), q.out ++ [(b : Int)]⟩) := by
              have e := qTo_some (r := r) HQT.out HX.out (by rw [HM1.out]; exact HRD.out) hne (by simp only [chFair, hb, Int.toNat_natCast]; exact hr.out)
              rw [HM1.out] at e
              simp only [chFair, hb, Int.toNat_natCast] at e
              exact e
            have HOKT : Hid (okTake r m1 = true) := ready_okTake hm6 HBA.out hr.out (by rw [HRD.out]; exact hb ▸ hpm) rfl
            have HBD1 : Hid (∀ z ∈ m1, -1000 ≤ z ∧ z ≤ 1000) := by
              intro z hz
              have := HOK1.out.bd z hz
              push_cast at this
              omega
            have hixb := ix_own (b := w1.heap.size) (n := rs.length) (c := rs.length) Try.underlying22 szInt hbl'
            have hcv := HLi.out.cell b (ints_get hv.out)
            have hfv := HLi.out.free b
            have y0 := hgi.cell 0 (v := .int .i64 (N : Int)) rfl
            have y1 := hgi.cell 1 (v := .slice A rs.length c) rfl
            have hd0 : decide ((0 : Int) ≤ (b : Int)) = true := by simp
            have hNE := Lib.hid hne
            rw [HBR.out]
            clear hbe hpm hp1 hp2 hb hgr hne hgi
            have hAi : Cells wr A (ints rs) := hA.below (HB2.out.trans (HF5.out.below (B := w.heap.size) (fun b e => by omega) (by omega))) (Nat.le_refl _)
            have HAi := Lib.hid hAi
            have hneg : ¬ w.heap.size = w1.heap.size := by omega
            clear hAi
            obtain ⟨V, HV⟩ : ∃ V, Hid (wr.setCell ⟨w1.heap.size, b, none⟩ (.int .i64 ((k : Int) + 1)) = V) := ⟨_, rfl⟩
            have HFV : Hid (Frame (fun b => b = w1.heap.size) wr V) := by
              rw [← HV.out]; exact (Frame.refl (fun b => b = w1.heap.size) wr).setCell (p := ⟨w1.heap.size, b, none⟩) (.inl rfl) _
            have HDV : Hid (Blk V (w.heap.size + 1) (.cells (ints m1).toArray 3)) := HDi.out.frame HFV.out (by omega)
            have HLV : Hid (Blk V w1.heap.size (.cells (ints (q.st.set b ((k : Int) + 1))).toArray 3)) := by
              have e := HLi.out.set b (.int .i64 ((k : Int) + 1))
              rw [ints_set, HV.out] at e
              exact e
            have HOV : Hid (V.ownsRow w2.heap.size 3 1 u8 k (ints q.out)) := own_frame HOi.out HFV.out (fun g hg e => by have := (HOi.out.lt g hg).1; omega)
            have HAV : Hid (Cells V A (ints rs)) := HAi.out.frame HFV.out (fun hn a ha e => by have := hA.lt hn ha; omega)
            have HAP : Hid (ints rs ≠ [] → ∀ a, A = some a → a.block ≠ w.heap.size + 1) := fun hn a ha e => by have := hA.lt hn ha; omega
            go_wp2_with fail
            rw [HV.out]
            have e93 := take_any93 N A c rs (w.heap.size + 1) m1 N b r V HAV.out hr HDV.out hm6 HAP.out HBD1
            rw [HML1.out] at e93
            refine e93.mono ?_
            rintro e w5 ⟨rfl, ⟨ms, hms, hml, hmt⟩, hF5⟩
            have hmt := hmt HOKT.out
            rw [← HML1.out, decTo_takeQ HLM.out hm6] at hmt
            subst hmt
            have HM5 := Lib.hid hms
            have HF5' := Lib.hid hF5
            have HL5 : Hid (Blk w5 w1.heap.size (.cells (ints (q.st.set b ((k : Int) + 1))).toArray 3)) := HLV.out.frame hF5 (by omega)
            have HO5 : Hid (w5.ownsRow w2.heap.size 3 1 u8 k (ints q.out)) := own_frame HOV.out hF5 (fun g hg e => by have := (HOV.out.lt _ hg).1; omega)
            have HFa : Hid (Frame (fun b => b = w.heap.size + 1 ∨ b = w1.heap.size) w2 w5) := (HF5.out.trans HFV.out (fun _ _ e => .inr e)).trans hF5 (fun _ _ e => .inl e)
            have hsz5 := hF5.size
            have hszV := HFV.out.size
            clear hms hml hF5 e93
            go_wp2_with (at_builtin; go_must (refine wpList_app1' rInt _ rfl _ _ rfl HO5.out rfl [_] 1 rfl rfl (by simp [Value.oneCell']) (by omega) (by omega) ?_); intro vo' w6 ho6 hB6 hg6 hloc6)
            go_roundw
            case rel =>
              have hF6 := Frame.of_grown hg6
              have hn : ∀ b, b < w2.heap.size → ¬ u8.ownBlock = some b := fun b hb e => by have := (HO5.out.lt _ e).1; omega
              refine ⟨k + 1, by omega, by go_num, ?_, ?_, ?_, HFa.out.trans hF6 (fun b hb e => (hn b hb e).elim)⟩
              · rw [HT.out]; simpa [ints] using ho6
              · rw [HT.out]; exact HM5.out.frame hF6 (hn _ (by omega))
              · rw [HT.out]; exact HL5.out.frame hF6 (hn _ (by omega))
            case measure => simp [intOf]; omega
    · obtain rfl : k = l.length := by omega
      obtain ⟨A', c', hv, hnew⟩ := own_new HOWN.out (by have := HOL.out; simp [ints]; omega)
      subst hv
      have hq1 := HOL.out
      have hq2 := HLEN.out
      go_wp2
      go_ret2
      rw [HQT.out]
      refine ⟨A', c', some ⟨w.heap.size + 1, 0, none⟩, N, by rw [hq1, hq2]; rfl, hnew.1, blk_cells HD1.out (by simp [ints]; omega), HFw.out⟩
end Go.Proofs.Ytlnonadkdonhmaa
