/- Contracts and lemmas that a claim of this seat uses. -/
import Derived.Test.YtlnonadkdonhmaaL6
import Derived.Test.YtlnonadkdonhmaaL9
import Derived.Test.YtlnonadkdonhmaaL12
import Derived.Test.YtlnonadkdonhmaaL4
import Derived.Test.YtlnonadkdonhmaaL11

/- Contracts: picks. -/
namespace Go.Proofs.Ytlnonadkdonhmaa
open Go.RowKit Go.Maps

def negB (x : Int) : Bool := decide (x < 0)
def picksB (p : List Int) : Bool := !(p.any negB) && decide (p.length ≤ 60)

set_option maxRecDepth 100000 in
set_option maxHeartbeats 2000000 in
theorem Picks_any (p : List Int) (A : Option Addr) (c : Nat) (w : World) (hA : Cells w A (ints p)) :
    Calls Try.prog 45 #[.slice A p.length c] w fun e w' => e = .returned (.bool (picksB p)) ∧ w = w' := by
  have hll : p.length ≤ 17592186043904 := by simpa [ints] using hA.1
  go_enter Try.func45, Try.ntmps45
  go_wp2
  go_loop [7] (fun i => ∃ k : Nat, k ≤ p.length ∧ i = .int .i64 k ∧ (p.take k).any negB = false) (fun i => p.length - (intOf i).toNat)
  case atStart => exact ⟨0, Nat.zero_le _, rfl, rfl⟩
  case round =>
    obtain ⟨k, hk, rfl, hany⟩ := hrel
    have HAN := Lib.hid hany
    clear hany
    by_cases hlt : k < p.length
    · obtain ⟨x, bb, o, hx, hb, hix, hcx⟩ := ints_at (c := c) hA Try.underlying22 szInt hlt
      have HX := Lib.hid hx
      clear hx
      cases hbad : decide (x < 0) with
      | true =>
        have HI : Hid (picksB p = false) := by show _ = _; unfold picksB; rw [any_yes HX.out (show negB x = true from hbad)]; rfl
        go_wp2
        go_ret
        exact ⟨by rw [HI.out]; rfl, rfl⟩
      | false =>
        go_wp2
        go_round
        case rel => exact ⟨k + 1, by omega, by go_num, any_drop HAN.out HX.out hbad⟩
        case measure => simp [intOf]; omega
    · obtain rfl : k = p.length := by omega
      have HI : Hid (picksB p = decide (p.length ≤ 60)) := by
        show _ = _
        have e := HAN.out
        rw [List.take_length] at e
        unfold picksB
        rw [e]
        rfl
      go_wp2
      go_ret
      exact ⟨by rw [HI.out]; simp; try omega, rfl⟩

set_option maxRecDepth 100000 in
set_option maxHeartbeats 1000000 in
theorem neg1_any (x : Int) (w : World) : Calls Try.prog 98 #[.int .i64 x] w fun e w' => e = .returned (.bool (negB x)) ∧ w = w' := by
  go_enter Try.func98, Try.ntmps98
  go_wp2
  go_ret
  exact ⟨rfl, rfl⟩

def idxNeg (l : List Int) : Int := match l.findIdx? negB with | some k => k | none => -1

set_option maxRecDepth 100000 in
set_option maxHeartbeats 2000000 in
theorem indexNeg_any (l : List Int) (A : Option Addr) (c : Nat) (w : World) (hA : Cells w A (ints l)) :
    Calls Try.prog 119 #[.slice A l.length c, .func (.func 98) #[] #[]] w fun e w' => e = .returned (.int .i64 (idxNeg l)) ∧ w = w' := by
  have hll : l.length ≤ 17592186043904 := by simpa [ints] using hA.1
  go_enter Try.func119, Try.ntmps119
  go_wp2
  go_loop [8] (fun i => ∃ k : Nat, k ≤ l.length ∧ i = .int .i64 k ∧ (l.take k).any negB = false) (fun i => l.length - (intOf i).toNat)
  case atStart => exact ⟨0, Nat.zero_le _, rfl, rfl⟩
  case round =>
    obtain ⟨k, hk, rfl, hany⟩ := hrel
    have HAN := Lib.hid hany
    clear hany
    by_cases hlt : k < l.length
    · obtain ⟨x, bb, o, hx, hb, hix, hcx⟩ := ints_at (c := c) hA Try.underlying22 szInt hlt
      have HX := Lib.hid hx
      clear hx
      cases hbad : negB x with
      | true =>
        have HI : Hid (idxNeg l = k) := by show _ = _; unfold idxNeg; rw [findIdx_hit HAN.out HX.out hbad]
        go_wp2_with (go_at_call 98; go_must (refine (neg1_any x w).mono ?_); rintro e w1 ⟨rfl, rfl⟩; rw [hbad])
        go_ret
        exact ⟨by rw [HI.out]; rfl, rfl⟩
      | false =>
        go_wp2_with (go_at_call 98; go_must (refine (neg1_any x w).mono ?_); rintro e w1 ⟨rfl, rfl⟩; rw [hbad])
        go_round
        case rel => exact ⟨k + 1, by omega, by go_num, any_drop HAN.out HX.out hbad⟩
        case measure => simp [intOf]; omega
    · obtain rfl : k = l.length := by omega
      have HI : Hid (idxNeg l = -1) := by
        show _ = _
        unfold idxNeg
        have e := HAN.out
        rw [List.take_length] at e
        rw [findIdx_no e]
      go_wp2
      go_ret
      exact ⟨by rw [HI.out]; rfl, rfl⟩

theorem idxNeg_ge (l : List Int) : decide (0 ≤ idxNeg l) = l.any negB := by
  unfold idxNeg
  cases h : l.findIdx? negB with
  | some k =>
    rw [List.findIdx?_eq_some_iff_getElem] at h
    obtain ⟨hk, hp, _⟩ := h
    rw [List.any_eq_true.2 ⟨_, List.getElem_mem hk, hp⟩]
    simp
  | none =>
    have e : l.any negB = false := by
      rw [List.any_eq_false]
      intro x hx
      have := List.findIdx?_eq_none_iff.1 h x hx
      simp [this]
    rw [e]
    rfl

set_option maxRecDepth 100000 in
set_option maxHeartbeats 1000000 in
theorem containsNeg_any (l : List Int) (A : Option Addr) (c : Nat) (w : World) (hA : Cells w A (ints l)) :
    Calls Try.prog 97 #[.slice A l.length c, .func (.func 98) #[] #[]] w fun e w' => e = .returned (.bool (l.any negB)) ∧ w = w' := by
  go_enter Try.func97, Try.ntmps97
  go_wp2_with (go_at_call 119; go_must (refine (indexNeg_any l A c w hA).mono ?_); rintro e w1 ⟨rfl, rfl⟩)
  go_ret
  exact ⟨by rw [← idxNeg_ge]; rfl, rfl⟩

/-- The choice by picks. -/
def chPick (p : List Int) (_ : Unit) (i : Nat) (rd : List Int) : Int × Unit := (rd.getD ((p.getD i 0).toNat % rd.length) 0, ())
theorem chPick_mem (p : List Int) (u : Unit) (i : Nat) (rd : List Int) (h : rd ≠ []) : (chPick p u i rd).1 ∈ rd := by
  have hpos : 0 < rd.length := List.length_pos_iff.2 h
  have hlt := Nat.mod_lt (p.getD i 0).toNat hpos
  show rd.getD ((p.getD i 0).toNat % rd.length) 0 ∈ rd
  rw [List.getD, List.getElem?_eq_getElem hlt]
  exact List.getElem_mem hlt

set_option maxRecDepth 100000 in
set_option maxHeartbeats 2000000 in
theorem pick2_any (p : List Int) (A : Option Addr) (c : Nat) (bp : Nat) (i : Nat) (rd : List Int) (R : Option Addr) (cR : Nat) (w : World) (hA : Cells w A (ints p)) (hR : Cells w R (ints rd)) (hc : w.cell? ⟨bp, 0, none⟩ = some (.slice A p.length c))
    (hne : 0 < rd.length) (hp : Hid (∀ x ∈ p, 0 ≤ x)) :
    Calls Try.prog 99 #[.int .i64 (i : Int), .slice R rd.length cR, .pointer (some ⟨bp, 0, none⟩)] w fun e w' => e = .returned (.int .i64 (rd.getD ((p.getD i 0).toNat % rd.length) 0)) ∧ w = w' := by
  have hll : p.length ≤ 17592186043904 := by simpa [ints] using hA.1
  by_cases hlt : i < p.length
  · obtain ⟨x, bb, o, hx, hb, hix, hcx⟩ := ints_at (c := c) hA Try.underlying22 szInt hlt
    have hx0 := hp.out x (List.mem_of_getElem? hx)
    obtain ⟨x, rfl⟩ := Int.eq_ofNat_of_zero_le hx0
    obtain ⟨z, b2, o2, hz, hb2, hix2, hcz⟩ := ints_at (c := cR) hR Try.underlying22 szInt (Nat.mod_lt x hne)
    simp only [Int.natCast_emod] at hix2
    have HS : Hid (rd.getD ((p.getD i 0).toNat % rd.length) 0 = z) := by
      show _ = _
      simp [List.getD, hx, hz]
    clear hx hz hx0
    rw [HS.out]
    go_enter Try.func99, Try.ntmps99
    go_wp2
    go_ret
    exact ⟨rfl, rfl⟩
  · obtain ⟨z, b2, o2, hz, hb2, hix2, hcz⟩ := ints_at (c := cR) hR Try.underlying22 szInt hne
    have HS : Hid (rd.getD ((p.getD i 0).toNat % rd.length) 0 = z) := by
      show _ = _
      have e : p[i]? = none := List.getElem?_eq_none (by omega)
      simp [List.getD, e, hz]
    simp only [Int.natCast_zero] at hix2
    have hd : decide ((i : Int) < (p.length : Int)) = false := by simp <;> omega
    clear hz
    rw [HS.out]
    go_enter Try.func99, Try.ntmps99
    go_wp2
    go_ret
    exact ⟨rfl, rfl⟩

/-- What picks keep: the box of the picks, and the picks. -/
def PickI (b : Nat) (A : Option Addr) (c : Nat) (p : List Int) (_ : Unit) (w : World) : Prop := Blk w b (.cells #[.slice A p.length c] 22) ∧ Cells w A (ints p)
theorem pick_choice (b : Nat) (A : Option Addr) (c : Nat) (p : List Int) (L : Nat) (hp : Hid (∀ x ∈ p, 0 ≤ x)) :
    ChoiceOk 99 (.pointer (some ⟨b, 0, none⟩)) L (fun _ => False) (fun x => x = b ∨ (ints p ≠ [] ∧ ∃ a, A = some a ∧ x = a.block)) (PickI b A c p) (chPick p) where
  enter := enters_of Try.func99 (by kernel_rfl) rfl
  keep := fun s T w w' h hF hn => ⟨h.1.frame hF (hn _ (.inl rfl)), h.2.frame hF (fun hx a ha => hn _ (.inr ⟨hx, a, ha, rfl⟩))⟩
  sub := fun b h => h.elim
  mem := fun s i rd h => chPick_mem p s i rd h
  calls := by
    rintro s i rd R cR w ⟨h1, h2⟩ hne hrd hi hR
    refine (pick2_any p A c b i rd R cR w h2 hR (h1.cell 0 (v := .slice A p.length c) rfl) (List.length_pos_iff.2 hne) hp).mono ?_
    rintro e w' ⟨rfl, rfl⟩
    exact ⟨rfl, ⟨h1, h2⟩, Frame.refl _ _⟩
end Go.Proofs.Ytlnonadkdonhmaa

/- Contract: auto.Picked. -/
namespace Go.Proofs.Ytlnonadkdonhmaa
open Go.RowKit Go.Maps

def pickedQ (n : Int) (rs l p : List Int) : QSt Unit := qTo rs (chPick p) n.toNat () l l.length
def pickedB (n : Int) (rs l p : List Int) : Bool := comeI n rs l && picksB p
def pickedR (n : Int) (rs l p : List Int) : List Int := if pickedB n rs l p then (pickedQ n rs l p).out else []
def pickedL (n : Int) (rs l p : List Int) : List Int := if pickedB n rs l p then (pickedQ n rs l p).many else []


set_option maxRecDepth 100000 in
set_option maxHeartbeats 4000000 in
theorem Picked_no (n : Int) (A : Option Addr) (c : Nat) (rs : List Int) (D : Option Addr) (f : Nat) (l : List Int) (E : Option Addr) (g : Nat) (p : List Int) (w : World) (hA : Cells w A (ints rs)) (hD : Cells w D (ints l)) (hE : Cells w E (ints p)) (hb : pickedB n rs l p = false) :
    Calls Try.prog 46 #[.agg #[.int .i64 n, .slice A rs.length c], .slice D l.length f, .slice E p.length g] w fun e w' => e = .returned (.tuple #[.slice none 0 0, .slice none 0 0, .int .i64 2]) ∧ Below w.heap.size w w' := by
  have hpl : p.length ≤ 17592186043904 := by simpa [ints] using hE.1
  cases hc : comeI n rs l with
  | false =>
    have HC := Lib.hid hc
    clear hc hb
    have HB0 : Hid (Below w.heap.size w ((w.alloc (.cells #[.int .i64 n, .slice A rs.length c] 24)).alloc (.cells #[.slice E p.length g] 22))) := ((Below.refl _ w).alloc (Nat.le_refl _) _).alloc (by simp) _
    have HA0 := Lib.hid (hA.below HB0.out (Nat.le_refl _))
    have HD0 := Lib.hid (hD.below HB0.out (Nat.le_refl _))
    have HE0 := Lib.hid (hE.below HB0.out (Nat.le_refl _))
    have hg0 : Blk ((w.alloc (.cells #[.int .i64 n, .slice A rs.length c] 24)).alloc (.cells #[.slice E p.length g] 22)) w.heap.size (.cells #[.int .i64 n, .slice A rs.length c] 24) := (Blk.new _ _).alloc _
    have hp0 : Blk ((w.alloc (.cells #[.int .i64 n, .slice A rs.length c] 24)).alloc (.cells #[.slice E p.length g] 22)) (w.heap.size + 1) (.cells #[.slice E p.length g] 22) := by
      have e := Blk.new (w.alloc (.cells #[.int .i64 n, .slice A rs.length c] 24)) (.cells #[.slice E p.length g] 22)
      rw [World.size_alloc] at e
      exact e
    go_enter Try.func46, Try.ntmps46
    go_wp2_with fail
    obtain ⟨W, hW⟩ : ∃ W, (w.alloc (.cells #[.int .i64 n, .slice A rs.length c] 24)).alloc (.cells #[.slice E p.length g] 22) = W := ⟨_, rfl⟩
    rw [hW] at HB0 HA0 HD0 HE0 hg0 hp0
    rw [hW]
    clear hW
    have hl0 := hg0.lt
    have hl1 := hp0.lt
    have c0 := hg0.cell 0 (v := .int .i64 n) rfl
    have c1 := hg0.cell 1 (v := .slice A rs.length c) rfl
    have c2 := hp0.cell 0 (v := .slice E p.length g) rfl
    have HP0 := Lib.hid hp0
    clear hg0 hp0
    refine (come_any n A c rs D f l W HA0.out HD0.out).mono ?_
    rintro e w1 ⟨rfl, hB1⟩
    rw [HC.out]
    have d0 := cell_chain hB1 hl0 c0
    have d1 := cell_chain hB1 hl0 c1
    have d2 := cell_chain hB1 hl1 c2
    clear c0 c1 c2
    go_wp2
    exact bodyPost_ret (v := .tuple #[.slice none 0 0, .slice none 0 0, .int .i64 2]) (results_ttt rfl rfl rfl rfl) rfl ⟨rfl, below_in HB0.out hB1⟩
  | true =>
    by_cases hp : 60 < p.length
    · have HC := Lib.hid hc
      have hd : decide ((60 : Int) < (p.length : Int)) = true := by simp <;> omega
      clear hc hb hp
      have HB0 : Hid (Below w.heap.size w ((w.alloc (.cells #[.int .i64 n, .slice A rs.length c] 24)).alloc (.cells #[.slice E p.length g] 22))) := ((Below.refl _ w).alloc (Nat.le_refl _) _).alloc (by simp) _
      have HA0 := Lib.hid (hA.below HB0.out (Nat.le_refl _))
      have HD0 := Lib.hid (hD.below HB0.out (Nat.le_refl _))
      have HE0 := Lib.hid (hE.below HB0.out (Nat.le_refl _))
      have hg0 : Blk ((w.alloc (.cells #[.int .i64 n, .slice A rs.length c] 24)).alloc (.cells #[.slice E p.length g] 22)) w.heap.size (.cells #[.int .i64 n, .slice A rs.length c] 24) := (Blk.new _ _).alloc _
      have hp0 : Blk ((w.alloc (.cells #[.int .i64 n, .slice A rs.length c] 24)).alloc (.cells #[.slice E p.length g] 22)) (w.heap.size + 1) (.cells #[.slice E p.length g] 22) := by
        have e := Blk.new (w.alloc (.cells #[.int .i64 n, .slice A rs.length c] 24)) (.cells #[.slice E p.length g] 22)
        rw [World.size_alloc] at e
        exact e
      go_enter Try.func46, Try.ntmps46
      go_wp2_with fail
      obtain ⟨W, hW⟩ : ∃ W, (w.alloc (.cells #[.int .i64 n, .slice A rs.length c] 24)).alloc (.cells #[.slice E p.length g] 22) = W := ⟨_, rfl⟩
      rw [hW] at HB0 HA0 HD0 HE0 hg0 hp0
      rw [hW]
      clear hW
      have hl0 := hg0.lt
      have hl1 := hp0.lt
      have c0 := hg0.cell 0 (v := .int .i64 n) rfl
      have c1 := hg0.cell 1 (v := .slice A rs.length c) rfl
      have c2 := hp0.cell 0 (v := .slice E p.length g) rfl
      have HP0 := Lib.hid hp0
      clear hg0 hp0
      refine (come_any n A c rs D f l W HA0.out HD0.out).mono ?_
      rintro e w1 ⟨rfl, hB1⟩
      rw [HC.out]
      have d0 := cell_chain hB1 hl0 c0
      have d1 := cell_chain hB1 hl0 c1
      have d2 := cell_chain hB1 hl1 c2
      clear c0 c1 c2
      go_wp2
      exact bodyPost_ret (v := .tuple #[.slice none 0 0, .slice none 0 0, .int .i64 2]) (results_ttt rfl rfl rfl rfl) rfl ⟨rfl, below_in HB0.out hB1⟩
    · have HC := Lib.hid hc
      have hd : decide ((60 : Int) < (p.length : Int)) = false := by simp <;> omega
      have hn : p.any negB = true := by
        unfold pickedB picksB at hb
        rw [hc, decide_eq_true (show p.length ≤ 60 by omega)] at hb
        simpa using hb
      have HN := Lib.hid hn
      clear hc hb hp hn
      have HB0 : Hid (Below w.heap.size w ((w.alloc (.cells #[.int .i64 n, .slice A rs.length c] 24)).alloc (.cells #[.slice E p.length g] 22))) := ((Below.refl _ w).alloc (Nat.le_refl _) _).alloc (by simp) _
      have HA0 := Lib.hid (hA.below HB0.out (Nat.le_refl _))
      have HD0 := Lib.hid (hD.below HB0.out (Nat.le_refl _))
      have HE0 := Lib.hid (hE.below HB0.out (Nat.le_refl _))
      have hg0 : Blk ((w.alloc (.cells #[.int .i64 n, .slice A rs.length c] 24)).alloc (.cells #[.slice E p.length g] 22)) w.heap.size (.cells #[.int .i64 n, .slice A rs.length c] 24) := (Blk.new _ _).alloc _
      have hp0 : Blk ((w.alloc (.cells #[.int .i64 n, .slice A rs.length c] 24)).alloc (.cells #[.slice E p.length g] 22)) (w.heap.size + 1) (.cells #[.slice E p.length g] 22) := by
        have e := Blk.new (w.alloc (.cells #[.int .i64 n, .slice A rs.length c] 24)) (.cells #[.slice E p.length g] 22)
        rw [World.size_alloc] at e
        exact e
      go_enter Try.func46, Try.ntmps46
      go_wp2_with fail
      obtain ⟨W, hW⟩ : ∃ W, (w.alloc (.cells #[.int .i64 n, .slice A rs.length c] 24)).alloc (.cells #[.slice E p.length g] 22) = W := ⟨_, rfl⟩
      rw [hW] at HB0 HA0 HD0 HE0 hg0 hp0
      rw [hW]
      clear hW
      have hl0 := hg0.lt
      have hl1 := hp0.lt
      have c0 := hg0.cell 0 (v := .int .i64 n) rfl
      have c1 := hg0.cell 1 (v := .slice A rs.length c) rfl
      have c2 := hp0.cell 0 (v := .slice E p.length g) rfl
      have HP0 := Lib.hid hp0
      clear hg0 hp0
      refine (come_any n A c rs D f l W HA0.out HD0.out).mono ?_
      rintro e w1 ⟨rfl, hB1⟩
      rw [HC.out]
      have d0 := cell_chain hB1 hl0 c0
      have d1 := cell_chain hB1 hl0 c1
      have d2 := cell_chain hB1 hl1 c2
      clear c0 c1 c2
      go_wp2_with (go_at_call 97; go_must (refine (containsNeg_any p E g w1 (HE0.out.below hB1 (Nat.le_refl _))).mono ?_); rintro e w2 ⟨rfl, rfl⟩; rw [HN.out])
      exact bodyPost_ret (v := .tuple #[.slice none 0 0, .slice none 0 0, .int .i64 2]) (results_ttt rfl rfl rfl rfl) rfl ⟨rfl, below_in HB0.out hB1⟩

set_option maxRecDepth 100000 in
set_option maxHeartbeats 4000000 in
theorem Picked_yes (N : Nat) (A : Option Addr) (c : Nat) (rs : List Int) (D : Option Addr) (f : Nat) (l : List Int) (E : Option Addr) (g : Nat) (p : List Int) (w : World) (hA : Cells w A (ints rs)) (hD : Cells w D (ints l)) (hE : Cells w E (ints p)) (hc : comeI (N : Int) rs l = true) (hpb : picksB p = true) :
    Calls Try.prog 46 #[.agg #[.int .i64 (N : Int), .slice A rs.length c], .slice D l.length f, .slice E p.length g] w fun e w' => ∃ A' c' B' d', e = .returned (.tuple #[.slice A' (pickedQ N rs l p).out.length c', .slice B' (pickedQ N rs l p).many.length d', .int .i64 0]) ∧
      Cells w' A' (ints (pickedQ N rs l p).out) ∧ Cells w' B' (ints (pickedQ N rs l p).many) ∧ Below w.heap.size w w' := by
  have HC := Lib.hid hc
  simp only [comeI, Bool.and_eq_true, decide_eq_true_eq, Bool.not_eq_true', List.any_eq_false] at hc
  obtain ⟨⟨hg, hll⟩, hbad⟩ := hc
  have HL : Hid (∀ x ∈ l, 0 ≤ x ∧ x < (N : Int)) := by
    intro x hx
    have := hbad x hx
    simp [badC] at this
    omega
  simp only [picksB, Bool.and_eq_true, decide_eq_true_eq, Bool.not_eq_true'] at hpb
  obtain ⟨hneg, hp60⟩ := hpb
  have HN := Lib.hid hneg
  have HPP : Hid (∀ x ∈ p, 0 ≤ x) := by
    intro x hx
    rw [List.any_eq_false] at hneg
    have := hneg x hx
    simp [negB] at this
    exact this
  have hd : decide ((60 : Int) < (p.length : Int)) = false := by simp <;> omega
  obtain ⟨hn1, hn2, hrl, _⟩ := grpOk_true hg
  have HG := Lib.hid hg
  clear hg hbad hneg
  obtain ⟨n, hn⟩ : ∃ n, (N : Int) = n := ⟨_, rfl⟩
  have HNN := Lib.hid hn
  rw [hn] at HC ⊢
  clear hn
  have HB0 : Hid (Below w.heap.size w ((w.alloc (.cells #[.int .i64 n, .slice A rs.length c] 24)).alloc (.cells #[.slice E p.length g] 22))) := ((Below.refl _ w).alloc (Nat.le_refl _) _).alloc (by simp) _
  have HA0 := Lib.hid (hA.below HB0.out (Nat.le_refl _))
  have HD0 := Lib.hid (hD.below HB0.out (Nat.le_refl _))
  have HE0 := Lib.hid (hE.below HB0.out (Nat.le_refl _))
  have hg0 : Blk ((w.alloc (.cells #[.int .i64 n, .slice A rs.length c] 24)).alloc (.cells #[.slice E p.length g] 22)) w.heap.size (.cells #[.int .i64 n, .slice A rs.length c] 24) := (Blk.new _ _).alloc _
  have hp0 : Blk ((w.alloc (.cells #[.int .i64 n, .slice A rs.length c] 24)).alloc (.cells #[.slice E p.length g] 22)) (w.heap.size + 1) (.cells #[.slice E p.length g] 22) := by
    have e := Blk.new (w.alloc (.cells #[.int .i64 n, .slice A rs.length c] 24)) (.cells #[.slice E p.length g] 22)
    rw [World.size_alloc] at e
    exact e
  go_enter Try.func46, Try.ntmps46
  go_wp2_with fail
  obtain ⟨W, hW⟩ : ∃ W, (w.alloc (.cells #[.int .i64 n, .slice A rs.length c] 24)).alloc (.cells #[.slice E p.length g] 22) = W := ⟨_, rfl⟩
  rw [hW] at HB0 HA0 HD0 HE0 hg0 hp0
  rw [hW]
  clear hW
  have hl0 := hg0.lt
  have hl1 := hp0.lt
  have c0 := hg0.cell 0 (v := .int .i64 n) rfl
  have c1 := hg0.cell 1 (v := .slice A rs.length c) rfl
  have c2 := hp0.cell 0 (v := .slice E p.length g) rfl
  have HP0 := Lib.hid hp0
  clear hg0 hp0
  refine (come_any n A c rs D f l W HA0.out HD0.out).mono ?_
  rintro e w1 ⟨rfl, hB1⟩
  rw [HC.out]
  have d0 := cell_chain hB1 hl0 c0
  have d1 := cell_chain hB1 hl0 c1
  have d2 := cell_chain hB1 hl1 c2
  clear c0 c1 c2
  have HB1 := Lib.hid hB1
  have hlp : w.heap.size + 1 < w1.heap.size := Nat.lt_of_lt_of_le hl1 hB1.size
  have HP1 := Lib.hid (HP0.out.below hB1 hl1)
  go_wp2_with (first
    | (go_at_call 97; go_must (refine (containsNeg_any p E g w1 (HE0.out.below HB1.out (Nat.le_refl _))).mono ?_); rintro e w2 ⟨rfl, rfl⟩; rw [HN.out])
    | fail)
  have hnn := HNN.out
  clear HNN
  subst hnn
  obtain ⟨w3, hw3⟩ : ∃ w3, w1.alloc (.cells #[.int .i64 (N : Int), .slice A rs.length c, .slice none 0 0, .func (.func 99) #[] #[.pointer (some ⟨w.heap.size + 1, 0, none⟩)]] 136) = w3 := ⟨_, rfl⟩
  rw [hw3]
  have hq3 : Blk w3 w1.heap.size (.cells #[.int .i64 (N : Int), .slice A rs.length c, .slice none 0 0, .func (.func 99) #[] #[.pointer (some ⟨w.heap.size + 1, 0, none⟩)]] 136) := by
    rw [← hw3]; exact Blk.new _ _
  have hB3 : Below w1.heap.size w1 w3 := by
    rw [← hw3]; exact (Below.refl _ w1).alloc (Nat.le_refl _) _
  have hs3 : w3.heap.size = w1.heap.size + 1 := by rw [← hw3]; simp
  have HA3 := (HA0.out.below HB1.out (Nat.le_refl _)).below hB3 (Nat.le_refl _)
  have HD3 := (HD0.out.below HB1.out (Nat.le_refl _)).below hB3 (Nat.le_refl _)
  have HE3 := (HE0.out.below HB1.out (Nat.le_refl _)).below hB3 (Nat.le_refl _)
  have hp3 := HP1.out.below hB3 hlp
  clear hw3 d0 d1 d2
  refine (run_any 99 (.pointer (some ⟨w.heap.size + 1, 0, none⟩)) _ _ _ (chPick p) () N w1.heap.size A c rs (.slice none 0 0) l D f w3 (pick_choice (w.heap.size + 1) E g p rs.length HPP) hq3 HA3 HD3 ⟨hp3, HE3⟩
    (fun b hb => by
      rcases hb with rfl | ⟨hn, a, ha, rfl⟩
      · omega
      · have := hE.lt hn ha; omega)
    (fun hn a ha => ⟨by have := hA.lt hn ha; omega, fun h => h⟩) (fun hn a ha => ⟨by have := hD.lt hn ha; omega, fun h => h⟩) ⟨by omega, by omega⟩ HG.out HL hll).mono ?_
  rintro e w4 ⟨A', c', bD, rfl, hnew, hQ, hI, hbD, hF⟩
  obtain ⟨q, HQ⟩ : ∃ q, Hid (pickedQ N rs l p = q) := ⟨_, rfl⟩
  have hq : qTo rs (chPick p) N () l l.length = q := HQ.out
  have hol : q.out.length = l.length := by rw [← hq]; exact (qTo_ok (by omega) _).2
  have hml : q.many.length = N := by rw [← hq]; exact (qTo_ok (by omega) _).1.len
  rw [hq] at hnew hQ hI
  have m2 := hQ.q.cell 2 (v := .slice (some ⟨bD, 0, none⟩) q.many.length q.many.length) rfl
  have HM := Lib.hid hQ.m
  have HNW := Lib.hid hnew
  have HOL := Lib.hid hol
  have HML := Lib.hid hml
  clear hQ hI hnew hq hol hml hq3 hp3
  go_wp2
  refine sall (by kernel_rfl) (by kernel_rfl) (fun Kq hKq => ?_)
  repeat still_step
  refine wpStill_nil (hKq _ ?_)
  clear hKq Kq
  go_wp2
  refine bodyPost_ret (v := .tuple #[.slice A' l.length c', .slice (some ⟨bD, 0, none⟩) q.many.length q.many.length, .int .i64 0]) (results_ttt rfl rfl rfl rfl) rfl ?_
  rw [HQ.out]
  refine ⟨A', c', some ⟨bD, 0, none⟩, q.many.length, by rw [HOL.out], HNW.out.1.drew, (blk_cells HM.out (by rw [show (ints q.many).length = q.many.length by simp [ints], HML.out]; omega)).drew, ?_⟩
  have e1 : Below w.heap.size w w1 := below_in HB0.out HB1.out
  exact ((e1.trans (hB3.mono (by omega))).trans (hF.below (B := w.heap.size) (fun b hb => hb.elim (fun h => by omega) (fun h => h.elim)) (by omega))).drew

theorem Picked_any (n : Int) (A : Option Addr) (c : Nat) (rs : List Int) (D : Option Addr) (f : Nat) (l : List Int) (E : Option Addr) (g : Nat) (p : List Int) (w : World) (hA : Cells w A (ints rs)) (hD : Cells w D (ints l)) (hE : Cells w E (ints p)) :
    Calls Try.prog 46 #[.agg #[.int .i64 n, .slice A rs.length c], .slice D l.length f, .slice E p.length g] w fun e w' => ∃ A' c' B' d', e = .returned (.tuple #[.slice A' (pickedR n rs l p).length c', .slice B' (pickedL n rs l p).length d', .int .i64 (errI (pickedB n rs l p))]) ∧
      Cells w' A' (ints (pickedR n rs l p)) ∧ Cells w' B' (ints (pickedL n rs l p)) ∧ Below w.heap.size w w' := by
  cases hb : pickedB n rs l p with
  | true =>
    have hb' := hb
    simp only [pickedB, Bool.and_eq_true] at hb'
    have hg : grpOk n rs = true := by
      have h := hb'.1
      simp only [comeI, Bool.and_eq_true] at h
      exact h.1.1
    obtain ⟨hn1, _⟩ := grpOk_true hg
    obtain ⟨N, rfl⟩ := Int.eq_ofNat_of_zero_le (a := n) (by omega)
    have eR : pickedR N rs l p = (pickedQ N rs l p).out := by unfold pickedR; rw [hb]; rfl
    have eL : pickedL N rs l p = (pickedQ N rs l p).many := by unfold pickedL; rw [hb]; rfl
    rw [eR, eL]
    exact Picked_yes N A c rs D f l E g p w hA hD hE hb'.1 hb'.2
  | false =>
    have eR : pickedR n rs l p = [] := by unfold pickedR; rw [hb]; rfl
    have eL : pickedL n rs l p = [] := by unfold pickedL; rw [hb]; rfl
    rw [eR, eL]
    exact (Picked_no n A c rs D f l E g p w hA hD hE hb).mono fun _ _ h => ⟨none, 0, none, 0, h.1, Cells.nil _ _, Cells.nil _ _, h.2⟩
end Go.Proofs.Ytlnonadkdonhmaa

/- Contract: Picked of the reference. -/
namespace Go.Proofs.Ytlnonadkdonhmaa
open Go.RowKit Go.Maps


set_option maxRecDepth 100000 in
set_option maxHeartbeats 8000000 in
theorem RefPicked_any (N : Nat) (A : Option Addr) (c : Nat) (rs : List Int) (D : Option Addr) (f : Nat) (l : List Int) (E : Option Addr) (g : Nat) (p : List Int) (w : World) (hA : Cells w A (ints rs)) (hD : Cells w D (ints l)) (hE : Cells w E (ints p)) (hg : grpOk N rs = true) (hl : Hid (∀ x ∈ l, 0 ≤ x ∧ x < (N : Int))) (hll : l.length ≤ 60) (hp : Hid (∀ x ∈ p, 0 ≤ x)) :
    Calls Try.prog 55 #[.agg #[.int .i64 (N : Int), .slice A rs.length c], .slice D l.length f, .slice E p.length g] w fun e w' => ∃ A' c' B' d', e = .returned (.tuple #[.slice A' (qTo rs (chPick p) N () l l.length).out.length c', .slice B' (qTo rs (chPick p) N () l l.length).many.length d']) ∧
      Cells w' A' (ints (qTo rs (chPick p) N () l l.length).out) ∧ Cells w' B' (ints (qTo rs (chPick p) N () l l.length).many) ∧ Below w.heap.size w w' := by
  obtain ⟨hn1, hn6, hrl, hgood⟩ := grpOk_true hg
  have hpl : p.length ≤ 17592186043904 := by simpa [ints] using hE.1
  have HBA := Lib.hid (bAll_of hg)
  have HGood : Hid (∀ r ∈ rs, goodR N r = true) := by rw [List.all_eq_true] at hgood; exact hgood
  obtain ⟨i0, hi, hz0, hz1, hz2⟩ := info_parts info3
  have hgb := Blk.new w (.cells #[.int .i64 (N : Int), .slice A rs.length c] 24)
  clear hg hgood
  have HGB := Lib.hid hgb
  have hB0 : Below w.heap.size w (w.alloc (.cells #[.int .i64 (N : Int), .slice A rs.length c] 24)) := (Below.refl _ w).alloc (Nat.le_refl _) _
  have HB0 := Lib.hid hB0
  clear hgb hB0
  go_enter Try.func55, Try.ntmps55
  go_wp2_with (first
    | (at_make; refine wpList_make_full _ rfl _ _ 22 rfl (w.alloc (.cells #[.int .i64 (N : Int), .slice A rs.length c] 24)).heap.size 3 i0 (.int .i64 0) 1 Try.underlying22 hi hz0 hz1 .i64 .i64 N N N rfl rfl rfl rfl (by rw [hz2]; omega) (by unfold maxLen; omega) (Nat.le_refl _) ?_; intro w1 ho1 hg1; have hs1 := hg1.size; simp only [World.size_alloc] at hs1; have lg1 : w.heap.size < w1.heap.size := by omega)
    | fail)
  simp only [World.size_alloc] at ho1
  rw [made_ints] at ho1
  have HG1 : Hid (Below (w.alloc (.cells #[.int .i64 (N : Int), .slice A rs.length c] 24)).heap.size (w.alloc (.cells #[.int .i64 (N : Int), .slice A rs.length c] 24)) w1) := (Below.refl _ _).grown hg1 (Nat.le_refl _) (fun k e => by cases e)
  have HBD : Hid (Blk w1 (w.heap.size + 1) (.cells (ints (List.replicate N 0)).toArray 3)) := own_full ho1
  have HGW : Hid (Blk w1 w.heap.size (.cells #[.int .i64 (N : Int), .slice A rs.length c] 24)) := HGB.out.below HG1.out (by simp)
  have HB2 : Hid (Below w.heap.size w w1) := HB0.out.trans (HG1.out.mono (by simp))
  have hbd1 : w.heap.size + 1 < w1.heap.size := (own_full ho1).lt
  clear ho1 hg1
  go_loopw [9, 20] (fun v i wr => ∃ k : Nat, k ≤ l.length ∧ i = .int .i64 k ∧ wr.ownsRow w1.heap.size 3 1 v k (ints (qTo rs (chPick p) N () l k).out) ∧ Blk wr (w.heap.size + 1) (.cells (ints (qTo rs (chPick p) N () l k).many).toArray 3) ∧
      Frame (fun b => b = w.heap.size + 1) w1 wr)
    (fun _ i _ => l.length - (intOf i).toNat)
  case atStart => exact ⟨0, Nat.zero_le _, rfl, World.ownsRow_nil _ _ _ _, HBD.out, Frame.refl _ _⟩
  case round =>
    obtain ⟨k, hk, rfl, hown, hbd, hF⟩ := hrel
    obtain ⟨q, HQT⟩ : ∃ q, Hid (qTo rs (chPick p) N () l k = q) := ⟨_, rfl⟩
    obtain ⟨hok, hol⟩ := qTo_ok (rs := rs) (ch := chPick p) (N := N) (s0 := ()) (l := l) (by decide) k
    rw [HQT.out] at hown hbd hok hol
    have HOWN := Lib.hid hown
    have HD1 := Lib.hid hbd
    have HF := Lib.hid hF
    have HOK := Lib.hid hok
    have HOL := Lib.hid hol
    have HLEN := Lib.hid hok.len
    have hszr := hF.size
    have HFw : Hid (Below w.heap.size w wr) := HB2.out.trans (hF.below (B := w.heap.size) (fun b e => by omega) (by omega))
    have hgw := HGW.out.frame hF (by omega)
    have g0 := hgw.cell 0 (v := .int .i64 (N : Int)) rfl
    have g1 := hgw.cell 1 (v := .slice A rs.length c) rfl
    have HGR := Lib.hid hgw
    have hmlt := hbd.lt
    have hlgr := hgw.lt
    clear hown hbd hF hok hol hgw
    by_cases hlt : k < l.length
    · obtain ⟨x, bx, ox, hx, hbx, hix, hcx⟩ := ints_at (c := f) (hD.below HFw.out (Nat.le_refl _)) Try.underlying22 szInt hlt
      have hxb := hl.out x (List.mem_of_getElem? hx)
      obtain ⟨x, rfl⟩ := Int.eq_ofNat_of_zero_le hxb.1
      have hxl : x < q.many.length := by rw [HLEN.out]; omega
      obtain ⟨y, hy⟩ : ∃ y, Hid (q.many[x]? = some y) := ⟨_, List.getElem?_eq_getElem hxl⟩
      have hyb := HOK.out.bd y (List.mem_of_getElem? hy.out)
      have HX := Lib.hid hx
      have hxN : x < N := by omega
      have hixq := ix_own (b := w.heap.size + 1) (n := N) (c := N) Try.underlying22 szInt hxN
      have hcq := HD1.out.cell x (ints_get hy.out)
      have hfq := HD1.out.free x
      have hinc : Hid (incAt q.many x = q.many.set x (y + 1)) := by show _ = _; simp [incAt, List.getD, hy.out]
      obtain ⟨m1, HM1⟩ : ∃ m1, Hid (incAt q.many x = m1) := ⟨_, rfl⟩
      obtain ⟨W, HW⟩ : ∃ W, Hid (wr.setCell ⟨w.heap.size + 1, x, none⟩ (.int .i64 (y + 1)) = W) := ⟨_, rfl⟩
      have HFW : Hid (Frame (fun b => b = w.heap.size + 1) wr W) := by
        rw [← HW.out]; exact (Frame.refl (fun b => b = w.heap.size + 1) wr).setCell (p := ⟨w.heap.size + 1, x, none⟩) (.inl rfl) _
      have HOK1 : Hid (QOk N (k + 1) m1) := by rw [← HM1.out]; exact HOK.out.inc x
      have hml1 : m1.length = N := HOK1.out.len
      have HML1 := Lib.hid hml1
      have HDW : Hid (Blk W (w.heap.size + 1) (.cells (ints m1).toArray 3)) := by
        have e := HD1.out.set x (.int .i64 (y + 1))
        rw [ints_set, HW.out, ← hinc.out, HM1.out] at e
        exact e
      have HGWW : Hid (Blk W w.heap.size (.cells #[.int .i64 (N : Int), .slice A rs.length c] 24)) := HGR.out.frame HFW.out (by omega)
      have HOW : Hid (W.ownsRow w1.heap.size 3 1 u9 k (ints q.out)) := own_frame HOWN.out HFW.out (fun g hg e => by have := (HOWN.out.lt g hg).1; omega)
      have HFR : Hid (Frame (fun b => b = w.heap.size + 1) w1 W) := HF.out.trans HFW.out (fun b _ e => e)
      have hszW := HFW.out.size
      clear hx hml1
      go_wp2
      rw [HW.out]
      clear hcq hfq hixq hix hcx g0 g1
      obtain ⟨rd, HRD⟩ : ∃ rd, Hid (readyL rs (setQ m1) = rd) := ⟨_, rfl⟩
      have w0 := HGWW.out.cell 0 (v := .int .i64 (N : Int)) rfl
      have w1' := HGWW.out.cell 1 (v := .slice A rs.length c) rfl
      have lgW := HGWW.out.lt
      have HBWW : Hid (Below w.heap.size w W) := HB2.out.trans (HFR.out.below (B := w.heap.size) (fun b e => by omega) (by omega))
      have HAW : Hid (Cells W A (ints rs)) := hA.below HBWW.out (Nat.le_refl _)
      have HEW : Hid (Cells W E (ints p)) := hE.below HBWW.out (Nat.le_refl _)
      have HCM : Hid (Cells W (some ⟨w.heap.size + 1, 0, none⟩) (ints m1)) := blk_cells HDW.out (by simp [ints]; have := HML1.out; omega)
      have hm6 : m1.length ≤ 6 := by have := HML1.out; omega
      have HFI : Hid (∀ w', Below W.heap.size W w' → Calls Try.prog 92 #[.slice (some ⟨w.heap.size + 1, 0, none⟩) N N] w' fun e w'' => e = .returned (.int .i64 (setQ m1)) ∧ w'' = w') := by
        intro w' hI
        have e := Filled_any m1 (some ⟨w.heap.size + 1, 0, none⟩) N w' (HCM.out.below hI (Nat.le_refl _)) hm6
        rw [HML1.out] at e
        exact e.mono fun _ _ h => ⟨h.1, h.2.symm⟩
      refine draw (fun w' => Below W.heap.size W w') 5 rfl (by kernel_rfl) (fun Qd hQd => ?_)
      apply anyI_step 0 rfl (by kernel_rfl)
      focus (intro wI hI Kv hKv; have t0 := cell_chain hI lgW w0; have t1 := cell_chain hI lgW w1'; go_simp; exact hKv)
      intro Kd hKd
      go_simp
      refine hKd _ ?_
      clear hKd Kd
      apply anyI_step 1 rfl (by kernel_rfl)
      focus (intro wI hI Kv hKv; have t0 := cell_chain hI lgW w0; have t1 := cell_chain hI lgW w1'; go_simp; exact hKv)
      intro Kd hKd
      go_simp
      refine hKd _ ?_
      clear hKd Kd
      apply anyI_step 2 rfl (by kernel_rfl)
      focus (intro wI hI Kv hKv; go_simp; exact ⟨_, (HFI.out _ hI), hKv⟩)
      intro Kd hKd
      go_simp
      refine hKd _ ?_
      clear hKd Kd
      refine anyI_one' 3 rfl (by kernel_rfl) ((Below.refl _ _).drew) (fun Kd hKd => ?_)
      go_wp2_with (go_at_call 53; go_must (refine (Ready_any N (setQ m1) A c rs _ (by exact HAW.out.drew)).mono ?_); rintro e w4 ⟨R, cR, rfl, hcs, hB4⟩; rw [HRD.out] at hcs; rw [HRD.out])
      have hB4' : Below W.heap.size W w4 := (Below.refl _ W).drew.trans hB4
      apply anyI_step 4 rfl (by kernel_rfl)
      focus (intro wI hI Kv hKv; go_simp; exact hKv)
      intro Kd hKd
      go_simp
      refine hKd _ ?_
      clear hKd Kd
      refine anyI_end (by kernel_rfl) (hB4') (hQd _ _ ?_)
      clear hQd Qd
      have HI4 := Lib.hid hB4'
      have HCS := Lib.hid hcs
      have HF4 : Hid (Frame (fun b => b = w.heap.size + 1) w1 w4) := HFR.out.trans (Frame.of_all (S := fun _ => False) hB4') (fun _ _ h => h.elim)
      have HD4 : Hid (Blk w4 (w.heap.size + 1) (.cells (ints m1).toArray 3)) := HDW.out.below hB4' HDW.out.lt
      have HG4 : Hid (Blk w4 w.heap.size (.cells #[.int .i64 (N : Int), .slice A rs.length c] 24)) := HGWW.out.below hB4' HGWW.out.lt
      have HO4 : Hid (w4.ownsRow w1.heap.size 3 1 u9 k (ints q.out)) := own_frame HOW.out (Frame.of_all (S := fun _ => False) hB4') (fun _ _ h => h)
      have HA4 := Lib.hid (HAW.out.below hB4' (Nat.le_refl _))
      have HE4 := Lib.hid (HEW.out.below hB4' (Nat.le_refl _))
      have hrd : ∀ z ∈ rd, 0 ≤ z ∧ z < rs.length := by rw [← HRD.out]; exact fun z hz => readyL_bd hz
      have HRDB := Lib.hid hrd
      have hs4 := hB4'.size
      have hrl60 : rd.length ≤ 60 := by
        rw [← HRD.out]
        have := pickTo_len (readyP rs (setQ m1)) rs.length
        unfold readyL; omega
      clear hB4 hB4' hcs hrd w0 w1'
      by_cases hne : rd = []
      · subst hne
        have HT : Hid (qTo rs (chPick p) N () l (k + 1) = ⟨m1, q.st, q.out ++ [-1]⟩) := by
          have e := qTo_none HQT.out HX.out (by rw [HM1.out]; exact HRD.out)
          rw [HM1.out] at e
          exact e
        go_wp2_with (at_builtin; go_must (refine wpList_app1' rInt _ rfl _ _ rfl HO4.out rfl [_] 1 rfl rfl (by simp [Value.oneCell']) (by omega) (by omega) ?_); intro vo' w6 ho6 hB6 hg6 hloc6)
        go_roundw
        case rel =>
          have hF6 := Frame.of_grown hg6
          have hn : ∀ b, b < w1.heap.size → ¬ u9.ownBlock = some b := fun b hb e => by have := (HO4.out.lt _ e).1; omega
          refine ⟨k + 1, by omega, by go_num, ?_, ?_, HF4.out.trans hF6 (fun b hb e => (hn b hb e).elim)⟩
          · rw [HT.out]; simpa [ints] using ho6
          · rw [HT.out]; exact HD4.out.frame hF6 (hn _ (by omega))
        case measure => simp [intOf]; omega
      · have hpos : 0 < rd.length := List.length_pos_iff.2 hne
        have hpm := chPick_mem p q.st k rd hne
        obtain ⟨hp1, hp2⟩ := HRDB.out _ hpm
        obtain ⟨b, hb⟩ := Int.eq_ofNat_of_zero_le hp1
        have hbl' : b < rs.length := by omega
        obtain ⟨r, hr⟩ : ∃ r, Hid (rs[b]? = some r) := ⟨_, List.getElem?_eq_getElem hbl'⟩
        have hgr := HGood.out r (List.mem_of_getElem? hr.out)
        have HLM : Hid (∀ z ∈ memL r, z.toNat < m1.length) := by
          intro z hz
          have := memL_bd (n := N) (by omega) hgr hz
          rw [HML1.out]
          simpa using this
        have HT : Hid (qTo rs (chPick p) N () l (k + 1) = ⟨takeQ r m1, q.st, q.out ++ [(b : Int)]⟩) := by
          have e := qTo_some (r := r) HQT.out HX.out (by rw [HM1.out]; exact HRD.out) hne (by rw [hb]; exact hr.out)
          rw [HM1.out, hb] at e
          exact e
        have HOKT : Hid (okTake r m1 = true) := ready_okTake hm6 HBA.out hr.out (by rw [HRD.out]; exact hb ▸ hpm) rfl
        have HBD1 : Hid (∀ z ∈ m1, -1000 ≤ z ∧ z ≤ 1000) := by
          intro z hz
          have := HOK1.out.bd z hz
          push_cast at this
          omega
        have hgi := HG4.out
        have y0 := hgi.cell 0 (v := .int .i64 (N : Int)) rfl
        have y1 := hgi.cell 1 (v := .slice A rs.length c) rfl
        have hdp : decide ((0 : Int) < (rd.length : Int)) = true := by simp <;> omega
        have HNE := Lib.hid hne
        have HAP : Hid (ints rs ≠ [] → ∀ a, A = some a → a.block ≠ w.heap.size + 1) := fun hn a ha e => by have := hA.lt hn ha; omega
        have HPB : Hid (rd.getD ((p.getD k 0).toNat % rd.length) 0 = b) := hb
        clear hpm hp1 hp2 hb hgr hne hgi
        by_cases hkp : k < p.length
        · obtain ⟨u, b3, o3, hu, hb3, hix3, hc3⟩ := ints_at (c := g) HE4.out Try.underlying22 szInt hkp
          have hu0 := hp.out u (List.mem_of_getElem? hu)
          obtain ⟨u, rfl⟩ := Int.eq_ofNat_of_zero_le hu0
          obtain ⟨z, b4, o4, hz, hb4, hix4, hc4⟩ := ints_at (c := cR) HCS.out Try.underlying22 szInt (Nat.mod_lt u hpos)
          have hzb : z = (b : Int) := by
            have e := HPB.out
            simpa [List.getD, hu, hz] using e
          subst hzb
          simp only [Int.natCast_emod] at hix4
          have hkd : decide ((k : Int) < (p.length : Int)) = true := by simp <;> omega
          clear hz hu hu0
          go_wp2_with fail
          have e93 := take_any93 N A c rs (w.heap.size + 1) m1 N b r w4 HA4.out hr HD4.out hm6 HAP.out HBD1
          rw [HML1.out] at e93
          refine e93.mono ?_
          rintro e w5 ⟨rfl, ⟨ms, hms, hml, hmt⟩, hF5⟩
          have hmt := hmt HOKT.out
          rw [← HML1.out, decTo_takeQ HLM.out hm6] at hmt
          subst hmt
          have HM5 := Lib.hid hms
          have HO5 : Hid (w5.ownsRow w1.heap.size 3 1 u9 k (ints q.out)) := own_frame HO4.out hF5 (fun g hg e => by have := (HO4.out.lt _ hg).1; omega)
          have HFa : Hid (Frame (fun b => b = w.heap.size + 1) w1 w5) := HF4.out.trans hF5 (fun _ _ e => e)
          have hsz5 := hF5.size
          clear hms hml hF5 e93
          go_wp2_with (at_builtin; go_must (refine wpList_app1' rInt _ rfl _ _ rfl HO5.out rfl [_] 1 rfl rfl (by simp [Value.oneCell']) (by omega) (by omega) ?_); intro vo' w6 ho6 hB6 hg6 hloc6)
          go_roundw
          case rel =>
            have hF6 := Frame.of_grown hg6
            have hn : ∀ b, b < w1.heap.size → ¬ u9.ownBlock = some b := fun b hb e => by have := (HO5.out.lt _ e).1; omega
            refine ⟨k + 1, by omega, by go_num, ?_, ?_, HFa.out.trans hF6 (fun b hb e => (hn b hb e).elim)⟩
            · rw [HT.out]; simpa [ints] using ho6
            · rw [HT.out]; exact HM5.out.frame hF6 (hn _ (by omega))
          case measure => simp [intOf]; omega
        · obtain ⟨z, b4, o4, hz, hb4, hix4, hc4⟩ := ints_at (c := cR) HCS.out Try.underlying22 szInt hpos
          have hzb : z = (b : Int) := by
            have e := HPB.out
            have e2 : p[k]? = none := List.getElem?_eq_none (by omega)
            simpa [List.getD, e2, hz] using e
          subst hzb
          simp only [Int.natCast_zero] at hix4
          have hkd : decide ((k : Int) < (p.length : Int)) = false := by simp <;> omega
          clear hz
          go_wp2_with fail
          have e93 := take_any93 N A c rs (w.heap.size + 1) m1 N b r w4 HA4.out hr HD4.out hm6 HAP.out HBD1
          rw [HML1.out] at e93
          refine e93.mono ?_
          rintro e w5 ⟨rfl, ⟨ms, hms, hml, hmt⟩, hF5⟩
          have hmt := hmt HOKT.out
          rw [← HML1.out, decTo_takeQ HLM.out hm6] at hmt
          subst hmt
          have HM5 := Lib.hid hms
          have HO5 : Hid (w5.ownsRow w1.heap.size 3 1 u9 k (ints q.out)) := own_frame HO4.out hF5 (fun g hg e => by have := (HO4.out.lt _ hg).1; omega)
          have HFa : Hid (Frame (fun b => b = w.heap.size + 1) w1 w5) := HF4.out.trans hF5 (fun _ _ e => e)
          have hsz5 := hF5.size
          clear hms hml hF5 e93
          go_wp2_with (at_builtin; go_must (refine wpList_app1' rInt _ rfl _ _ rfl HO5.out rfl [_] 1 rfl rfl (by simp [Value.oneCell']) (by omega) (by omega) ?_); intro vo' w6 ho6 hB6 hg6 hloc6)
          go_roundw
          case rel =>
            have hF6 := Frame.of_grown hg6
            have hn : ∀ b, b < w1.heap.size → ¬ u9.ownBlock = some b := fun b hb e => by have := (HO5.out.lt _ e).1; omega
            refine ⟨k + 1, by omega, by go_num, ?_, ?_, HFa.out.trans hF6 (fun b hb e => (hn b hb e).elim)⟩
            · rw [HT.out]; simpa [ints] using ho6
            · rw [HT.out]; exact HM5.out.frame hF6 (hn _ (by omega))
          case measure => simp [intOf]; omega
    · obtain rfl : k = l.length := by omega
      obtain ⟨A', c', hv, hnew⟩ := own_new HOWN.out (by have := HOL.out; simp [ints]; omega)
      subst hv
      have hq1 := HOL.out
      have hq2 := HLEN.out
      go_wp2
      go_ret2
      rw [HQT.out]
      refine ⟨A', c', some ⟨w.heap.size + 1, 0, none⟩, N, by rw [hq1, hq2]; rfl, hnew.1, blk_cells HD1.out (by simp [ints]; omega), HFw.out⟩
end Go.Proofs.Ytlnonadkdonhmaa

/- Runs with a machine over queues: what they compute, plainly. -/
namespace Go.Proofs.Ytlnonadkdonhmaa
open Go.RowKit Go.Maps

/-- What a run holds: the queues, the state, the rules so far. -/
structure RnS where
  many : List Int
  st : Int
  out : List Int

/-- One message of a run with a machine; none: the rule's messages are not there. -/
def rnStep (rs : List Int) (m : Mach) (q : RnS) (c : Int) : Option RnS :=
  if (actAt m q.st c).rule < 0 then some ⟨incAt q.many c, nextI rs (actAt m q.st c) ⟨c, setQ (incAt q.many c)⟩, q.out ++ [(actAt m q.st c).rule]⟩
  else if withinI (rs.getD (actAt m q.st c).rule.toNat 0) (setQ (incAt q.many c)) then
    some ⟨takeQ (rs.getD (actAt m q.st c).rule.toNat 0) (incAt q.many c), nextI rs (actAt m q.st c) ⟨c, setQ (takeQ (rs.getD (actAt m q.st c).rule.toNat 0) (incAt q.many c))⟩, q.out ++ [(actAt m q.st c).rule]⟩
  else none
def rnTo (rs : List Int) (m : Mach) (n : Nat) (l : List Int) : Nat → Option RnS
  | 0 => some ⟨List.replicate n 0, 0, []⟩
  | k + 1 => (rnTo rs m n l k).bind fun q => rnStep rs m q (l.getD k 0)

theorem rnTo_step {rs : List Int} {m : Mach} {n : Nat} {l : List Int} {k : Nat} {q : RnS} {x : Int} (h : rnTo rs m n l k = some q) (hx : l[k]? = some x) : rnTo rs m n l (k + 1) = rnStep rs m q x := by
  have hx' : l.getD k 0 = x := by simp [List.getD, hx]
  rw [rnTo, h, hx']
  rfl
/-- A run that has fallen stays so. -/
theorem rnTo_none {rs : List Int} {m : Mach} {n : Nat} {l : List Int} {k : Nat} (h : rnTo rs m n l k = none) : ∀ d, rnTo rs m n l (k + d) = none
  | 0 => h
  | d + 1 => by rw [← Nat.add_assoc, rnTo, rnTo_none h d]; rfl
theorem rnTo_fall {rs : List Int} {m : Mach} {n : Nat} {l : List Int} {k : Nat} {q : RnS} {x : Int} (h : rnTo rs m n l k = some q) (hx : l[k]? = some x) (hn : rnStep rs m q x = none) : rnTo rs m n l l.length = none := by
  have hk : k < l.length := (List.getElem?_eq_some_iff.1 hx).1
  have e := rnTo_none (rs := rs) (m := m) (n := n) (l := l) (k := k + 1) (by rw [rnTo_step h hx, hn]) (l.length - (k + 1))
  rwa [show k + 1 + (l.length - (k + 1)) = l.length by omega] at e

structure RnOk (N k : Nat) (m : Mach) (q : RnS) : Prop where
  ok : QOk N k q.many
  out : q.out.length = k
  st : stateB m q.st = true

theorem rnStep_ok {rs : List Int} {m : Mach} {N k : Nat} {q q' : RnS} {x : Int} (hf : formedA (N : Int) rs m = true) (h0 : 0 ≤ x) (h1 : x < N) (h : RnOk N k m q) (e : rnStep rs m q x = some q') : RnOk N (k + 1) m q' := by
  obtain ⟨acts, _, _, _, hok⟩ := actAt_ok hf h.st h0 h1
  have hst : ∀ keep, stateB m (nextI rs (actAt m q.st x) ⟨x, keep⟩) = true := by
    intro keep
    have hn := nextI_ok (x := ⟨x, keep⟩) hok
    simp only [stateB, Bool.and_eq_true, decide_eq_true_eq]
    exact hn
  unfold rnStep at e
  split at e
  · injection e with e
    subst e
    exact ⟨h.ok.inc _, by simp [h.out], hst _⟩
  · split at e
    · injection e with e
      subst e
      exact ⟨h.ok.step _ _, by simp [h.out], hst _⟩
    · cases e

theorem rnTo_ok {rs : List Int} {m : Mach} {N : Nat} {l : List Int} (hf : formedA (N : Int) rs m = true) (hl : ∀ x ∈ l, 0 ≤ x ∧ x < (N : Int)) : ∀ k q, k ≤ l.length → rnTo rs m N l k = some q → RnOk N k m q
  | 0, q, _, e => by
    injection e with e
    subst e
    refine ⟨⟨by simp, fun x hx => by simp at hx; omega⟩, rfl, ?_⟩
    simp only [formedA, Bool.and_eq_true, decide_eq_true_eq] at hf
    simp only [stateB, Bool.and_eq_true, decide_eq_true_eq]
    omega
  | k + 1, q, hk, e => by
    have hx : l[k]? = some l[k] := List.getElem?_eq_getElem (by omega)
    have hb := hl _ (List.mem_of_getElem? hx)
    cases hq : rnTo rs m N l k with
    | none =>
      rw [rnTo, hq] at e
      cases e
    | some p =>
      rw [rnTo_step hq hx] at e
      exact rnStep_ok hf hb.1 hb.2 (rnTo_ok hf hl k p (by omega) hq) e
end Go.Proofs.Ytlnonadkdonhmaa

/- Runs with a machine over queues: the messages of a rule are there just if its set is within the queues'. -/
namespace Go.Proofs.Ytlnonadkdonhmaa
open Go.RowKit Go.Maps

theorem inI_setTo {many : List Int} (hm : many.length ≤ 6) : ∀ k, k ≤ many.length → ∀ j : Nat, j < 6 → inI (setTo many k) j = (decide (j < k) && decide (0 < many.getD j 0)) := by
  intro k
  induction k with
  | zero =>
    intro _ j hj
    have z : ((List.range 6).all fun j => !(inI 0 (j : Int))) = true := by kernel_rfl
    have := List.all_eq_true.1 z j (List.mem_range.2 hj)
    rw [setTo]
    simpa using this
  | succ k ih =>
    intro hk j hj
    have hx : many[k]? = some many[k] := List.getElem?_eq_getElem (by omega)
    have hg : many.getD k 0 = many[k] := by simp [List.getD, hx]
    by_cases hp : 0 < many[k]
    · rw [setTo_hit hx hp]
      have hb := setTo_bd (many := many) k (by omega)
      have hkB : isB (setTo many k) := by
        have h3 : (2 : Nat) ^ k ≤ 2 ^ 6 := Nat.pow_le_pow_right (by decide) (by omega)
        have h4 : (2 : Int) ^ k ≤ 64 := by exact_mod_cast h3
        exact ⟨hb.1, by omega⟩
      have e := in_full (s := setTo many k) (c := k) (x := j) hkB (by omega) hj
      simp only [fullI, Int.toNat_natCast] at e
      rw [e, ih (by omega) j hj]
      by_cases hjk : j = k
      · subst hjk
        rw [hg, decide_eq_true hp]
        simp
      · have h1 : decide (j < k + 1) = decide (j < k) := by congr 1; exact propext ⟨fun h => by omega, fun h => by omega⟩
        have h2 : decide (j = k) = false := decide_eq_false hjk
        rw [h1, h2, Bool.or_false]
    · rw [setTo_miss hx hp, ih (by omega) j hj]
      by_cases hjk : j = k
      · subst hjk
        rw [hg, decide_eq_false hp]
        simp
      · have h1 : decide (j < k + 1) = decide (j < k) := by congr 1; exact propext ⟨fun h => by omega, fun h => by omega⟩
        rw [h1]

theorem okTake_within {r : Int} {many : List Int} (hm : many.length ≤ 6) (hr : isB r) (hmem : ∀ z ∈ memL r, z.toNat < many.length) (hnn : ∀ x ∈ many, 0 ≤ x) : okTake r many = withinI r (setQ many) := by
  have hw := within_iff hr (setQ_isB hm)
  rw [Bool.eq_iff_iff, hw]
  constructor
  · intro h c hc hin
    have hml : (c : Int) ∈ memL r := by
      show (c : Int) ∈ pickTo (fun i => inI r i) 6
      simp only [pickTo, List.mem_map, List.mem_filter, List.mem_range]
      exact ⟨c, ⟨hc, hin⟩, rfl⟩
    have hl : c < many.length := by simpa using hmem _ hml
    have hx : many[c]? = some many[c] := List.getElem?_eq_getElem hl
    have h1 := allTo_at h hx hl
    rw [hin] at h1
    have hne : many[c] ≠ 0 := by simpa using h1
    have hge := hnn _ (List.mem_of_getElem? hx)
    have e := inI_setTo hm many.length (Nat.le_refl _) c hc
    rw [show setQ many = setTo many many.length from rfl, e]
    have hg : many.getD c 0 = many[c] := by simp [List.getD, hx]
    rw [hg]
    simp only [Bool.and_eq_true, decide_eq_true_eq]
    exact ⟨hl, by omega⟩
  · intro h
    unfold okTake allTo
    rw [List.all_eq_true]
    intro c hc
    have hc' := List.mem_range.1 hc
    rw [List.getElem?_eq_getElem hc']
    simp only [Option.all_some]
    cases hin : inI r c with
    | false => rfl
    | true =>
      have := inI_set hm (List.getElem?_eq_getElem hc') (h c (by omega) hin)
      have hne : (many[c] == 0) = false := by simp; omega
      rw [hne]; rfl

theorem dec_nn : ∀ (cs m : List Int), (cs.map Int.toNat).Nodup → (∀ c ∈ cs, 0 < m.getD c.toNat 0) → (∀ x ∈ m, 0 ≤ x) → ∀ x ∈ cs.foldl decAt m, 0 ≤ x
  | [], _, _, _, hn => hn
  | c :: cs, m, hd, hp, hn => by
    rw [List.map_cons, List.nodup_cons] at hd
    refine dec_nn cs (decAt m c) hd.2 (fun c' hc' => ?_) (fun x hx => ?_)
    · have hne : c.toNat ≠ c'.toNat := fun e => hd.1 (e ▸ List.mem_map_of_mem hc')
      have e : (decAt m c).getD c'.toNat 0 = m.getD c'.toNat 0 := by
        simp [decAt, List.getD, List.getElem?_set_ne hne]
      rw [e]
      exact hp c' (List.mem_cons_of_mem _ hc')
    · rcases List.mem_or_eq_of_mem_set hx with h | h
      · exact hn x h
      · have := hp c (List.mem_cons_self ..)
        omega

theorem takeQ_nn {r : Int} {m : List Int} (hm : m.length ≤ 6) (hr : isB r) (hw : withinI r (setQ m) = true) (hn : ∀ x ∈ m, 0 ≤ x) : ∀ x ∈ takeQ r m, 0 ≤ x := by
  have hwi := (within_iff hr (setQ_isB hm)).1 hw
  refine dec_nn (memL r) m ?_ ?_ hn
  · have e : (memL r).map Int.toNat = (List.range 6).filter (fun i : Nat => inI r (i : Int)) := by
      unfold memL pickTo
      rw [List.map_map]
      have : (Int.toNat ∘ Int.ofNat) = id := by funext i; rfl
      rw [this, List.map_id]
    rw [e]
    exact List.Pairwise.sublist List.filter_sublist List.nodup_range
  · intro c hc
    obtain ⟨i, rfl, hi, hin⟩ := pickTo_mem hc
    have h1 := hwi i hi hin
    rw [show setQ m = setTo m m.length from rfl, inI_setTo hm m.length (Nat.le_refl _) i hi] at h1
    simp only [Bool.and_eq_true, decide_eq_true_eq] at h1
    simpa using h1.2

theorem incAt_nn {m : List Int} {c : Int} (hn : ∀ x ∈ m, 0 ≤ x) : ∀ x ∈ incAt m c, 0 ≤ x := by
  intro x hx
  rcases List.mem_or_eq_of_mem_set hx with h | h
  · exact hn x h
  · have : 0 ≤ m.getD c.toNat 0 := by
      cases e : m[c.toNat]? with
      | none => simp [List.getD, e]
      | some y => simpa [List.getD, e] using hn y (List.mem_of_getElem? e)
    omega

theorem getB {rs : List Int} (h : bAll rs) (i : Nat) : isB (rs.getD i 0) := by
  cases e : rs[i]? with
  | none => simp only [List.getD, e]; exact ⟨by decide, by decide⟩
  | some r => simp only [List.getD, e]; exact h r (List.mem_of_getElem? e)

theorem rn_nn {rs : List Int} {m : Mach} {N : Nat} {l : List Int} (hb : bAll rs) (hN : N ≤ 6) (hf : formedA (N : Int) rs m = true) (hl : ∀ x ∈ l, 0 ≤ x ∧ x < (N : Int)) : ∀ k q, k ≤ l.length → rnTo rs m N l k = some q → ∀ x ∈ q.many, 0 ≤ x
  | 0, q, _, e => by
    injection e with e
    subst e
    intro x hx
    simp at hx
    omega
  | k + 1, q, hk, e => by
    have hx : l[k]? = some l[k] := List.getElem?_eq_getElem (by omega)
    cases hq : rnTo rs m N l k with
    | none =>
      rw [rnTo, hq] at e
      cases e
    | some p =>
      have hp := rn_nn hb hN hf hl k p (by omega) hq
      have hok := rnTo_ok hf hl k p (by omega) hq
      have hlen : (incAt p.many l[k]).length ≤ 6 := by rw [(hok.ok.inc l[k]).len]; exact hN
      rw [rnTo_step hq hx] at e
      unfold rnStep at e
      split at e
      · injection e with e
        subst e
        exact incAt_nn hp
      · split at e
        · rename_i hw
          injection e with e
          subst e
          exact takeQ_nn hlen (getB hb _) hw (incAt_nn hp)
        · cases e
end Go.Proofs.Ytlnonadkdonhmaa

/- Contract: Run of the reference. -/
namespace Go.Proofs.Ytlnonadkdonhmaa
open Go.RowKit Go.Maps

/-- What the reference's Run answers for what the plain run gives. -/
def RunAns (o : Option RnS) (e : Ending) (w' : World) : Prop :=
  match o with
  | none => e = .returned (.tuple #[.slice none 0 0, .slice none 0 0, .bool false])
  | some q => ∃ A' c' B' d', e = .returned (.tuple #[.slice A' q.out.length c', .slice B' q.many.length d', .bool true]) ∧ Cells w' A' (ints q.out) ∧ Cells w' B' (ints q.many)


set_option maxRecDepth 100000 in
set_option maxHeartbeats 400000 in
theorem RefRun_any (N : Nat) (A : Option Addr) (c : Nat) (rs : List Int) (B : Option Addr) (d : Nat) (m : Mach) (D : Option Addr) (f : Nat) (l : List Int) (w : World) (hA : Cells w A (ints rs)) (hM : MachAt w B m) (hD : Cells w D (ints l)) (hf : formedA (N : Int) rs m = true) (hl : Hid (∀ x ∈ l, 0 ≤ x ∧ x < (N : Int))) (hll : l.length ≤ 60) :
    Calls Try.prog 56 #[.agg #[.int .i64 (N : Int), .slice A rs.length c], .agg #[.slice B m.length d], .slice D l.length f] w fun e w' => RunAns (rnTo rs m N l l.length) e w' ∧ Below w.heap.size w w' := by
  have hg : grpOk N rs = true := by simp only [formedA, Bool.and_eq_true] at hf; exact hf.1.1.1
  have HFM := Lib.hid hf
  clear hf
  obtain ⟨hn1, hn6, hrl, hgood⟩ := grpOk_true hg
  have HBA := Lib.hid (bAll_of hg)
  have HGood : Hid (∀ r ∈ rs, goodR N r = true) := by rw [List.all_eq_true] at hgood; exact hgood
  obtain ⟨i0, hi, hz0, hz1, hz2⟩ := info_parts info3
  have HB0 : Hid (Below w.heap.size w (gbox w N A rs.length c B m.length d)) := gbox_below w N A rs.length c B m.length d
  have hgm1 := (Blk.new w (.cells #[.int .i64 (N : Int), .slice A rs.length c] 24)).alloc (.cells #[.slice B m.length d] 27)
  have hgm2 := Blk.new (w.alloc (.cells #[.int .i64 (N : Int), .slice A rs.length c] 24)) (.cells #[.slice B m.length d] 27)
  rw [World.size_alloc] at hgm2
  clear hg hgood
  go_enter Try.func56, Try.ntmps56
  go_wp2_with (first
    | (at_make; refine wpList_make_full _ rfl _ _ 22 rfl (gbox w N A rs.length c B m.length d).heap.size 3 i0 (.int .i64 0) 1 Try.underlying22 hi hz0 hz1 .i64 .i64 N N N rfl rfl rfl rfl (by rw [hz2]; omega) (by unfold maxLen; omega) (Nat.le_refl _) ?_; intro w1 ho1 hg1)
    | fail)
  have hsz0 := gbox_size w N A rs.length c B m.length d
  have hs1 := hg1.size
  rw [hsz0] at ho1
  rw [made_ints] at ho1
  have HG1 : Hid (Below (gbox w N A rs.length c B m.length d).heap.size (gbox w N A rs.length c B m.length d) w1) := (Below.refl _ _).grown hg1 (Nat.le_refl _) (fun k e => by cases e)
  have HBD : Hid (Blk w1 (w.heap.size + 2) (.cells (ints (List.replicate N 0)).toArray 3)) := own_full ho1
  have HGW : Hid (Blk w1 w.heap.size (.cells #[.int .i64 (N : Int), .slice A rs.length c] 24)) := hgm1.below HG1.out (by rw [hsz0]; omega)
  have HMW : Hid (Blk w1 (w.heap.size + 1) (.cells #[.slice B m.length d] 27)) := hgm2.below HG1.out (by rw [hsz0]; omega)
  have HB2 : Hid (Below w.heap.size w w1) := HB0.out.trans (HG1.out.mono (by rw [hsz0]; omega))
  have hbd1 : w.heap.size + 2 < w1.heap.size := (own_full ho1).lt
  clear ho1 hg1 hgm1 hgm2 hs1 hsz0
  go_loopw [10, 11, 20] (fun v s i wr => ∃ (k : Nat) (q : RnS), k ≤ l.length ∧ i = .int .i64 k ∧ rnTo rs m N l k = some q ∧ s = .int .i64 q.st ∧ wr.ownsRow w1.heap.size 3 1 v k (ints q.out) ∧ Blk wr (w.heap.size + 2) (.cells (ints q.many).toArray 3) ∧
      Frame (fun b => b = w.heap.size + 2) w1 wr)
    (fun _ _ i _ => l.length - (intOf i).toNat)
  case atStart => exact ⟨0, _, Nat.zero_le _, rfl, rfl, rfl, World.ownsRow_nil _ _ _ _, HBD.out, Frame.refl _ _⟩
  case round =>
    obtain ⟨k, q, hk, rfl, hq, rfl, hown, hbd, hF⟩ := hrel
    have HQT := Lib.hid hq
    have hok := rnTo_ok HFM.out hl.out k q hk hq
    have HNN : Hid (∀ x ∈ q.many, 0 ≤ x) := rn_nn HBA.out (by omega) HFM.out hl.out k q hk hq
    have HOWN := Lib.hid hown
    have HD1 := Lib.hid hbd
    have HF := Lib.hid hF
    have HOK := Lib.hid hok
    have HOL := Lib.hid hok.out
    have HLEN := Lib.hid hok.ok.len
    have hszr := hF.size
    have HFw : Hid (Below w.heap.size w wr) := HB2.out.trans (hF.below (B := w.heap.size) (fun b e => by omega) (by omega))
    have hgw := HGW.out.frame hF (by omega)
    have hmw := HMW.out.frame hF (by omega)
    clear hq hok hown hbd hF
    by_cases hlt : k < l.length
    · obtain ⟨x, bx, ox, hx, hbx, hix, hcx⟩ := ints_at (c := f) (hD.below HFw.out (Nat.le_refl _)) Try.underlying22 szInt hlt
      have hxb := hl.out x (List.mem_of_getElem? hx)
      obtain ⟨x, rfl⟩ := Int.eq_ofNat_of_zero_le hxb.1
      have hxl : x < q.many.length := by rw [HLEN.out]; omega
      obtain ⟨y, hy⟩ : ∃ y, Hid (q.many[x]? = some y) := ⟨_, List.getElem?_eq_getElem hxl⟩
      have hyb := HOK.out.ok.bd y (List.mem_of_getElem? hy.out)
      have HX := Lib.hid hx
      have hxN : x < N := by omega
      have hixq := ix_own (b := w.heap.size + 2) (n := N) (c := N) Try.underlying22 szInt hxN
      have hcq := HD1.out.cell x (ints_get hy.out)
      have hfq := HD1.out.free x
      obtain ⟨acts, hacts, hal, hact, hok2⟩ := actAt_ok HFM.out HOK.out.st hxb.1 hxb.2
      have hst := HOK.out.st
      simp only [stateB, Bool.and_eq_true, decide_eq_true_eq] at hst
      obtain ⟨S, hS⟩ := Int.eq_ofNat_of_zero_le hst.1
      have hSl : S < m.length := by omega
      obtain ⟨acts', D2, d2, b2, o2, hm2, hb2, hix2, hc2, hActs⟩ := mach_at (c := d) (k := S) hM hSl
      obtain rfl : acts = acts' := by
        rw [hS, Int.toNat_natCast, hm2] at hacts
        injection hacts with e
        exact e.symm
      obtain ⟨a, E3, e3, b3, o3, hy3, hb3, hix3, hr3, hn3, hE3⟩ := acts_at (c := d2) (k := x) hActs (by omega)
      obtain ⟨act, HACT⟩ : ∃ act, Hid (actAt m q.st x = act) := ⟨_, rfl⟩
      rw [HACT.out] at hact hok2
      obtain rfl : act = a := by rw [Int.toNat_natCast, hy3] at hact; injection hact with e; exact e.symm
      have HX0 : Hid ((0 : Int) ≤ (x : Int)) := hxb.1
      have HX1 : Hid ((x : Int) < (N : Int)) := hxb.2
      obtain ⟨rule, next⟩ := act
      simp only [actOkA, ruleOk, Bool.and_eq_true, Bool.or_eq_true, decide_eq_true_eq] at hok2
      obtain ⟨⟨hrule, _⟩, _⟩ := hok2
      simp only at hr3 hn3 hE3 hrule
      have hinc : Hid (incAt q.many x = q.many.set x (y + 1)) := by show _ = _; simp [incAt, List.getD, hy.out]
      obtain ⟨m1, HM1⟩ : ∃ m1, Hid (incAt q.many x = m1) := ⟨_, rfl⟩
      have k2 := cell_chain HFw.out hb2 hc2
      have k3 := cell_chain HFw.out hb3 hr3
      obtain ⟨W, HW⟩ : ∃ W, Hid (wr.setCell ⟨w.heap.size + 2, x, none⟩ (.int .i64 (y + 1)) = W) := ⟨_, rfl⟩
      have HFW : Hid (Frame (fun b => b = w.heap.size + 2) wr W) := by
        rw [← HW.out]; exact (Frame.refl (fun b => b = w.heap.size + 2) wr).setCell (p := ⟨w.heap.size + 2, x, none⟩) (.inl rfl) _
      have HOK1 : Hid (QOk N (k + 1) m1) := by rw [← HM1.out]; exact HOK.out.ok.inc x
      have hml1 : m1.length = N := HOK1.out.len
      have HNN1 : Hid (∀ z ∈ m1, 0 ≤ z) := by rw [← HM1.out]; exact incAt_nn HNN.out
      have HDW : Hid (Blk W (w.heap.size + 2) (.cells (ints m1).toArray 3)) := by
        have e := HD1.out.set x (.int .i64 (y + 1))
        rw [ints_set, HW.out, ← hinc.out, HM1.out] at e
        exact e
      have HGWW : Hid (Blk W w.heap.size (.cells #[.int .i64 (N : Int), .slice A rs.length c] 24)) := hgw.frame HFW.out (by omega)
      have HMWW : Hid (Blk W (w.heap.size + 1) (.cells #[.slice B m.length d] 27)) := hmw.frame HFW.out (by omega)
      have HOW : Hid (W.ownsRow w1.heap.size 3 1 u10 k (ints q.out)) := own_frame HOWN.out HFW.out (fun g hg e => by have := (HOWN.out.lt g hg).1; omega)
      have HFR : Hid (Frame (fun b => b = w.heap.size + 2) w1 W) := HF.out.trans HFW.out (fun b _ e => e)
      have hszW := HFW.out.size
      have g0 := hgw.cell 0 (v := .int .i64 (N : Int)) rfl
      have g1 := hgw.cell 1 (v := .slice A rs.length c) rfl
      have g2 := hmw.cell 0 (v := .slice B m.length d) rfl
      have lg0 := hgw.lt
      have lg1 := hmw.lt
      have lg2 := HD1.out.lt
      have z2 : b2 < wr.heap.size := by omega
      have z3 : b3 < wr.heap.size := by omega
      have n2 : b2 ≠ w.heap.size + 2 := by omega
      have n3 : b3 ≠ w.heap.size + 2 := by omega
      rw [hS]
      clear hx hst hacts hact hm2 hy3 hgw hmw hn3 hE3
      by_cases hneg : rule = -1
      · subst hneg
        have HST : Hid (rnStep rs m q x = some ⟨m1, nextI rs ⟨-1, next⟩ ⟨x, setQ m1⟩, q.out ++ [-1]⟩) := by
          show _ = _
          unfold rnStep
          rw [HACT.out, if_pos (by simp only; omega), HM1.out]
        clear hrule
        go_wp2
        rw [HW.out]
        clear hcq hfq hixq hix hcx g0 g1 g2 hix2 hix3 k2 k3 hc2 hr3
        obtain ⟨V, hV⟩ : ∃ V, V = W := ⟨_, rfl⟩
        obtain ⟨mv, hmv⟩ : ∃ mv, mv = m1 := ⟨_, rfl⟩
        have HDV := HDW
        have HGV := HGWW
        have HMBV := HMWW
        have HOV := HOW
        have HFV := HFR
        have hmlv := hml1
        rw [← hV] at HDV HGV HMBV HOV HFV ⊢
        rw [← hmv] at HDV hmlv HST
        rw [← hS]
        clear hV hmv hS
        have HMLV := Lib.hid hmlv
        have HFI : Hid (∀ w', Below V.heap.size V w' → Calls Try.prog 92 #[.slice (some ⟨w.heap.size + 2, 0, none⟩) N N] w' fun e w'' => e = .returned (.int .i64 (setQ mv)) ∧ w'' = w') := by
          intro w' hI
          have hcm : Cells V (some ⟨w.heap.size + 2, 0, none⟩) (ints mv) := blk_cells HDV.out (by simp [ints]; have := HMLV.out; omega)
          have e := Filled_any mv (some ⟨w.heap.size + 2, 0, none⟩) N w' (hcm.below hI (Nat.le_refl _)) (by have := HMLV.out; omega)
          rw [HMLV.out] at e
          exact e.mono fun _ _ h => ⟨h.1, h.2.symm⟩
        have v0 := HGV.out.cell 0 (v := .int .i64 (N : Int)) rfl
        have v1 := HGV.out.cell 1 (v := .slice A rs.length c) rfl
        have v2 := HMBV.out.cell 0 (v := .slice B m.length d) rfl
        have lv0 := HGV.out.lt
        have lv2 := HMBV.out.lt
        have HBV : Hid (Below w.heap.size w V) := HB2.out.trans (HFV.out.below (B := w.heap.size) (fun b e => by omega) (by omega))
        have HAV := Lib.hid (hA.below HBV.out (Nat.le_refl _))
        have HMV := Lib.hid (hM.below HBV.out (Nat.le_refl _))
        clear hmlv
        refine draw (fun w' => Below V.heap.size V w') 12 rfl (by kernel_rfl) (fun Qd hQd => ?_)
        apply anyI_step 0 rfl (by kernel_rfl)
        focus (intro wI hI Kv hKv; have t0 := cell_chain hI lv0 v0; have t1 := cell_chain hI lv0 v1; have t2 := cell_chain hI lv2 v2; go_simp; exact hKv)
        intro Kd hKd
        go_simp
        refine hKd _ ?_
        clear hKd Kd
        apply anyI_step 1 rfl (by kernel_rfl)
        focus (intro wI hI Kv hKv; have t0 := cell_chain hI lv0 v0; have t1 := cell_chain hI lv0 v1; have t2 := cell_chain hI lv2 v2; go_simp; exact hKv)
        intro Kd hKd
        go_simp
        refine hKd _ ?_
        clear hKd Kd
        apply anyI_step 2 rfl (by kernel_rfl)
        focus (intro wI hI Kv hKv; have t0 := cell_chain hI lv0 v0; have t1 := cell_chain hI lv0 v1; have t2 := cell_chain hI lv2 v2; go_simp; exact hKv)
        intro Kd hKd
        go_simp
        refine hKd _ ?_
        clear hKd Kd
        apply anyI_step 3 rfl (by kernel_rfl)
        focus (intro wI hI Kv hKv; have t0 := cell_chain hI lv0 v0; have t1 := cell_chain hI lv0 v1; have t2 := cell_chain hI lv2 v2; go_simp; exact hKv)
        intro Kd hKd
        go_simp
        refine hKd _ ?_
        clear hKd Kd
        apply anyI_step 4 rfl (by kernel_rfl)
        focus (intro wI hI Kv hKv; have t0 := cell_chain hI lv0 v0; have t1 := cell_chain hI lv0 v1; have t2 := cell_chain hI lv2 v2; go_simp; exact hKv)
        intro Kd hKd
        go_simp
        refine hKd _ ?_
        clear hKd Kd
        apply anyI_step 5 rfl (by kernel_rfl)
        focus (intro wI hI Kv hKv; go_simp; exact ⟨_, (HFI.out _ hI), hKv⟩)
        intro Kd hKd
        go_simp
        refine hKd _ ?_
        clear hKd Kd
        apply anyI_step 6 rfl (by kernel_rfl)
        focus (intro wI hI Kv hKv; go_simp; exact hKv)
        intro Kd hKd
        go_simp
        refine hKd _ ?_
        clear hKd Kd
        refine anyI_one' 7 rfl (by kernel_rfl) ((Below.refl _ _).drew) (fun Kd hKd => ?_)
        go_wp2_with (go_at_call 83; go_must (refine (Move_any N A c rs B d m q.st ⟨x, setQ mv⟩ _ (by exact HAV.out.drew) (by exact HMV.out.drew) HFM.out HOK.out.st HX0.out HX1.out).mono ?_); rintro e w4 ⟨rfl, hB4⟩; simp only [HACT.out])
        have hB4' : Below V.heap.size V w4 := (Below.refl _ V).drew.trans hB4
        apply anyI_step 8 rfl (by kernel_rfl)
        focus (intro wI hI Kv hKv; go_simp; exact hKv)
        intro Kd hKd
        go_simp
        refine hKd _ ?_
        clear hKd Kd
        apply anyI_step 9 rfl (by kernel_rfl)
        focus (intro wI hI Kv hKv; go_simp; exact hKv)
        intro Kd hKd
        go_simp
        refine hKd _ ?_
        clear hKd Kd
        apply anyI_step 10 rfl (by kernel_rfl)
        focus (intro wI hI Kv hKv; go_simp; exact hKv)
        intro Kd hKd
        go_simp
        refine hKd _ ?_
        clear hKd Kd
        apply anyI_step 11 rfl (by kernel_rfl)
        focus (intro wI hI Kv hKv; go_simp; exact hKv)
        intro Kd hKd
        go_simp
        refine hKd _ ?_
        clear hKd Kd
        refine anyI_end (by kernel_rfl) (hB4') (hQd _ _ ?_)
        clear hQd Qd
        have HFV4 : Hid (Frame (fun b => b = w.heap.size + 2) w1 w4) := HFV.out.trans (Frame.of_all (S := fun _ => False) hB4') (fun _ _ h => h.elim)
        have HD4 : Hid (Blk w4 (w.heap.size + 2) (.cells (ints mv).toArray 3)) := HDV.out.below hB4' HDV.out.lt
        have HO4 : Hid (w4.ownsRow w1.heap.size 3 1 u10 k (ints q.out)) := own_frame HOV.out (Frame.of_all (S := fun _ => False) hB4') (fun _ _ h => h)
        have hs4 := hB4'.size
        have hsV := HFV.out.size
        clear hB4 hB4' v0 v1 v2
        go_wp2_with (at_builtin; go_must (refine wpList_app1' rInt _ rfl _ _ rfl HO4.out rfl [_] 1 rfl rfl (by simp [Value.oneCell']) (by omega) (by omega) ?_); intro vo' w6 ho6 hB6 hg6 hloc6)
        go_roundw
        case rel =>
          have hF6 := Frame.of_grown hg6
          have hn : ∀ b, b < w1.heap.size → ¬ u10.ownBlock = some b := fun b hb e => by have := (HO4.out.lt _ e).1; omega
          refine ⟨k + 1, _, by omega, by go_num, (rnTo_step HQT.out HX.out).trans HST.out, rfl, ?_, ?_, HFV4.out.trans hF6 (fun b hb e => (hn b hb e).elim)⟩
          · simpa [ints] using ho6
          · exact HD4.out.frame hF6 (hn _ (by omega))
        case measure => simp [intOf]; omega
      · obtain ⟨⟨hr0, hr1⟩, _⟩ := hrule.resolve_left hneg
        obtain ⟨r, rfl⟩ := Int.eq_ofNat_of_zero_le hr0
        have hrl' : r < rs.length := by omega
        obtain ⟨rr, hrr⟩ : ∃ rr, Hid (rs[r]? = some rr) := ⟨_, List.getElem?_eq_getElem hrl'⟩
        have hm6 : m1.length ≤ 6 := by omega
        have hgr := HGood.out rr (List.mem_of_getElem? hrr.out)
        have HBR : Hid (isB rr) := HBA.out rr (List.mem_of_getElem? hrr.out)
        have HLM : Hid (∀ z ∈ memL rr, z.toNat < m1.length) := by
          intro z hz
          have := memL_bd (n := N) (by omega) hgr hz
          rw [hml1]
          simpa using this
        have HBD1 : Hid (∀ z ∈ m1, -1000 ≤ z ∧ z ≤ 1000) := by
          intro z hz
          have := HOK1.out.bd z hz
          push_cast at this
          omega
        have HAP : Hid (ints rs ≠ [] → ∀ a, A = some a → a.block ≠ w.heap.size + 2) := fun hn a ha e => by have := hA.lt hn ha; omega
        have HTK : Hid (okTake rr m1 = withinI rr (setQ m1)) := okTake_within hm6 HBR.out HLM.out HNN1.out
        have HGR : Hid (rs.getD r 0 = rr) := by show _ = _; simp only [List.getD, hrr.out, Option.getD_some]
        have hd0 : decide (0 ≤ (r : Int)) = true := by simp
        have HBWW : Hid (Below w.heap.size w W) := HB2.out.trans (HFR.out.below (B := w.heap.size) (fun b e => by omega) (by omega))
        have HAW : Hid (Cells W A (ints rs)) := hA.below HBWW.out (Nat.le_refl _)
        have HML1 := Lib.hid hml1
        have e93 := take_any93 N A c rs (w.heap.size + 2) m1 N r rr W HAW.out hrr HDW.out hm6 HAP.out HBD1
        rw [HML1.out] at e93
        have HE93 := Lib.hid e93
        clear hrule hr0 hr1 hgr e93
        cases hw : withinI rr (setQ m1) with
        | false =>
          have HFALL : Hid (rnTo rs m N l l.length = none) := by
            refine rnTo_fall HQT.out HX.out ?_
            unfold rnStep
            rw [HACT.out, if_neg (by simp only; omega), HM1.out]
            simp only [Int.toNat_natCast]
            rw [HGR.out, hw]
            rfl
          rw [hw] at HTK
          clear hw
          go_wp2_with fail
          rw [HW.out]
          refine HE93.out.mono ?_
          rintro e w5 ⟨rfl, _, hF5⟩
          rw [HTK.out]
          have HBW5 : Hid (Below w.heap.size w w5) := HBWW.out.trans (hF5.below (B := w.heap.size) (fun b e => by omega) (by omega))
          clear hF5
          go_wp2
          refine bodyPost_ret (v := .tuple #[.slice none 0 0, .slice none 0 0, .bool false]) (results_ttt rfl rfl rfl rfl) rfl ⟨?_, HBW5.out⟩
          rw [HFALL.out]
          rfl
        | true =>
          have HST : Hid (rnStep rs m q x = some ⟨takeQ rr m1, nextI rs ⟨(r : Int), next⟩ ⟨x, setQ (takeQ rr m1)⟩, q.out ++ [(r : Int)]⟩) := by
            show _ = _
            unfold rnStep
            rw [HACT.out, if_neg (by simp only; omega), HM1.out]
            simp only [Int.toNat_natCast]
            rw [HGR.out, hw, if_pos rfl]
          rw [hw] at HTK
          clear hw
          go_wp2_with fail
          rw [HW.out]
          refine HE93.out.mono ?_
          rintro e V ⟨rfl, ⟨ms, hms, hml, hmt⟩, hF5⟩
          rw [HTK.out]
          have hmt := hmt HTK.out
          rw [← HML1.out, decTo_takeQ HLM.out hm6] at hmt
          obtain ⟨mv, hmv⟩ : ∃ mv, mv = takeQ rr m1 := ⟨_, rfl⟩
          rw [← hmv] at hmt HST
          rw [hmt] at hms hml
          have hmlv := hml
          have HDV := Lib.hid hms
          have HGV := Lib.hid (HGWW.out.frame hF5 (by omega))
          have HMBV := Lib.hid (HMWW.out.frame hF5 (by omega))
          have HOV : Hid (V.ownsRow w1.heap.size 3 1 u10 k (ints q.out)) := own_frame HOW.out hF5 (fun g hg e => by have := (HOW.out.lt _ hg).1; omega)
          have HFV : Hid (Frame (fun b => b = w.heap.size + 2) w1 V) := HFR.out.trans hF5 (fun _ _ e => e)
          have hsz5 := hF5.size
          clear hms hml hF5 hcq hfq hixq hix hcx g0 g1 g2 hix2 hix3 k2 k3 hc2 hr3
          clear hmv
          go_wp2_with fail
          rw [← hS]
          clear hS
          have HMLV := Lib.hid hmlv
          have HFI : Hid (∀ w', Below V.heap.size V w' → Calls Try.prog 92 #[.slice (some ⟨w.heap.size + 2, 0, none⟩) N N] w' fun e w'' => e = .returned (.int .i64 (setQ mv)) ∧ w'' = w') := by
            intro w' hI
            have hcm : Cells V (some ⟨w.heap.size + 2, 0, none⟩) (ints mv) := blk_cells HDV.out (by simp [ints]; have := HMLV.out; omega)
            have e := Filled_any mv (some ⟨w.heap.size + 2, 0, none⟩) N w' (hcm.below hI (Nat.le_refl _)) (by have := HMLV.out; omega)
            rw [HMLV.out] at e
            exact e.mono fun _ _ h => ⟨h.1, h.2.symm⟩
          have v0 := HGV.out.cell 0 (v := .int .i64 (N : Int)) rfl
          have v1 := HGV.out.cell 1 (v := .slice A rs.length c) rfl
          have v2 := HMBV.out.cell 0 (v := .slice B m.length d) rfl
          have lv0 := HGV.out.lt
          have lv2 := HMBV.out.lt
          have HBV : Hid (Below w.heap.size w V) := HB2.out.trans (HFV.out.below (B := w.heap.size) (fun b e => by omega) (by omega))
          have HAV := Lib.hid (hA.below HBV.out (Nat.le_refl _))
          have HMV := Lib.hid (hM.below HBV.out (Nat.le_refl _))
          clear hmlv
          refine draw (fun w' => Below V.heap.size V w') 12 rfl (by kernel_rfl) (fun Qd hQd => ?_)
          apply anyI_step 0 rfl (by kernel_rfl)
          focus (intro wI hI Kv hKv; have t0 := cell_chain hI lv0 v0; have t1 := cell_chain hI lv0 v1; have t2 := cell_chain hI lv2 v2; go_simp; exact hKv)
          intro Kd hKd
          go_simp
          refine hKd _ ?_
          clear hKd Kd
          apply anyI_step 1 rfl (by kernel_rfl)
          focus (intro wI hI Kv hKv; have t0 := cell_chain hI lv0 v0; have t1 := cell_chain hI lv0 v1; have t2 := cell_chain hI lv2 v2; go_simp; exact hKv)
          intro Kd hKd
          go_simp
          refine hKd _ ?_
          clear hKd Kd
          apply anyI_step 2 rfl (by kernel_rfl)
          focus (intro wI hI Kv hKv; have t0 := cell_chain hI lv0 v0; have t1 := cell_chain hI lv0 v1; have t2 := cell_chain hI lv2 v2; go_simp; exact hKv)
          intro Kd hKd
          go_simp
          refine hKd _ ?_
          clear hKd Kd
          apply anyI_step 3 rfl (by kernel_rfl)
          focus (intro wI hI Kv hKv; have t0 := cell_chain hI lv0 v0; have t1 := cell_chain hI lv0 v1; have t2 := cell_chain hI lv2 v2; go_simp; exact hKv)
          intro Kd hKd
          go_simp
          refine hKd _ ?_
          clear hKd Kd
          apply anyI_step 4 rfl (by kernel_rfl)
          focus (intro wI hI Kv hKv; have t0 := cell_chain hI lv0 v0; have t1 := cell_chain hI lv0 v1; have t2 := cell_chain hI lv2 v2; go_simp; exact hKv)
          intro Kd hKd
          go_simp
          refine hKd _ ?_
          clear hKd Kd
          apply anyI_step 5 rfl (by kernel_rfl)
          focus (intro wI hI Kv hKv; go_simp; exact ⟨_, (HFI.out _ hI), hKv⟩)
          intro Kd hKd
          go_simp
          refine hKd _ ?_
          clear hKd Kd
          apply anyI_step 6 rfl (by kernel_rfl)
          focus (intro wI hI Kv hKv; go_simp; exact hKv)
          intro Kd hKd
          go_simp
          refine hKd _ ?_
          clear hKd Kd
          refine anyI_one' 7 rfl (by kernel_rfl) ((Below.refl _ _).drew) (fun Kd hKd => ?_)
          go_wp2_with (go_at_call 83; go_must (refine (Move_any N A c rs B d m q.st ⟨x, setQ mv⟩ _ (by exact HAV.out.drew) (by exact HMV.out.drew) HFM.out HOK.out.st HX0.out HX1.out).mono ?_); rintro e w4 ⟨rfl, hB4⟩; simp only [HACT.out])
          have hB4' : Below V.heap.size V w4 := (Below.refl _ V).drew.trans hB4
          apply anyI_step 8 rfl (by kernel_rfl)
          focus (intro wI hI Kv hKv; go_simp; exact hKv)
          intro Kd hKd
          go_simp
          refine hKd _ ?_
          clear hKd Kd
          apply anyI_step 9 rfl (by kernel_rfl)
          focus (intro wI hI Kv hKv; go_simp; exact hKv)
          intro Kd hKd
          go_simp
          refine hKd _ ?_
          clear hKd Kd
          apply anyI_step 10 rfl (by kernel_rfl)
          focus (intro wI hI Kv hKv; go_simp; exact hKv)
          intro Kd hKd
          go_simp
          refine hKd _ ?_
          clear hKd Kd
          apply anyI_step 11 rfl (by kernel_rfl)
          focus (intro wI hI Kv hKv; go_simp; exact hKv)
          intro Kd hKd
          go_simp
          refine hKd _ ?_
          clear hKd Kd
          refine anyI_end (by kernel_rfl) (hB4') (hQd _ _ ?_)
          clear hQd Qd
          have HFV4 : Hid (Frame (fun b => b = w.heap.size + 2) w1 w4) := HFV.out.trans (Frame.of_all (S := fun _ => False) hB4') (fun _ _ h => h.elim)
          have HD4 : Hid (Blk w4 (w.heap.size + 2) (.cells (ints mv).toArray 3)) := HDV.out.below hB4' HDV.out.lt
          have HO4 : Hid (w4.ownsRow w1.heap.size 3 1 u10 k (ints q.out)) := own_frame HOV.out (Frame.of_all (S := fun _ => False) hB4') (fun _ _ h => h)
          have hs4 := hB4'.size
          have hsV := HFV.out.size
          clear hB4 hB4' v0 v1 v2
          go_wp2_with (at_builtin; go_must (refine wpList_app1' rInt _ rfl _ _ rfl HO4.out rfl [_] 1 rfl rfl (by simp [Value.oneCell']) (by omega) (by omega) ?_); intro vo' w6 ho6 hB6 hg6 hloc6)
          go_roundw
          case rel =>
            have hF6 := Frame.of_grown hg6
            have hn : ∀ b, b < w1.heap.size → ¬ u10.ownBlock = some b := fun b hb e => by have := (HO4.out.lt _ e).1; omega
            refine ⟨k + 1, _, by omega, by go_num, (rnTo_step HQT.out HX.out).trans HST.out, rfl, ?_, ?_, HFV4.out.trans hF6 (fun b hb e => (hn b hb e).elim)⟩
            · simpa [ints] using ho6
            · exact HD4.out.frame hF6 (hn _ (by omega))
          case measure => simp [intOf]; omega
    · obtain rfl : k = l.length := by omega
      have hq1 := HOL.out
      have hq2 := HLEN.out
      obtain ⟨A', c', hv, hnew⟩ := own_new HOWN.out (by simp [ints]; omega)
      subst hv
      go_wp2
      refine bodyPost_ret (v := .tuple #[.slice A' l.length c', .slice (some ⟨w.heap.size + 2, 0, none⟩) N N, .bool true]) (results_ttt rfl rfl rfl rfl) rfl ⟨?_, HFw.out⟩
      rw [HQT.out]
      exact ⟨A', c', some ⟨w.heap.size + 2, 0, none⟩, N, by rw [hq1, hq2], hnew.1, blk_cells HD1.out (by simp [ints]; omega)⟩
end Go.Proofs.Ytlnonadkdonhmaa

/- Contract: Run of the program. -/
namespace Go.Proofs.Ytlnonadkdonhmaa
open Go.RowKit Go.Maps

def runB (n : Int) (rs : List Int) (m : Mach) (l : List Int) : Bool := comeI n rs l && formedA n rs m
/-- What the program's Run answers for what the plain run gives. -/
def RunP (o : Option RnS) (e : Ending) (w' : World) : Prop :=
  match o with
  | none => e = .returned (.tuple #[.slice none 0 0, .slice none 0 0, .int .i64 7])
  | some q => ∃ A' c' B' d', e = .returned (.tuple #[.slice A' q.out.length c', .slice B' q.many.length d', .int .i64 0]) ∧ Cells w' A' (ints q.out) ∧ Cells w' B' (ints q.many)


theorem Qs.drew' {w : World} {bq bD : Nat} {n : Int} {A : Option Addr} {c : Nat} {rs many : List Int} {fv : Value} (h : Qs w bq bD n A c rs many fv) : Qs w.drew bq bD n A c rs many fv := ⟨h.q.drew, h.m.drew, h.r.drew⟩
set_option maxRecDepth 100000 in
set_option maxHeartbeats 30000000 in
theorem Run_no (n : Int) (A : Option Addr) (c : Nat) (rs : List Int) (B : Option Addr) (d : Nat) (m : Mach) (D : Option Addr) (f : Nat) (l : List Int) (w : World) (hA : Cells w A (ints rs)) (hM : MachAt w B m) (hD : Cells w D (ints l)) (hb : runB n rs m l = false) :
    Calls Try.prog 54 #[.agg #[.int .i64 n, .slice A rs.length c], .agg #[.slice B m.length d], .slice D l.length f] w fun e w' => e = .returned (.tuple #[.slice none 0 0, .slice none 0 0, .int .i64 2]) ∧ Below w.heap.size w w' := by
  cases hc : comeI n rs l with
  | false =>
    have HC := Lib.hid hc
    clear hb hc
    have HB0 : Hid (Below w.heap.size w (gbox w n A rs.length c B m.length d)) := gbox_below w n A rs.length c B m.length d
    have HA0 := Lib.hid (hA.below HB0.out (Nat.le_refl _))
    have HM0 := Lib.hid (hM.below HB0.out (Nat.le_refl _))
    have hgm := gm_new w n A rs.length c B m.length d
    have HD0 := Lib.hid (hD.below HB0.out (Nat.le_refl _))
    go_enter Try.func54, Try.ntmps54
    go_wp2_with fail
    obtain ⟨W, hW⟩ : ∃ W, gbox w n A rs.length c B m.length d = W := ⟨_, rfl⟩
    have hW' : (w.alloc (.cells #[.int .i64 n, .slice A rs.length c] 24)).alloc (.cells #[.slice B m.length d] 27) = W := hW
    rw [hW] at HB0 HA0 HM0 HD0 hgm
    rw [hW']
    have c0 := hgm.g.cell 0 (v := .int .i64 n) rfl
    have c1 := hgm.g.cell 1 (v := .slice A rs.length c) rfl
    have c2 := hgm.m.cell 0 (v := .slice B m.length d) rfl
    have hl0 := hgm.g.lt
    have hl1 := hgm.m.lt
    have HGB := Lib.hid hgm.g
    have HMB := Lib.hid hgm.m
    clear hW hW' hgm
    refine (come_any n A c rs D f l W HA0.out HD0.out).mono ?_
    rintro e w1 ⟨rfl, hB1⟩
    rw [HC.out]
    have d0 := cell_chain hB1 hl0 c0
    have d1 := cell_chain hB1 hl0 c1
    have d2 := cell_chain hB1 hl1 c2
    go_wp2
    exact bodyPost_ret (v := .tuple #[.slice none 0 0, .slice none 0 0, .int .i64 2]) (results_ttt rfl rfl rfl rfl) rfl ⟨rfl, below_in HB0.out hB1⟩
  | true =>
    have hf : formedA n rs m = false := by
      unfold runB at hb
      rw [hc] at hb
      simpa using hb
    have HC := Lib.hid hc
    have HF : Hid (errI (formedA n rs m) = 2) := by show _ = _; rw [hf]; rfl
    clear hb hc hf
    have HB0 : Hid (Below w.heap.size w (gbox w n A rs.length c B m.length d)) := gbox_below w n A rs.length c B m.length d
    have HA0 := Lib.hid (hA.below HB0.out (Nat.le_refl _))
    have HM0 := Lib.hid (hM.below HB0.out (Nat.le_refl _))
    have hgm := gm_new w n A rs.length c B m.length d
    have HD0 := Lib.hid (hD.below HB0.out (Nat.le_refl _))
    go_enter Try.func54, Try.ntmps54
    go_wp2_with fail
    obtain ⟨W, hW⟩ : ∃ W, gbox w n A rs.length c B m.length d = W := ⟨_, rfl⟩
    have hW' : (w.alloc (.cells #[.int .i64 n, .slice A rs.length c] 24)).alloc (.cells #[.slice B m.length d] 27) = W := hW
    rw [hW] at HB0 HA0 HM0 HD0 hgm
    rw [hW']
    have c0 := hgm.g.cell 0 (v := .int .i64 n) rfl
    have c1 := hgm.g.cell 1 (v := .slice A rs.length c) rfl
    have c2 := hgm.m.cell 0 (v := .slice B m.length d) rfl
    have hl0 := hgm.g.lt
    have hl1 := hgm.m.lt
    have HGB := Lib.hid hgm.g
    have HMB := Lib.hid hgm.m
    clear hW hW' hgm
    refine (come_any n A c rs D f l W HA0.out HD0.out).mono ?_
    rintro e w1 ⟨rfl, hB1⟩
    rw [HC.out]
    have d0 := cell_chain hB1 hl0 c0
    have d1 := cell_chain hB1 hl0 c1
    have d2 := cell_chain hB1 hl1 c2
    go_wp2_with (go_at_call 22; go_must (refine (Formed_any n A c rs B d m w1 (HA0.out.below hB1 (Nat.le_refl _)) (HM0.out.below hB1 (Nat.le_refl _))).mono ?_); rintro e w2 ⟨rfl, hB2⟩; rw [HF.out])
    exact bodyPost_ret (v := .tuple #[.slice none 0 0, .slice none 0 0, .int .i64 2]) (results_ttt rfl rfl rfl rfl) rfl ⟨rfl, below_in HB0.out (below_in hB1 hB2)⟩


set_option maxRecDepth 100000 in
set_option maxHeartbeats 3000000 in
theorem Run_yes (N : Nat) (A : Option Addr) (c : Nat) (rs : List Int) (B : Option Addr) (d : Nat) (m : Mach) (D : Option Addr) (f : Nat) (l : List Int) (w : World) (hA : Cells w A (ints rs)) (hM : MachAt w B m) (hD : Cells w D (ints l)) (hb : runB N rs m l = true) :
    Calls Try.prog 54 #[.agg #[.int .i64 (N : Int), .slice A rs.length c], .agg #[.slice B m.length d], .slice D l.length f] w fun e w' => RunP (rnTo rs m N l l.length) e w' ∧ Below w.heap.size w w' := by
  simp only [runB, Bool.and_eq_true] at hb
  obtain ⟨hc, hf⟩ := hb
  have HC := Lib.hid hc
  have HFM := Lib.hid hf
  have HFE : Hid (errI (formedA N rs m) = 0) := by show _ = _; rw [hf]; rfl
  simp only [comeI, Bool.and_eq_true, decide_eq_true_eq, Bool.not_eq_true', List.any_eq_false] at hc
  obtain ⟨⟨hg, hll⟩, hbad⟩ := hc
  have hl : Hid (∀ x ∈ l, 0 ≤ x ∧ x < (N : Int)) := by
    intro x hx
    have := hbad x hx
    simp [badC] at this
    omega
  obtain ⟨hn1, hn6, hrl, hgood⟩ := grpOk_true hg
  have HBA := Lib.hid (bAll_of hg)
  have HGood : Hid (∀ r ∈ rs, goodR N r = true) := by rw [List.all_eq_true] at hgood; exact hgood
  obtain ⟨i0, hi, hz0, hz1, hz2⟩ := info_parts info3
  clear hg hgood hf hbad
  obtain ⟨n, hn⟩ : ∃ n, (N : Int) = n := ⟨_, rfl⟩
  have HNN := Lib.hid hn
  rw [hn] at HC HFE ⊢
  clear hn
  have HB0 : Hid (Below w.heap.size w (gbox w n A rs.length c B m.length d)) := gbox_below w n A rs.length c B m.length d
  have HA0 := Lib.hid (hA.below HB0.out (Nat.le_refl _))
  have HM0 := Lib.hid (hM.below HB0.out (Nat.le_refl _))
  have hgm := gm_new w n A rs.length c B m.length d
  have HD0 := Lib.hid (hD.below HB0.out (Nat.le_refl _))
  go_enter Try.func54, Try.ntmps54
  go_wp2_with fail
  obtain ⟨W, hW⟩ : ∃ W, gbox w n A rs.length c B m.length d = W := ⟨_, rfl⟩
  have hW' : (w.alloc (.cells #[.int .i64 n, .slice A rs.length c] 24)).alloc (.cells #[.slice B m.length d] 27) = W := hW
  rw [hW] at HB0 HA0 HM0 HD0 hgm
  rw [hW']
  have c0 := hgm.g.cell 0 (v := .int .i64 n) rfl
  have c1 := hgm.g.cell 1 (v := .slice A rs.length c) rfl
  have c2 := hgm.m.cell 0 (v := .slice B m.length d) rfl
  have hl0 := hgm.g.lt
  have hl1 := hgm.m.lt
  have HGB := Lib.hid hgm.g
  have HMB := Lib.hid hgm.m
  clear hW hW' hgm
  refine (come_any n A c rs D f l W HA0.out HD0.out).mono ?_
  rintro e w1 ⟨rfl, hB1⟩
  rw [HC.out]
  have d0 := cell_chain hB1 hl0 c0
  have d1 := cell_chain hB1 hl0 c1
  have d2 := cell_chain hB1 hl1 c2
  have HB1 := Lib.hid hB1
  have hs1 := hB1.size
  go_wp2_with (go_at_call 22; go_must (refine (Formed_any n A c rs B d m w1 (HA0.out.below hB1 (Nat.le_refl _)) (HM0.out.below hB1 (Nat.le_refl _))).mono ?_); rintro e w2 ⟨rfl, hB2⟩; rw [HFE.out])
  have hnn := HNN.out
  clear HNN d0 d1 d2
  subst hnn
  have HB2 : Hid (Below W.heap.size W w2) := below_in HB1.out hB2
  have HG2 := Lib.hid (HGB.out.below HB2.out hl0)
  have HM2 := Lib.hid (HMB.out.below HB2.out hl1)
  have e0 := HG2.out.cell 0 (v := .int .i64 (N : Int)) rfl
  have e1 := HG2.out.cell 1 (v := .slice A rs.length c) rfl
  have hl2 := HG2.out.lt
  have hs2 := HB2.out.size
  have HR2 : Hid (Cells w2 A (ints rs)) := HA0.out.below HB2.out (Nat.le_refl _)
  have HBw2 : Hid (Below w.heap.size w w2) := below_in HB0.out HB2.out
  have hsw := HB0.out.size
  clear hB1 hB2 c0 c1 c2
  refine draw (fun w' => Below w2.heap.size w2 w') 7 rfl (by kernel_rfl) (fun Qd hQd => ?_)
  apply anyI_step 0 rfl (by kernel_rfl)
  focus (intro wI hI Kv hKv; have t0 := cell_chain hI hl2 e0; have t1 := cell_chain hI hl2 e1; go_simp; exact hKv)
  intro Kd hKd
  go_simp
  refine hKd _ ?_
  clear hKd Kd
  apply anyI_step 1 rfl (by kernel_rfl)
  focus (intro wI hI Kv hKv; have t0 := cell_chain hI hl2 e0; have t1 := cell_chain hI hl2 e1; go_simp; exact hKv)
  intro Kd hKd
  go_simp
  refine hKd _ ?_
  clear hKd Kd
  apply anyI_step 2 rfl (by kernel_rfl)
  focus (intro wI hI Kv hKv; have t0 := cell_chain hI hl2 e0; have t1 := cell_chain hI hl2 e1; go_simp; exact hKv)
  intro Kd hKd
  go_simp
  refine hKd _ ?_
  clear hKd Kd
  refine anyI_one' 3 rfl (by kernel_rfl) ((Below.refl _ _).drew) (fun Kd hKd => ?_)
  go_wp2_with (at_make; go_must (refine wpList_make_full _ rfl _ _ 22 rfl w2.heap.size 3 i0 (.int .i64 0) 1 Try.underlying22 hi hz0 hz1 .i64 .i64 N N N rfl rfl rfl rfl (by rw [hz2]; omega) (by unfold maxLen; omega) (Nat.le_refl _) ?_); intro w3 ho3 hg3)
  have hg3 : w2.grownBy w3 none := ⟨hg3.os, hg3.tape, hg3.output, hg3.size, hg3.block⟩
  apply anyI_step 4 rfl (by kernel_rfl)
  focus (intro wI hI Kv hKv; go_simp; exact hKv)
  intro Kd hKd
  go_simp
  refine hKd _ ?_
  clear hKd Kd
  refine anyI_one' 5 rfl (by kernel_rfl) (((Below.refl _ w2).grown hg3 (Nat.le_refl _) (fun k e => by cases e))) (fun Kd hKd => ?_)
  go_wp2
  obtain ⟨V0, hV0⟩ : ∃ V0, w3.alloc (.cells #[.int .i64 (N : Int), .slice A rs.length c, .slice (some ⟨w2.heap.size, 0, none⟩) N N, Value.nilFunc] 136) = V0 := ⟨_, rfl⟩
  rw [hV0]
  have hB23 : Below w2.heap.size w2 w3 := (Below.refl _ w2).grown hg3 (Nat.le_refl _) (fun k e => by cases e)
  have hB2V : Below w2.heap.size w2 V0 := by rw [← hV0]; exact hB23.alloc (by have := hB23.size; omega) _
  apply anyI_step 6 rfl (by kernel_rfl)
  focus (intro wI hI Kv hKv; go_simp; exact hKv)
  intro Kd hKd
  go_simp
  refine hKd _ ?_
  clear hKd Kd
  refine anyI_end (by kernel_rfl) (hB2V) (hQd _ _ ?_)
  clear hQd Qd
  rw [made_ints] at ho3
  have hD3 : Blk w3 w2.heap.size (.cells (ints (List.replicate N 0)).toArray 3) := own_full ho3
  have hszD := hD3.lt
  have hsV : V0.heap.size = w3.heap.size + 1 := by rw [← hV0]; simp
  have HQ0 : Hid (Qs V0 w3.heap.size w2.heap.size N A c rs (List.replicate N 0) Value.nilFunc) := by
    refine ⟨?_, ?_, HR2.out.below hB2V (Nat.le_refl _)⟩
    · rw [← hV0, List.length_replicate]; exact Blk.new _ _
    · rw [← hV0]; exact hD3.alloc _
  have HG0 := Lib.hid (HG2.out.below hB2V hl2)
  have hl2' := HM2.out.lt
  have HMB0 := Lib.hid (HM2.out.below hB2V hl2')
  have HBV0 : Hid (Below w.heap.size w V0) := below_in HBw2.out hB2V
  obtain ⟨bq, hbq⟩ : ∃ bq, w3.heap.size = bq := ⟨_, rfl⟩
  obtain ⟨bD, hbD⟩ : ∃ bD, w2.heap.size = bD := ⟨_, rfl⟩
  rw [hbq] at HQ0 hszD hsV ⊢
  rw [hbD] at HQ0 hszD hl2 hl2' ⊢
  have hbDq : bD < bq := hszD
  clear hV0 hB23 hB2V hD3 ho3 hg3 hbq hbD e0 e1 HG2 HM2 HGB HMB HR2 hl0 hl1 hs2 hszD HBw2
  go_wp2
  go_loopw [10, 11, 33] (fun v s i wr => ∃ (k : Nat) (q : RnS), k ≤ l.length ∧ i = .int .i64 k ∧ rnTo rs m N l k = some q ∧ s = .int .i64 q.st ∧ wr.ownsRow V0.heap.size 3 1 v k (ints q.out) ∧ Qs wr bq bD N A c rs q.many Value.nilFunc ∧
      Frame (fun b => b = bD) V0 wr)
    (fun _ _ i _ => l.length - (intOf i).toNat)
  case atStart => exact ⟨0, _, Nat.zero_le _, rfl, rfl, rfl, World.ownsRow_nil _ _ _ _, HQ0.out, Frame.refl _ _⟩
  case round =>
    obtain ⟨k, q, hk, rfl, hq, rfl, hown, hqs, hF⟩ := hrel
    have HQT := Lib.hid hq
    have hok := rnTo_ok HFM.out hl.out k q hk hq
    have HNN : Hid (∀ x ∈ q.many, 0 ≤ x) := rn_nn HBA.out (by omega) HFM.out hl.out k q hk hq
    have HOWN := Lib.hid hown
    have HQS := Lib.hid hqs
    have HF := Lib.hid hF
    have HOK := Lib.hid hok
    have HOL := Lib.hid hok.out
    have HLEN := Lib.hid hok.ok.len
    have hszr := hF.size
    have HFw : Hid (Below w.heap.size w wr) := HBV0.out.trans (hF.below (B := w.heap.size) (fun b e => by omega) (by omega))
    have hgw := HG0.out.frame hF (by omega)
    have hmw := HMB0.out.frame hF (by omega)
    clear hq hok hown hqs hF
    by_cases hlt : k < l.length
    · obtain ⟨x, bx, ox, hx, hbx, hix, hcx⟩ := ints_at (c := f) (hD.below HFw.out (Nat.le_refl _)) Try.underlying22 szInt hlt
      have hxb := hl.out x (List.mem_of_getElem? hx)
      obtain ⟨x, rfl⟩ := Int.eq_ofNat_of_zero_le hxb.1
      have hxl : x < q.many.length := by rw [HLEN.out]; omega
      obtain ⟨y, hy⟩ : ∃ y, Hid (q.many[x]? = some y) := ⟨_, List.getElem?_eq_getElem hxl⟩
      have hyb := HOK.out.ok.bd y (List.mem_of_getElem? hy.out)
      have HX := Lib.hid hx
      have hxN : x < N := by omega
      obtain ⟨acts, hacts, hal, hact, hok2⟩ := actAt_ok HFM.out HOK.out.st hxb.1 hxb.2
      have hst := HOK.out.st
      simp only [stateB, Bool.and_eq_true, decide_eq_true_eq] at hst
      obtain ⟨S, hS⟩ := Int.eq_ofNat_of_zero_le hst.1
      have hSl : S < m.length := by omega
      obtain ⟨acts', D2, d2, b2, o2, hm2, hb2, hix2, hc2, hActs⟩ := mach_at (c := d) (k := S) hM hSl
      obtain rfl : acts = acts' := by
        rw [hS, Int.toNat_natCast, hm2] at hacts
        injection hacts with e
        exact e.symm
      obtain ⟨a, E3, e3, b3, o3, hy3, hb3, hix3, hr3, hn3, hE3⟩ := acts_at (c := d2) (k := x) hActs (by omega)
      obtain ⟨act, HACT⟩ : ∃ act, Hid (actAt m q.st x = act) := ⟨_, rfl⟩
      rw [HACT.out] at hact hok2
      obtain rfl : act = a := by rw [Int.toNat_natCast, hy3] at hact; injection hact with e; exact e.symm
      have HX0 : Hid ((0 : Int) ≤ (x : Int)) := hxb.1
      have HX1 : Hid ((x : Int) < (N : Int)) := hxb.2
      have HX60 : Hid ((x : Int) ≤ 60) := (by show (x : Int) ≤ 60; omega)
      obtain ⟨rule, next⟩ := act
      have HOKA := Lib.hid hok2
      simp only [actOkA, ruleOk, Bool.and_eq_true, Bool.or_eq_true, decide_eq_true_eq] at hok2
      obtain ⟨⟨hrule, hnl⟩, hnx⟩ := hok2
      clear hnl hnx
      simp only at hr3 hn3 hE3 hrule
      have hinc : Hid (incAt q.many x = q.many.set x (y + 1)) := by show _ = _; simp [incAt, List.getD, hy.out]
      obtain ⟨m1, HM1⟩ : ∃ m1, Hid (incAt q.many x = m1) := ⟨_, rfl⟩
      have hqml : q.many.length = N := HLEN.out
      have p2 := HQS.out.q.cell 2 (v := .slice (some ⟨bD, 0, none⟩) q.many.length q.many.length) rfl
      rw [hqml] at p2
      have hixq := ix_own (b := bD) (n := N) (c := N) Try.underlying22 szInt hxN
      have hcq := HQS.out.m.cell x (ints_get hy.out)
      have hfq := HQS.out.m.free x
      have k2 := cell_chain HFw.out hb2 hc2
      have k3 := cell_chain HFw.out hb3 hr3
      have k4 := cell_chain HFw.out hb3 hn3
      obtain ⟨ba, hba⟩ : ∃ ba, wr.heap.size = ba := ⟨_, rfl⟩
      obtain ⟨X, HW⟩ : ∃ X, Hid ((wr.setCell ⟨bD, x, none⟩ (.int .i64 (y + 1))).alloc (.cells #[.int .i64 rule, .slice E3 next.length e3] 103) = X) := ⟨_, rfl⟩
      have HFW0 : Hid (Frame (fun b => b = bD) wr (wr.setCell ⟨bD, x, none⟩ (.int .i64 (y + 1)))) := (Frame.refl (fun b => b = bD) wr).setCell (p := ⟨bD, x, none⟩) (.inl rfl) _
      have HFW : Hid (Frame (fun b => b = bD) wr X) := by rw [← HW.out]; exact HFW0.out.alloc _
      have HOK1 : Hid (QOk N (k + 1) m1) := by rw [← HM1.out]; exact HOK.out.ok.inc x
      have hml1 : m1.length = N := HOK1.out.len
      have HNN1 : Hid (∀ z ∈ m1, 0 ≤ z) := by rw [← HM1.out]; exact incAt_nn HNN.out
      have HQW : Hid (Qs X bq bD N A c rs m1 Value.nilFunc) := by
        refine ⟨?_, ?_, HQS.out.r.frame HFW.out (fun hn a ha e => by have := hA.lt hn ha; omega)⟩
        · have e := HQS.out.q.frame HFW.out (by omega)
          rw [hqml] at e
          rw [hml1]
          exact e
        · have e := (HQS.out.m.set x (.int .i64 (y + 1))).alloc (.cells #[.int .i64 rule, .slice E3 next.length e3] 103)
          rw [ints_set, HW.out, ← hinc.out, HM1.out] at e
          exact e
      have HGWW : Hid (Blk X w.heap.size (.cells #[.int .i64 (N : Int), .slice A rs.length c] 24)) := hgw.frame HFW.out (by omega)
      have HMWW : Hid (Blk X (w.heap.size + 1) (.cells #[.slice B m.length d] 27)) := hmw.frame HFW.out (by omega)
      have HABW : Hid (Blk X ba (.cells #[.int .i64 rule, .slice E3 next.length e3] 103)) := by
        have e := Blk.new (wr.setCell ⟨bD, x, none⟩ (.int .i64 (y + 1))) (.cells #[.int .i64 rule, .slice E3 next.length e3] 103)
        rw [HW.out] at e
        rw [← hba]
        show Blk X wr.heap.size _
        simpa [World.setCell] using e
      have HOW : Hid (X.ownsRow V0.heap.size 3 1 u10 k (ints q.out)) := own_frame HOWN.out HFW.out (fun g hg e => by have := (HOWN.out.lt g hg).1; omega)
      have HFR : Hid (Frame (fun b => b = bD) V0 X) := HF.out.trans HFW.out (fun b _ e => e)
      have hszW := HFW.out.size
      have HEW : Hid (Cells X E3 (ints next)) := (hE3.below HFw.out (Nat.le_refl _)).frame HFW.out (fun hn a ha e => by have := hE3.lt hn ha; omega)
      have HNB : Hid (ints next ≠ [] → ∀ a, E3 = some a → a.block < w.heap.size) := fun hn a ha => hE3.lt hn ha
      have g0 := hgw.cell 0 (v := .int .i64 (N : Int)) rfl
      have g1 := hgw.cell 1 (v := .slice A rs.length c) rfl
      have g2 := hmw.cell 0 (v := .slice B m.length d) rfl
      have lg0 := hgw.lt
      have lg1 := hmw.lt
      have lg2 := HQS.out.m.lt
      have lg3 := HQS.out.q.lt
      have z2 : b2 < wr.heap.size := by omega
      have z3 : b3 < wr.heap.size := by omega
      have n2 : b2 ≠ bD := by omega
      have n3 : b3 ≠ bD := by omega
      rw [hS]
      clear hx hst hacts hact hm2 hy3 hgw hmw hE3
      by_cases hneg : rule = -1
      · have HST : Hid (rnStep rs m q x = some ⟨m1, nextI rs ⟨rule, next⟩ ⟨x, setQ m1⟩, q.out ++ [rule]⟩) := by
          show _ = _
          unfold rnStep
          rw [HACT.out, if_pos (by simp only; omega), HM1.out]
        obtain ⟨V, hV⟩ : ∃ V, V = X := ⟨_, rfl⟩
        obtain ⟨mv, hmv⟩ : ∃ mv, mv = m1 := ⟨_, rfl⟩
        have HWX := HW
        have HVS : Hid (ba + 1 = V.heap.size) := by
          show _ = _
          rw [hV, ← HW.out, ← hba]
          simp [World.setCell]
        have HQV := HQW
        have HGV := HGWW
        have HABV := HABW
        have HOV := HOW
        have HFV := HFR
        have HEV := HEW
        have hmlv := hml1
        have hszV := hszW
        rw [← hV] at HWX HQV HGV HABV HOV HFV HEV hszV
        rw [← hmv] at HQV hmlv HST
        clear hV hmv
        have hd0 : decide (0 ≤ rule) = false := by simp <;> omega
        have HNEG := Lib.hid hneg
        clear hrule hneg
        have v2 := HABV.out.cell 0 (v := .int .i64 rule) rfl
        have lab := HABV.out.lt
        go_wp2_with (at_builtin; rw [HWX.out, HVS.out]; go_must (refine wpList_app1' rInt _ rfl _ _ rfl HOV.out rfl [_] 1 rfl rfl (by simp [Value.oneCell']) (by omega) (by omega) ?_); intro vo' w6 ho6 hB6 hg6 hloc6)
        have hF6 := Frame.of_grown hg6
        have hn6' : ∀ b, b < V0.heap.size → ¬ u10.ownBlock = some b := fun b hb e => by have := (HOV.out.lt _ e).1; omega
        have hnb : ¬ u10.ownBlock = some ba := own_ne HOV.out HABV.out (by decide)
        have HQ6 : Hid (Qs w6 bq bD N A c rs mv Value.nilFunc) := ⟨HQV.out.q.frame hF6 (hn6' _ (by omega)), HQV.out.m.frame hF6 (hn6' _ (by omega)), HQV.out.r.frame hF6 (fun hn a ha => hn6' _ (by have := hA.lt hn ha; omega))⟩
        have HG6 := Lib.hid (HGV.out.frame hF6 (hn6' _ (by omega)))
        have HAB6 := Lib.hid (HABV.out.frame hF6 hnb)
        have HE6 := Lib.hid (HEV.out.frame hF6 (fun hn a ha => hn6' _ (by have := HNB.out hn a ha; omega)))
        have x0 := HG6.out.cell 0 (v := .int .i64 (N : Int)) rfl
        have x1 := HG6.out.cell 1 (v := .slice A rs.length c) rfl
        have x2 := HAB6.out.cell 0 (v := .int .i64 rule) rfl
        have x3 := HAB6.out.cell 1 (v := .slice E3 next.length e3) rfl
        have lx0 := HG6.out.lt
        have lx2 := HAB6.out.lt
        have HO6 := Lib.hid ho6
        have HF6V : Hid (Frame (fun b => b = bD) V0 w6) := HFV.out.trans hF6 (fun b hb e => (hn6' b hb e).elim)
        have hm60 : mv.length ≤ 60 := by omega
        clear hF6 hg6 hB6 ho6 v2
        refine draw (fun w' => Below w6.heap.size w6 w') 8 rfl (by kernel_rfl) (fun Qd hQd => ?_)
        apply anyI_step 0 rfl (by kernel_rfl)
        focus (intro wI hI Kv hKv; have t0 := cell_chain hI lx0 x0; have t1 := cell_chain hI lx0 x1; have t2 := cell_chain hI lx2 x2; have t3 := cell_chain hI lx2 x3; go_simp; exact hKv)
        intro Kd hKd
        go_simp
        refine hKd _ ?_
        clear hKd Kd
        apply anyI_step 1 rfl (by kernel_rfl)
        focus (intro wI hI Kv hKv; have t0 := cell_chain hI lx0 x0; have t1 := cell_chain hI lx0 x1; have t2 := cell_chain hI lx2 x2; have t3 := cell_chain hI lx2 x3; go_simp; exact hKv)
        intro Kd hKd
        go_simp
        refine hKd _ ?_
        clear hKd Kd
        apply anyI_step 2 rfl (by kernel_rfl)
        focus (intro wI hI Kv hKv; have t0 := cell_chain hI lx0 x0; have t1 := cell_chain hI lx0 x1; have t2 := cell_chain hI lx2 x2; have t3 := cell_chain hI lx2 x3; go_simp; exact hKv)
        intro Kd hKd
        go_simp
        refine hKd _ ?_
        clear hKd Kd
        apply anyI_step 3 rfl (by kernel_rfl)
        focus (intro wI hI Kv hKv; have t0 := cell_chain hI lx0 x0; have t1 := cell_chain hI lx0 x1; have t2 := cell_chain hI lx2 x2; have t3 := cell_chain hI lx2 x3; go_simp; exact hKv)
        intro Kd hKd
        go_simp
        refine hKd _ ?_
        clear hKd Kd
        apply anyI_step 4 rfl (by kernel_rfl)
        focus (intro wI hI Kv hKv; go_simp; exact ⟨_, (set_any102 bq bD N A c rs mv _ _ (HQ6.out.later hI) hm60).mono (fun _ _ h => ⟨h.1, h.2.symm⟩), hKv⟩)
        intro Kd hKd
        go_simp
        refine hKd _ ?_
        clear hKd Kd
        apply anyI_step 5 rfl (by kernel_rfl)
        focus (intro wI hI Kv hKv; go_simp; exact hKv)
        intro Kd hKd
        go_simp
        refine hKd _ ?_
        clear hKd Kd
        refine anyI_one' 6 rfl (by kernel_rfl) ((Below.refl _ _).drew) (fun Kd hKd => ?_)
        go_wp2_with (go_at_call 81; go_must (refine (next_any N A c rs E3 e3 m.length ⟨rule, next⟩ ⟨x, setQ mv⟩ _ (by exact HQ6.out.r.drew) (by exact HE6.out.drew) HX0.out HX60.out HOKA.out).mono ?_); rintro e w7 ⟨rfl, hB7⟩)
        have hB7' : Below w6.heap.size w6 w7 := (Below.refl _ w6).drew.trans hB7
        apply anyI_step 7 rfl (by kernel_rfl)
        focus (intro wI hI Kv hKv; go_simp; exact hKv)
        intro Kd hKd
        go_simp
        refine hKd _ ?_
        clear hKd Kd
        refine anyI_end (by kernel_rfl) (hB7') (hQd _ _ ?_)
        clear hQd Qd
        have hs7 := hB7'.size
        go_wp2
        go_roundw
        case rel =>
          refine ⟨k + 1, _, by omega, by go_num, (rnTo_step HQT.out HX.out).trans HST.out, rfl, ?_, HQ6.out.later hB7', HF6V.out.trans (Frame.of_all (S := fun _ => False) hB7') (fun _ _ h => h.elim)⟩
          have e := own_frame HO6.out (Frame.of_all (S := fun _ => False) hB7') (fun _ _ h => h)
          simpa [ints] using e
        case measure => simp [intOf]; omega
      · obtain ⟨⟨hr0, hr1⟩, _⟩ := hrule.resolve_left hneg
        obtain ⟨r, hr⟩ := Int.eq_ofNat_of_zero_le hr0
        have hrl' : r < rs.length := by omega
        obtain ⟨rr, hrr⟩ : ∃ rr, Hid (rs[r]? = some rr) := ⟨_, List.getElem?_eq_getElem hrl'⟩
        have hm6 : m1.length ≤ 6 := by omega
        have hgr := HGood.out rr (List.mem_of_getElem? hrr.out)
        have HBR : Hid (isB rr) := HBA.out rr (List.mem_of_getElem? hrr.out)
        have HLM : Hid (∀ z ∈ memL rr, z.toNat < m1.length) := by
          intro z hz
          have := memL_bd (n := N) (by omega) hgr hz
          rw [hml1]
          simpa using this
        have HBD1 : Hid (∀ z ∈ m1, -1000 ≤ z ∧ z ≤ 1000) := by
          intro z hz
          have := HOK1.out.bd z hz
          push_cast at this
          omega
        have HGR : Hid (rs.getD r 0 = rr) := by show _ = _; simp only [List.getD, hrr.out, Option.getD_some]
        have hd0 : decide (0 ≤ rule) = true := by simp <;> omega
        have HRR := Lib.hid hr
        have HML1 := Lib.hid hml1
        obtain ⟨rx, b5, o5, hrx, hb5, hix5, hc5⟩ := ints_at (c := c) HQW.out.r Try.underlying22 szInt hrl'
        obtain rfl : rr = rx := by rw [hrr.out] at hrx; injection hrx
        rw [← hr] at hix5
        have e103 := fun (V : World) (h : Qs V bq bD N A c rs m1 Value.nilFunc) => take_any103 bq bD N A c rs m1 Value.nilFunc r rr V h hrr (by omega) HLM HBD1
        rw [← hr] at e103
        have HE103 := Lib.hid e103
        have HNG : Hid (¬ rule < 0) := by show ¬ rule < 0; omega
        have HTN : Hid (rule.toNat = r) := by show _ = _; omega
        have c0 := HGWW.out.cell 0 (v := .int .i64 (N : Int)) rfl
        have c1 := HGWW.out.cell 1 (v := .slice A rs.length c) rfl
        have c4 := HABW.out.cell 0 (v := .int .i64 rule) rfl
        have lc0 := HGWW.out.lt
        have lc4 := HABW.out.lt
        clear hrule hr0 hr1 hgr e103 hrx hr hneg
        cases hw : withinI rr (setQ m1) with
        | false =>
          have HFALL : Hid (rnTo rs m N l l.length = none) := by
            refine rnTo_fall HQT.out HX.out ?_
            unfold rnStep
            rw [HACT.out, if_neg HNG.out, HM1.out]
            simp only
            rw [HTN.out, HGR.out, hw]
            rfl
          have hw2 : (bits BinOp.andNot .i64 rr (setQ m1) != 0) = true := by
            unfold withinI at hw
            simpa using hw
          clear hw
          go_wp2
          rw [HW.out]
          clear hcq hfq hixq hix hcx g0 g1 g2 hix2 hix3 k2 k3 k4 hc2 hr3 hn3 p2
          refine draw (fun w' => Below X.heap.size X w') 10 rfl (by kernel_rfl) (fun Qd hQd => ?_)
          apply anyI_step 0 rfl (by kernel_rfl)
          focus (intro wI hI Kv hKv; have t0 := cell_chain hI lc0 c0; have t1 := cell_chain hI lc0 c1; have t2 := cell_chain hI lc4 c4; have t3 := cell_chain hI hb5 hc5; go_simp; exact hKv)
          intro Kd hKd
          go_simp
          refine hKd _ ?_
          clear hKd Kd
          apply anyI_step 2 rfl (by kernel_rfl)
          focus (intro wI hI Kv hKv; have t0 := cell_chain hI lc0 c0; have t1 := cell_chain hI lc0 c1; have t2 := cell_chain hI lc4 c4; have t3 := cell_chain hI hb5 hc5; go_simp; exact hKv)
          intro Kd hKd
          go_simp
          refine hKd _ ?_
          clear hKd Kd
          apply anyI_step 6 rfl (by kernel_rfl)
          focus (intro wI hI Kv hKv; have t0 := cell_chain hI lc0 c0; have t1 := cell_chain hI lc0 c1; have t2 := cell_chain hI lc4 c4; have t3 := cell_chain hI hb5 hc5; go_simp; exact hKv)
          intro Kd hKd
          go_simp
          refine hKd _ ?_
          clear hKd Kd
          apply anyI_step 1 rfl (by kernel_rfl)
          focus (intro wI hI Kv hKv; have t0 := cell_chain hI lc0 c0; have t1 := cell_chain hI lc0 c1; have t2 := cell_chain hI lc4 c4; have t3 := cell_chain hI hb5 hc5; go_simp; exact hKv)
          intro Kd hKd
          go_simp
          refine hKd _ ?_
          clear hKd Kd
          apply anyI_step 3 rfl (by kernel_rfl)
          focus (intro wI hI Kv hKv; have t0 := cell_chain hI lc0 c0; have t1 := cell_chain hI lc0 c1; have t2 := cell_chain hI lc4 c4; have t3 := cell_chain hI hb5 hc5; go_simp; exact hKv)
          intro Kd hKd
          go_simp
          refine hKd _ ?_
          clear hKd Kd
          apply anyI_step 4 rfl (by kernel_rfl)
          focus (intro wI hI Kv hKv; have t0 := cell_chain hI lc0 c0; have t1 := cell_chain hI lc0 c1; have t2 := cell_chain hI lc4 c4; have t3 := cell_chain hI hb5 hc5; go_simp; exact hKv)
          intro Kd hKd
          go_simp
          refine hKd _ ?_
          clear hKd Kd
          apply anyI_step 5 rfl (by kernel_rfl)
          focus (intro wI hI Kv hKv; have t0 := cell_chain hI lc0 c0; have t1 := cell_chain hI lc0 c1; have t2 := cell_chain hI lc4 c4; have t3 := cell_chain hI hb5 hc5; go_simp; exact hKv)
          intro Kd hKd
          go_simp
          refine hKd _ ?_
          clear hKd Kd
          apply anyI_step 7 rfl (by kernel_rfl)
          focus (intro wI hI Kv hKv; go_simp; exact ⟨_, (set_any102 bq bD N A c rs m1 _ _ (HQW.out.later hI) (by have := HML1.out; omega)).mono (fun _ _ h => ⟨h.1, h.2.symm⟩), hKv⟩)
          intro Kd hKd
          go_simp
          refine hKd _ ?_
          clear hKd Kd
          apply anyI_step 8 rfl (by kernel_rfl)
          focus (intro wI hI Kv hKv; go_simp; exact hKv)
          intro Kd hKd
          go_simp
          refine hKd _ ?_
          clear hKd Kd
          apply anyI_step 9 rfl (by kernel_rfl)
          focus (intro wI hI Kv hKv; go_simp; exact hKv)
          intro Kd hKd
          go_simp
          refine hKd _ ?_
          clear hKd Kd
          refine anyI_end (by kernel_rfl) ((Below.refl _ _).drew) (hQd _ _ ?_)
          clear hQd Qd
          have HBX : Hid (Below w.heap.size w X) := HBV0.out.trans (HFR.out.below (B := w.heap.size) (fun b e => by omega) (by omega))
          go_wp2
          refine bodyPost_ret (v := .tuple #[.slice none 0 0, .slice none 0 0, .int .i64 7]) (results_ttt rfl rfl rfl rfl) rfl ⟨?_, HBX.out.drew⟩
          rw [HFALL.out]
          rfl
        | true =>
          have HST : Hid (rnStep rs m q x = some ⟨takeQ rr m1, nextI rs ⟨rule, next⟩ ⟨x, setQ (takeQ rr m1)⟩, q.out ++ [rule]⟩) := by
            show _ = _
            unfold rnStep
            rw [HACT.out, if_neg HNG.out, HM1.out]
            simp only
            rw [HTN.out, HGR.out, hw, if_pos rfl]
          have hw2 : (bits BinOp.andNot .i64 rr (setQ m1) != 0) = false := by
            unfold withinI at hw
            simpa using hw
          clear hw
          go_wp2
          rw [HW.out]
          clear hcq hfq hixq hix hcx g0 g1 g2 hix2 hix3 k2 k3 k4 hc2 hr3 hn3 p2
          refine draw (fun w' => Below X.heap.size X w') 10 rfl (by kernel_rfl) (fun Qd hQd => ?_)
          apply anyI_step 0 rfl (by kernel_rfl)
          focus (intro wI hI Kv hKv; have t0 := cell_chain hI lc0 c0; have t1 := cell_chain hI lc0 c1; have t2 := cell_chain hI lc4 c4; have t3 := cell_chain hI hb5 hc5; go_simp; exact hKv)
          intro Kd hKd
          go_simp
          refine hKd _ ?_
          clear hKd Kd
          apply anyI_step 2 rfl (by kernel_rfl)
          focus (intro wI hI Kv hKv; have t0 := cell_chain hI lc0 c0; have t1 := cell_chain hI lc0 c1; have t2 := cell_chain hI lc4 c4; have t3 := cell_chain hI hb5 hc5; go_simp; exact hKv)
          intro Kd hKd
          go_simp
          refine hKd _ ?_
          clear hKd Kd
          apply anyI_step 6 rfl (by kernel_rfl)
          focus (intro wI hI Kv hKv; have t0 := cell_chain hI lc0 c0; have t1 := cell_chain hI lc0 c1; have t2 := cell_chain hI lc4 c4; have t3 := cell_chain hI hb5 hc5; go_simp; exact hKv)
          intro Kd hKd
          go_simp
          refine hKd _ ?_
          clear hKd Kd
          apply anyI_step 1 rfl (by kernel_rfl)
          focus (intro wI hI Kv hKv; have t0 := cell_chain hI lc0 c0; have t1 := cell_chain hI lc0 c1; have t2 := cell_chain hI lc4 c4; have t3 := cell_chain hI hb5 hc5; go_simp; exact hKv)
          intro Kd hKd
          go_simp
          refine hKd _ ?_
          clear hKd Kd
          apply anyI_step 3 rfl (by kernel_rfl)
          focus (intro wI hI Kv hKv; have t0 := cell_chain hI lc0 c0; have t1 := cell_chain hI lc0 c1; have t2 := cell_chain hI lc4 c4; have t3 := cell_chain hI hb5 hc5; go_simp; exact hKv)
          intro Kd hKd
          go_simp
          refine hKd _ ?_
          clear hKd Kd
          apply anyI_step 4 rfl (by kernel_rfl)
          focus (intro wI hI Kv hKv; have t0 := cell_chain hI lc0 c0; have t1 := cell_chain hI lc0 c1; have t2 := cell_chain hI lc4 c4; have t3 := cell_chain hI hb5 hc5; go_simp; exact hKv)
          intro Kd hKd
          go_simp
          refine hKd _ ?_
          clear hKd Kd
          apply anyI_step 5 rfl (by kernel_rfl)
          focus (intro wI hI Kv hKv; have t0 := cell_chain hI lc0 c0; have t1 := cell_chain hI lc0 c1; have t2 := cell_chain hI lc4 c4; have t3 := cell_chain hI hb5 hc5; go_simp; exact hKv)
          intro Kd hKd
          go_simp
          refine hKd _ ?_
          clear hKd Kd
          apply anyI_step 7 rfl (by kernel_rfl)
          focus (intro wI hI Kv hKv; go_simp; exact ⟨_, (set_any102 bq bD N A c rs m1 _ _ (HQW.out.later hI) (by have := HML1.out; omega)).mono (fun _ _ h => ⟨h.1, h.2.symm⟩), hKv⟩)
          intro Kd hKd
          go_simp
          refine hKd _ ?_
          clear hKd Kd
          apply anyI_step 8 rfl (by kernel_rfl)
          focus (intro wI hI Kv hKv; go_simp; exact hKv)
          intro Kd hKd
          go_simp
          refine hKd _ ?_
          clear hKd Kd
          apply anyI_step 9 rfl (by kernel_rfl)
          focus (intro wI hI Kv hKv; go_simp; exact hKv)
          intro Kd hKd
          go_simp
          refine hKd _ ?_
          clear hKd Kd
          refine anyI_end (by kernel_rfl) ((Below.refl _ _).drew) (hQd _ _ ?_)
          clear hQd Qd
          go_wp2_with fail
          refine (HE103.out X.drew HQW.out.drew').mono ?_
          rintro e V ⟨⟨ve, rfl⟩, hB6, hF6⟩
          have hF6' : Frame (fun b => b = bD) X V := (Frame.refl (fun b => b = bD) X).drew.trans hF6 (fun _ _ e => e)
          obtain ⟨mv, hmv⟩ : ∃ mv, mv = takeQ rr m1 := ⟨_, rfl⟩
          have hmlv : mv.length = N := by rw [hmv, takeQ_len]; exact HML1.out
          have HQV : Hid (Qs V bq bD N A c rs mv Value.nilFunc) := by
            refine ⟨?_, by rw [hmv]; exact hB6, HQW.out.r.frame hF6' (fun hn a ha e => by have := hA.lt hn ha; omega)⟩
            rw [hmlv, ← HML1.out]
            have e := HQW.out.q.frame hF6' (by omega)
            rw [HML1.out] at e ⊢
            exact e
          rw [← hmv] at HST
          have HGV := Lib.hid (HGWW.out.frame hF6' (by omega))
          have HABV := Lib.hid (HABW.out.frame hF6' (by omega))
          have HOV : Hid (V.ownsRow V0.heap.size 3 1 u10 k (ints q.out)) := own_frame HOW.out hF6' (fun g hg e => by have := (HOW.out.lt _ hg).1; omega)
          have HFV : Hid (Frame (fun b => b = bD) V0 V) := HFR.out.trans hF6' (fun _ _ e => e)
          have HEV := Lib.hid (HEW.out.frame hF6' (fun hn a ha e => by have := HNB.out hn a ha; omega))
          have hszV := hF6'.size
          clear hB6 hF6 hF6' hmv hd0 hw2 c0 c1 c4 hc5 hix5
          have v2 := HABV.out.cell 0 (v := .int .i64 rule) rfl
          have lab := HABV.out.lt
          go_wp2_with (at_builtin; go_must (refine wpList_app1' rInt _ rfl _ _ rfl HOV.out rfl [_] 1 rfl rfl (by simp [Value.oneCell']) (by omega) (by omega) ?_); intro vo' w6 ho6 hB6 hg6 hloc6)
          have hF6 := Frame.of_grown hg6
          have hn6' : ∀ b, b < V0.heap.size → ¬ u10.ownBlock = some b := fun b hb e => by have := (HOV.out.lt _ e).1; omega
          have hnb : ¬ u10.ownBlock = some ba := own_ne HOV.out HABV.out (by decide)
          have HQ6 : Hid (Qs w6 bq bD N A c rs mv Value.nilFunc) := ⟨HQV.out.q.frame hF6 (hn6' _ (by omega)), HQV.out.m.frame hF6 (hn6' _ (by omega)), HQV.out.r.frame hF6 (fun hn a ha => hn6' _ (by have := hA.lt hn ha; omega))⟩
          have HG6 := Lib.hid (HGV.out.frame hF6 (hn6' _ (by omega)))
          have HAB6 := Lib.hid (HABV.out.frame hF6 hnb)
          have HE6 := Lib.hid (HEV.out.frame hF6 (fun hn a ha => hn6' _ (by have := HNB.out hn a ha; omega)))
          have x0 := HG6.out.cell 0 (v := .int .i64 (N : Int)) rfl
          have x1 := HG6.out.cell 1 (v := .slice A rs.length c) rfl
          have x2 := HAB6.out.cell 0 (v := .int .i64 rule) rfl
          have x3 := HAB6.out.cell 1 (v := .slice E3 next.length e3) rfl
          have lx0 := HG6.out.lt
          have lx2 := HAB6.out.lt
          have HO6 := Lib.hid ho6
          have HF6V : Hid (Frame (fun b => b = bD) V0 w6) := HFV.out.trans hF6 (fun b hb e => (hn6' b hb e).elim)
          have hm60 : mv.length ≤ 60 := by omega
          clear hF6 hg6 hB6 ho6 v2
          refine draw (fun w' => Below w6.heap.size w6 w') 8 rfl (by kernel_rfl) (fun Qd hQd => ?_)
          apply anyI_step 0 rfl (by kernel_rfl)
          focus (intro wI hI Kv hKv; have t0 := cell_chain hI lx0 x0; have t1 := cell_chain hI lx0 x1; have t2 := cell_chain hI lx2 x2; have t3 := cell_chain hI lx2 x3; go_simp; exact hKv)
          intro Kd hKd
          go_simp
          refine hKd _ ?_
          clear hKd Kd
          apply anyI_step 1 rfl (by kernel_rfl)
          focus (intro wI hI Kv hKv; have t0 := cell_chain hI lx0 x0; have t1 := cell_chain hI lx0 x1; have t2 := cell_chain hI lx2 x2; have t3 := cell_chain hI lx2 x3; go_simp; exact hKv)
          intro Kd hKd
          go_simp
          refine hKd _ ?_
          clear hKd Kd
          apply anyI_step 2 rfl (by kernel_rfl)
          focus (intro wI hI Kv hKv; have t0 := cell_chain hI lx0 x0; have t1 := cell_chain hI lx0 x1; have t2 := cell_chain hI lx2 x2; have t3 := cell_chain hI lx2 x3; go_simp; exact hKv)
          intro Kd hKd
          go_simp
          refine hKd _ ?_
          clear hKd Kd
          apply anyI_step 3 rfl (by kernel_rfl)
          focus (intro wI hI Kv hKv; have t0 := cell_chain hI lx0 x0; have t1 := cell_chain hI lx0 x1; have t2 := cell_chain hI lx2 x2; have t3 := cell_chain hI lx2 x3; go_simp; exact hKv)
          intro Kd hKd
          go_simp
          refine hKd _ ?_
          clear hKd Kd
          apply anyI_step 4 rfl (by kernel_rfl)
          focus (intro wI hI Kv hKv; go_simp; exact ⟨_, (set_any102 bq bD N A c rs mv _ _ (HQ6.out.later hI) hm60).mono (fun _ _ h => ⟨h.1, h.2.symm⟩), hKv⟩)
          intro Kd hKd
          go_simp
          refine hKd _ ?_
          clear hKd Kd
          apply anyI_step 5 rfl (by kernel_rfl)
          focus (intro wI hI Kv hKv; go_simp; exact hKv)
          intro Kd hKd
          go_simp
          refine hKd _ ?_
          clear hKd Kd
          refine anyI_one' 6 rfl (by kernel_rfl) ((Below.refl _ _).drew) (fun Kd hKd => ?_)
          go_wp2_with (go_at_call 81; go_must (refine (next_any N A c rs E3 e3 m.length ⟨rule, next⟩ ⟨x, setQ mv⟩ _ (by exact HQ6.out.r.drew) (by exact HE6.out.drew) HX0.out HX60.out HOKA.out).mono ?_); rintro e w7 ⟨rfl, hB7⟩)
          have hB7' : Below w6.heap.size w6 w7 := (Below.refl _ w6).drew.trans hB7
          apply anyI_step 7 rfl (by kernel_rfl)
          focus (intro wI hI Kv hKv; go_simp; exact hKv)
          intro Kd hKd
          go_simp
          refine hKd _ ?_
          clear hKd Kd
          refine anyI_end (by kernel_rfl) (hB7') (hQd _ _ ?_)
          clear hQd Qd
          have hs7 := hB7'.size
          go_wp2
          go_roundw
          case rel =>
            refine ⟨k + 1, _, by omega, by go_num, (rnTo_step HQT.out HX.out).trans HST.out, rfl, ?_, HQ6.out.later hB7', HF6V.out.trans (Frame.of_all (S := fun _ => False) hB7') (fun _ _ h => h.elim)⟩
            have e := own_frame HO6.out (Frame.of_all (S := fun _ => False) hB7') (fun _ _ h => h)
            simpa [ints] using e
          case measure => simp [intOf]; omega
    · obtain rfl : k = l.length := by omega
      have hq1 := HOL.out
      have hq2 := HLEN.out
      obtain ⟨A', c', hv, hnew⟩ := own_new HOWN.out (by simp [ints]; omega)
      subst hv
      have p2 := HQS.out.q.cell 2 (v := .slice (some ⟨bD, 0, none⟩) q.many.length q.many.length) rfl
      rw [hq2] at p2
      have lg3 := HQS.out.q.lt
      go_wp2
      refine sall (by kernel_rfl) (by kernel_rfl) (fun Kq hKq => ?_)
      repeat still_step
      refine wpStill_nil (hKq _ ?_)
      clear hKq Kq
      go_wp2
      refine bodyPost_ret (v := .tuple #[.slice A' l.length c', .slice (some ⟨bD, 0, none⟩) N N, .int .i64 0]) (results_ttt rfl rfl rfl rfl) rfl ⟨?_, HFw.out.drew⟩
      rw [HQT.out]
      exact ⟨A', c', some ⟨bD, 0, none⟩, N, by rw [hq1, hq2], hnew.1.drew, (blk_cells HQS.out.m (by simp [ints]; omega)).drew⟩
end Go.Proofs.Ytlnonadkdonhmaa
