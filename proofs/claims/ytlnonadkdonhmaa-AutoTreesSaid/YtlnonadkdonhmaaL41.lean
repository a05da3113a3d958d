/- Contracts and lemmas that a claim of this seat uses. -/
import Derived.Test.YtlnonadkdonhmaaL38
import Derived.Test.YtlnonadkdonhmaaL39
import Derived.Test.YtlnonadkdonhmaaL31

/- Contract: ref.Decided. -/
namespace Go.Proofs.Ytlnonadkdonhmaa
open Go.RowKit Go.Maps

def lowI (p : Int → Bool) : Nat → List Int → Int
  | _, [] => -1
  | i, x :: t => if p x then (i : Int) else lowI p (i + 1) t
theorem lowI_bd (p : Int → Bool) : ∀ (i : Nat) (l : List Int), -1 ≤ lowI p i l ∧ lowI p i l < (i : Int) + l.length
  | i, [] => by simp [lowI]; omega
  | i, x :: t => by
    rw [lowI]
    have := lowI_bd p (i + 1) t
    split
    · simp only [List.length_cons]; push_cast; omega
    · simp only [List.length_cons]; push_cast at this ⊢; omega
def openP (known has : Int) (r : Int) : Bool := withinI (bits BinOp.and .i64 r known) has
def decdA (rs : List Int) (known has : Int) (first : Bool) : Int × Bool :=
  if lowI (openP known has) 0 rs < 0 then (-1, true) else
    if first then (lowI (openP known has) 0 rs, lowI (openP known has) 0 rs == lowI (fun r => withinI r has) 0 rs)
    else (lowI (fun r => withinI r has) 0 rs, decide (0 ≤ lowI (fun r => withinI r has) 0 rs))

set_option maxRecDepth 100000 in
set_option maxHeartbeats 4000000 in
theorem Decided_any (n : Int) (A : Option Addr) (c : Nat) (rs : List Int) (known has : Int) (first : Bool) (w : World) (hA : Cells w A (ints rs)) (hlr : rs.length ≤ 10) :
    Calls Try.prog 122 #[.agg #[.int .i64 n, .slice A rs.length c], .int .i64 known, .int .i64 has, .bool first] w fun e w' => e = .returned (.tuple #[.int .i64 (decdA rs known has first).1, .bool (decdA rs known has first).2]) ∧ Below w.heap.size w w' := by
  have HB0 : Hid (Below w.heap.size w (w.alloc (.cells #[.int .i64 n, .slice A rs.length c] 24))) := (Below.refl _ w).alloc (Nat.le_refl _) _
  have HA0 := Lib.hid (hA.below HB0.out (Nat.le_refl _))
  have hgm := Blk.new w (.cells #[.int .i64 n, .slice A rs.length c] 24)
  go_enter Try.func122, Try.ntmps122
  go_wp2
  obtain ⟨W, hW⟩ : ∃ W, w.alloc (.cells #[.int .i64 n, .slice A rs.length c] 24) = W := ⟨_, rfl⟩
  rw [hW] at HB0 HA0 hgm
  rw [hW]
  have c0 := hgm.cell 0 (v := .int .i64 n) rfl
  have c1 := hgm.cell 1 (v := .slice A rs.length c) rfl
  have hl0 := hgm.lt
  clear hW hgm
  go_loopw [10, 11, 12] (fun o1 o2 i wr => ∃ j : Nat, j ≤ rs.length ∧ i = .int .i64 ((j : Int) - 1) ∧ o1 = .int .i64 (lowI (openP known has) j (rs.drop j)) ∧ o2 = .int .i64 (lowI (fun r => withinI r has) j (rs.drop j)) ∧ Below W.heap.size W wr) (fun _ _ i _ => (intOf i + 1).toNat)
  case atStart => exact ⟨rs.length, Nat.le_refl _, rfl, by rw [List.drop_length]; rfl, by rw [List.drop_length]; rfl, Below.refl _ _⟩
  case round =>
    obtain ⟨j, hj, hij, rfl, rfl, hB⟩ := hrel
    have HBr := Lib.hid hB
    have g1 := cell_chain HBr.out hl0 c1
    clear hB
    by_cases h0 : j = 0
    · subst h0
      have hij' : u12 = .int .i64 (-1) := by rw [hij]; rfl
      subst hij'
      clear hij
      rw [List.drop_zero]
      obtain ⟨o, HO⟩ : ∃ o, Hid (lowI (openP known has) 0 rs = o) := ⟨lowI (openP known has) 0 rs, rfl⟩
      obtain ⟨q, HQ⟩ : ∃ q, Hid (lowI (fun r => withinI r has) 0 rs = q) := ⟨lowI (fun r => withinI r has) 0 rs, rfl⟩
      rw [HO.out, HQ.out]
      cases ho : decide (o < 0) with
      | true =>
        have HD : Hid (decdA rs known has first = (-1, true)) := by show _ = _; unfold decdA; rw [HO.out, if_pos (of_decide_eq_true ho)]
        go_wp2
        go_ret2
        exact ⟨by rw [HD.out]; rfl, below_in HB0.out HBr.out⟩
      | false =>
        have HD : Hid (decdA rs known has first = if first then (o, o == q) else (q, decide (0 ≤ q))) := by show _ = _; unfold decdA; rw [HO.out, HQ.out, if_neg (of_decide_eq_false ho)]
        cases first with
        | true =>
          go_wp2
          go_ret2
          exact ⟨by rw [HD.out]; rfl, below_in HB0.out HBr.out⟩
        | false =>
          go_wp2
          go_ret2
          exact ⟨by rw [HD.out]; rfl, below_in HB0.out HBr.out⟩
    · obtain ⟨k, rfl⟩ : ∃ k, j = k + 1 := ⟨j - 1, by omega⟩
      have hij' : u12 = .int .i64 (k : Int) := by rw [hij]; congr 1; push_cast; omega
      subst hij'
      clear hij h0
      have hk : k < rs.length := by omega
      obtain ⟨r, b6, o6, hz6, hb6, hix6, hc6⟩ := ints_at (c := c) (HA0.out.below HBr.out (Nat.le_refl _)) Try.underlying22 szInt hk
      have HDR : Hid (rs.drop k = r :: rs.drop (k + 1)) := drop_cons hz6
      clear hz6
      obtain ⟨o, HO⟩ : ∃ o, Hid (lowI (openP known has) (k + 1) (rs.drop (k + 1)) = o) := ⟨_, rfl⟩
      obtain ⟨q, HQ⟩ : ∃ q, Hid (lowI (fun r => withinI r has) (k + 1) (rs.drop (k + 1)) = q) := ⟨_, rfl⟩
      rw [HO.out, HQ.out]
      cases h1 : withinI (bits BinOp.and .i64 r known) has with
      | true =>
        have H1 : Hid (lowI (openP known has) k (rs.drop k) = (k : Int)) := by show _ = _; rw [HDR.out, lowI, if_pos (show openP known has r = true from h1)]
        cases h2 : withinI r has with
        | true =>
          have H2 : Hid (lowI (fun r => withinI r has) k (rs.drop k) = (k : Int)) := by show _ = _; rw [HDR.out, lowI, if_pos h2]
          go_wp2_with (go_at_call 96; go_must (refine (within_any _ _ _).mono ?_); rintro e w4 ⟨rfl, rfl⟩; first | rw [h1] | rw [h2])
          go_roundw
          case rel => exact ⟨k, by omega, rfl, by rw [H1.out], by rw [H2.out], HBr.out⟩
          case measure => first | (simp [intOf]; done) | (simp [intOf]; omega)
        | false =>
          have H2 : Hid (lowI (fun r => withinI r has) k (rs.drop k) = q) := by show _ = _; rw [HDR.out, lowI, if_neg (by rw [h2]; decide), HQ.out]
          go_wp2_with (go_at_call 96; go_must (refine (within_any _ _ _).mono ?_); rintro e w4 ⟨rfl, rfl⟩; first | rw [h1] | rw [h2])
          go_roundw
          case rel => exact ⟨k, by omega, rfl, by rw [H1.out], by rw [H2.out], HBr.out⟩
          case measure => first | (simp [intOf]; done) | (simp [intOf]; omega)
      | false =>
        have H1 : Hid (lowI (openP known has) k (rs.drop k) = o) := by show _ = _; rw [HDR.out, lowI, if_neg (by show ¬ withinI _ _ = true; rw [h1]; decide), HO.out]
        cases h2 : withinI r has with
        | true =>
          have H2 : Hid (lowI (fun r => withinI r has) k (rs.drop k) = (k : Int)) := by show _ = _; rw [HDR.out, lowI, if_pos h2]
          go_wp2_with (go_at_call 96; go_must (refine (within_any _ _ _).mono ?_); rintro e w4 ⟨rfl, rfl⟩; first | rw [h1] | rw [h2])
          go_roundw
          case rel => exact ⟨k, by omega, rfl, by rw [H1.out], by rw [H2.out], HBr.out⟩
          case measure => first | (simp [intOf]; done) | (simp [intOf]; omega)
        | false =>
          have H2 : Hid (lowI (fun r => withinI r has) k (rs.drop k) = q) := by show _ = _; rw [HDR.out, lowI, if_neg (by rw [h2]; decide), HQ.out]
          go_wp2_with (go_at_call 96; go_must (refine (within_any _ _ _).mono ?_); rintro e w4 ⟨rfl, rfl⟩; first | rw [h1] | rw [h2])
          go_roundw
          case rel => exact ⟨k, by omega, rfl, by rw [H1.out], by rw [H2.out], HBr.out⟩
          case measure => first | (simp [intOf]; done) | (simp [intOf]; omega)
end Go.Proofs.Ytlnonadkdonhmaa

/- ref.Decided says what leaf says. -/
namespace Go.Proofs.Ytlnonadkdonhmaa
open Go.RowKit Go.Maps

theorem lowI_ge (p : Int → Bool) : ∀ (i : Nat) (l : List Int), lowI p i l = -1 ∨ (i : Int) ≤ lowI p i l
  | _, [] => .inl rfl
  | i, x :: t => by
    rw [lowI]
    split
    · exact .inr (Int.le_refl _)
    · rcases lowI_ge p (i + 1) t with h | h
      · exact .inl h
      · right; push_cast at h; omega
theorem open_of_within {r k h : Int} (hr : isB r) (hk : isB k) (hh : isB h) (hw : withinI r h = true) : openP k h r = true := by
  unfold openP
  rw [within_iff (and_isB hr hk) hh]
  intro c hc hi
  rw [in_and hr hk hc, Bool.and_eq_true] at hi
  exact (within_iff hr hh).1 hw c hc hi.1
theorem gone_open (r k h : Int) : goneI r k h = !(openP k h r) := rfl
theorem decd_true {k h : Int} (hk : isB k) (hh : isB h) : ∀ (rs : List Int) (i : Nat), bAll rs →
    (lowI (openP k h) i rs < 0 → leafGo true k h rs i true = (-1, true)) ∧ (0 ≤ lowI (openP k h) i rs → (leafGo true k h rs i true).2 = (lowI (openP k h) i rs == lowI (fun r => withinI r h) i rs) ∧ ((leafGo true k h rs i true).2 = true → (leafGo true k h rs i true).1 = lowI (openP k h) i rs))
  | [], i, _ => ⟨fun _ => rfl, fun h => by simp [lowI] at h⟩
  | y :: rs, i, hb => by
    have hy := hb y List.mem_cons_self
    have ih := decd_true hk hh rs (i + 1) fun x hx => hb x (List.mem_cons_of_mem _ hx)
    rw [leafGo, lowI, lowI]
    by_cases hw : withinI y h = true
    · rw [if_pos hw, if_pos (open_of_within hy hk hh hw), if_pos hw]
      exact ⟨fun h => by omega, fun _ => ⟨by simp, fun _ => rfl⟩⟩
    · rw [if_neg hw, if_neg hw, gone_open]
      by_cases ho : openP k h y = true
      · rw [if_pos ho, ho]
        simp only [Bool.not_true, Bool.false_eq_true, if_false, if_true]
        refine ⟨fun h => by omega, fun _ => ⟨?_, fun h => by cases h⟩⟩
        symm
        rw [beq_eq_false_iff_ne]
        intro he
        rcases lowI_ge (fun r => withinI r h) (i + 1) rs with h1 | h1
        · omega
        · push_cast at h1; omega
      · rw [if_neg ho]
        have ho' : openP k h y = false := by simpa using ho
        rw [ho']
        exact ih
theorem decd_false {k h : Int} (hk : isB k) (hh : isB h) : ∀ (rs : List Int) (i : Nat) (out : Bool), bAll rs →
    leafGo false k h rs i out = if 0 ≤ lowI (fun r => withinI r h) i rs then (lowI (fun r => withinI r h) i rs, true) else (-1, out && decide (lowI (openP k h) i rs < 0))
  | [], i, out, _ => by simp [leafGo, lowI]
  | y :: rs, i, out, hb => by
    have ih := fun o => decd_false hk hh rs (i + 1) o fun x hx => hb x (List.mem_cons_of_mem _ hx)
    rw [leafGo, lowI, lowI]
    by_cases hw : withinI y h = true
    · rw [if_pos hw, if_pos hw, if_pos (by omega)]
    · rw [if_neg hw, if_neg hw, gone_open]
      by_cases ho : openP k h y = true
      · rw [if_pos ho, ho]
        simp only [Bool.not_true, Bool.false_eq_true, if_false]
        rw [ih]
        rw [decide_eq_false (show ¬ ((i : Int) < 0) by omega), Bool.and_false, Bool.false_and]
      · rw [if_neg ho]
        have ho' : openP k h y = false := by simpa using ho
        rw [ho']
        simp only [Bool.not_false, if_true]
        exact ih out
/-- The two packages decide alike. -/
theorem decd_leaf {rs : List Int} {first : Bool} {k h : Int} (hb : bAll rs) (hk : isB k) (hh : isB h) :
    (decdA rs k h first).2 = (leafA rs first k h).2 ∧ ((leafA rs first k h).2 = true → (decdA rs k h first).1 = (leafA rs first k h).1) := by
  unfold leafA decdA
  cases first with
  | true =>
    obtain ⟨h1, h2⟩ := decd_true hk hh rs 0 hb
    by_cases h0 : lowI (openP k h) 0 rs < 0
    · rw [if_pos h0, h1 h0]
      exact ⟨rfl, fun _ => rfl⟩
    · rw [if_neg h0]
      obtain ⟨h3, h4⟩ := h2 (by omega)
      exact ⟨h3.symm, fun h => (h4 h).symm⟩
  | false =>
    rw [decd_false hk hh rs 0 true hb]
    have key : 0 ≤ lowI (fun r => withinI r h) 0 rs → 0 ≤ lowI (openP k h) 0 rs := by
      have gen : ∀ (l : List Int) (i : Nat), bAll l → 0 ≤ lowI (fun r => withinI r h) i l → 0 ≤ lowI (openP k h) i l := by
        intro l
        induction l with
        | nil => intro i _ hl; simp [lowI] at hl
        | cons y t ih =>
          intro i hb hl
          rw [lowI] at hl ⊢
          by_cases ho : openP k h y = true
          · rw [if_pos ho]; omega
          · rw [if_neg ho]
            by_cases hw : withinI y h = true
            · exact absurd (open_of_within (hb y List.mem_cons_self) hk hh hw) ho
            · rw [if_neg hw] at hl
              exact ih (i + 1) (fun x hx => hb x (List.mem_cons_of_mem _ hx)) hl
      exact gen rs 0 hb
    by_cases h0 : 0 ≤ lowI (fun r => withinI r h) 0 rs
    · rw [if_pos h0, if_neg (by have := key h0; omega)]
      simp [h0]
    · rw [if_neg h0]
      by_cases h1 : lowI (openP k h) 0 rs < 0
      · rw [if_pos h1, decide_eq_true h1]
        exact ⟨rfl, fun _ => rfl⟩
      · rw [if_neg h1, decide_eq_false h1]
        simp only [Bool.false_eq_true, if_false]
        exact ⟨decide_eq_false h0, fun h => by cases h⟩
end Go.Proofs.Ytlnonadkdonhmaa

/- ref.Tree's parts in memory: the box, the memo's rows. -/
namespace Go.Proofs.Ytlnonadkdonhmaa
open Go.RowKit Go.Maps

/-- The box of the parts (group, manner, memo, nodes v), its rules, the memo's rows. -/
structure Pw (w : World) (bp : Nat) (n : Nat) (A : Option Addr) (c : Nat) (rs : List Int) (first : Bool) (O : Option Addr) (oc : Nat) (bs : List Nat) (M : Nat → Nat → Int) (v : Value) : Prop where
  box : Blk w bp (.cells #[.int .i64 (n : Int), .slice A rs.length c, .bool first, .slice O bs.length oc, v] 158)
  r : Cells w A (ints rs)
  out : Cells w O (bs.map (rowV (2 ^ n)))
  len : bs.length = 2 ^ n
  nodup : bs.Nodup
  row : ∀ (i : Nat) (b : Nat), bs[i]? = some b → b ≠ bp ∧ Blk w b (.cells (ints ((List.range (2 ^ n)).map fun k => M i k)).toArray 3)
  apart : ints rs ≠ [] → ∀ a, A = some a → a.block ≠ bp ∧ a.block ∉ bs
  outer : ∀ a, O = some a → a.block ≠ bp ∧ a.block ∉ bs
theorem Pw.below {w w' : World} {bp n c oc : Nat} {A O : Option Addr} {rs : List Int} {first : Bool} {bs : List Nat} {M : Nat → Nat → Int} {v : Value} (h : Pw w bp n A c rs first O oc bs M v) (hB : Below w.heap.size w w') : Pw w' bp n A c rs first O oc bs M v :=
  ⟨h.box.below hB h.box.lt, h.r.below hB (Nat.le_refl _), h.out.below hB (Nat.le_refl _), h.len, h.nodup, fun i b hb => ⟨(h.row i b hb).1, (h.row i b hb).2.below hB (h.row i b hb).2.lt⟩, h.apart, h.outer⟩
theorem Pw.drew {w : World} {bp n c oc : Nat} {A O : Option Addr} {rs : List Int} {first : Bool} {bs : List Nat} {M : Nat → Nat → Int} {v : Value} (h : Pw w bp n A c rs first O oc bs M v) : Pw w.drew bp n A c rs first O oc bs M v := h.below (Below.refl _ w).drew
/-- What the memo holds. -/
def MemoOk (rs : List Int) (n : Nat) (first : Bool) (M : Nat → Nat → Int) : Prop := ∀ i k : Nat, i < 2 ^ n → k < 2 ^ n → M i k = -1 ∨ M i k = (planA rs n first (i : Int) (k : Int)).depth
theorem MemoOk.set {rs : List Int} {n : Nat} {first : Bool} {M : Nat → Nat → Int} (h : MemoOk rs n first M) (i k : Nat) : MemoOk rs n first (upd M i k (planA rs n first (i : Int) (k : Int)).depth) := by
  intro x y hx hy
  unfold upd
  split
  · rename_i e
    right
    rw [e.1, e.2]
  · exact h x y hx hy
end Go.Proofs.Ytlnonadkdonhmaa

/- ref.Tree's parts: frames, stores, where a memo cell lies; what best chooses. -/
namespace Go.Proofs.Ytlnonadkdonhmaa
open Go.RowKit Go.Maps

section
variable {w w' : World} {bp n c oc : Nat} {A O : Option Addr} {rs : List Int} {first : Bool} {bs : List Nat} {M : Nat → Nat → Int} {v : Value} {S : Nat → Prop}
theorem Pw.frame (h : Pw w bp n A c rs first O oc bs M v) (hF : Frame S w w') (h1 : ¬ S bp) (h2 : ints rs ≠ [] → ∀ a, A = some a → ¬ S a.block) (h3 : ∀ a, O = some a → ¬ S a.block) (h4 : ∀ b, b ∈ bs → ¬ S b) : Pw w' bp n A c rs first O oc bs M v :=
  ⟨h.box.frame hF h1, h.r.frame hF h2, h.out.frame hF (fun _ a ha => h3 a ha), h.len, h.nodup, fun i b hb => ⟨(h.row i b hb).1, (h.row i b hb).2.frame hF (h4 b (List.mem_of_getElem? hb))⟩, h.apart, h.outer⟩
theorem Pw.bp_not (h : Pw w bp n A c rs first O oc bs M v) : bp ∉ bs := by
  intro hm
  obtain ⟨i, hi⟩ := List.getElem?_of_mem hm
  exact (h.row i bp hi).1 rfl
theorem Pw.set (h : Pw w bp n A c rs first O oc bs M v) {i k b : Nat} (hb : bs[i]? = some b) (hk : k < 2 ^ n) (x : Int) : Pw (w.setCell ⟨b, k, none⟩ (.int .i64 x)) bp n A c rs first O oc bs (upd M i k x) v := by
  have hm := List.mem_of_getElem? hb
  have hF : Frame (fun y => y = b) w (w.setCell ⟨b, k, none⟩ (.int .i64 x)) := (Frame.refl (fun y => y = _) w).setCell (p := ⟨_, _, none⟩) (.inl rfl) _
  refine ⟨h.box.frame hF (fun e => h.bp_not (by rw [e]; exact hm)), h.r.frame hF (fun hn a ha e => (h.apart hn a ha).2 (by rw [e]; exact hm)), h.out.frame hF (fun _ a ha e => (h.outer a ha).2 (by rw [e]; exact hm)), h.len, h.nodup, fun y b' hy => ⟨(h.row y b' hy).1, ?_⟩, h.apart, h.outer⟩
  by_cases e : y = i
  · subst e
    have eb : b = b' := by rw [hb] at hy; injection hy
    subst eb
    have e2 := (h.row y b hb).2.set k (.int .i64 x)
    rw [ints_set] at e2
    have e3 : ((List.range (2 ^ n)).map fun z => M y z).set k x = (List.range (2 ^ n)).map fun z => upd M y k x y z := by
      apply List.ext_getElem?
      intro z
      rw [List.getElem?_set]
      by_cases hz : k = z
      · subst hz
        simp [hk, upd]
      · rw [if_neg hz, List.getElem?_map, List.getElem?_map]
        have : ¬ z = k := fun e => hz e.symm
        by_cases hzn : z < 2 ^ n
        · simp [upd, this, hzn]
        · simp [upd, hzn]
    rw [← e3]
    exact e2
  · have hne : b' ≠ b := by
      rintro rfl
      exact e (nodup_at h.nodup hy hb)
    have e3 : (List.range (2 ^ n)).map (fun z => upd M i k x y z) = (List.range (2 ^ n)).map fun z => M y z := by
      refine List.map_congr_left fun z _ => ?_
      simp [upd, e]
    rw [e3]
    exact (h.row y b' hy).2.far hne _
/-- Where a memo cell lies. -/
theorem Pw.at_ (h : Pw w bp n A c rs first O oc bs M v) {i k : Nat} (hi : i < 2 ^ n) (hk : k < 2 ^ n) : ∃ bO oO b, bs[i]? = some b ∧ bO ≠ bp ∧ bO ∉ bs ∧ bO < w.heap.size ∧ b < w.heap.size ∧
    (∀ w', (Instr.indexAt 130 (.slice O bs.length oc) (.int .i64 (i : Int))).run Try.prog w' = .ok (.pointer (some ⟨bO, oO, none⟩)) w') ∧ w.cell? ⟨bO, oO, none⟩ = some (.slice (some ⟨b, 0, none⟩) (2 ^ n) (2 ^ n)) ∧
    (∀ w', (Instr.indexAt 22 (.slice (some ⟨b, 0, none⟩) (2 ^ n) (2 ^ n)) (.int .i64 (k : Int))).run Try.prog w' = .ok (.pointer (some ⟨b, k, none⟩)) w') ∧ w.cell? ⟨b, k, none⟩ = some (.int .i64 (M i k)) ∧ w.frozen? ⟨b, k, none⟩ = false := by
  have hib : i < bs.length := by rw [h.len]; exact hi
  obtain ⟨bO, oO, hbO, hix, hcell⟩ := h.out.at_ (P := Try.prog) (t := 130) (e := 22) (size := 1) (n := bs.length) (c := oc) (k := i) Try.underlying130 sz22 (by simp) hib (by decide)
  obtain ⟨u, hu, hc⟩ := hcell 0 (by decide)
  have hb : bs[i]? = some bs[i] := List.getElem?_eq_getElem hib
  simp [hb] at hu
  have hr := (h.row i _ hb).2
  have hO : ∃ a, O = some a ∧ a.block = bO := by
    obtain ⟨_, b', off, _, hA, _⟩ := h.out
    have hne : bs.map (rowV (2 ^ n)) ≠ [] := by intro e; rw [List.map_eq_nil_iff] at e; rw [e] at hib; exact absurd hib (Nat.not_lt_zero _)
    obtain ⟨rfl, _⟩ := hA hne
    refine ⟨_, rfl, ?_⟩
    have h1 := hix w
    have hin : (0 : Int) ≤ (i : Int) ∧ (i : Int) < (bs.length : Int) := by omega
    obtain ⟨inf, hinf, hinfe⟩ : ∃ x, Try.prog.info? 22 = some x ∧ x.size = 1 := by
      have hs := sz22
      cases hx : Try.prog.info? 22 with
      | none => rw [hx] at hs; cases hs
      | some x => rw [hx] at hs; exact ⟨x, rfl, by simpa using hs⟩
    simp [Instr.indexAt, run_underlying Try.underlying130, asIntOf, hin, sizeOf, typeInfo, hinf, hinfe, hib] at h1
    by_cases h0 : i = 0
    · simp [Addr.add, h0] at h1; exact h1.1
    · simp [Addr.add, h0] at h1; exact h1.1
  obtain ⟨a, ha, hab⟩ := hO
  have ho := h.outer a ha
  rw [hab] at ho
  refine ⟨bO, oO, bs[i], hb, ho.1, ho.2, hbO, hr.lt, hix, ?_, fun w' => ix_own Try.underlying22 szInt hk w', ?_, hr.free k⟩
  · rw [← hu] at hc
    simpa [rowV] using hc
  · exact hr.cell k (by simp [ints, hk])
end

theorem Pw.cell_ {w : World} {bp n c oc : Nat} {A O : Option Addr} {rs : List Int} {first : Bool} {bs : List Nat} {M : Nat → Nat → Int} {v : Value} (h : Pw w bp n A c rs first O oc bs M v) {i k b : Nat} (hb : bs[i]? = some b) (hk : k < 2 ^ n) :
    b < w.heap.size ∧ w.cell? ⟨b, k, none⟩ = some (.int .i64 (M i k)) ∧ w.frozen? ⟨b, k, none⟩ = false :=
  ⟨(h.row i b hb).2.lt, (h.row i b hb).2.cell k (by simp [ints, hk]), (h.row i b hb).2.free k⟩

/-! ### best -/
def bestW (p : Pl) : Int := if p.depth = 7 then -1 else p.chan
def bestL (p : Pl) : Int := if p.depth = 7 then 0 else p.depth
theorem planTo_low (rec : Int → Int → Pl) (k h : Int) : ∀ n : Nat, (planTo rec k h n).depth ≤ 7 ∧ 0 ≤ (planTo rec k h n).chan ∧ (planTo rec k h n).rule = 0 ∧ (planTo rec k h n).chan ≤ n
  | 0 => by simp [planTo]
  | n + 1 => by
    have ih := planTo_low rec k h n
    simp only [planTo]
    split
    · refine ⟨ih.1, ih.2.1, ih.2.2.1, by have := ih.2.2.2; push_cast; omega⟩
    · split
      · rename_i h1
        refine ⟨by first | omega | (simp only; omega), by simp, rfl, by push_cast; first | omega | (simp only; omega)⟩
      · refine ⟨ih.1, ih.2.1, ih.2.2.1, by have := ih.2.2.2; push_cast; omega⟩
theorem planTo_nn {rec : Int → Int → Pl} (H : ∀ k h, 0 ≤ (rec k h).depth) (k h : Int) : ∀ n : Nat, 0 ≤ (planTo rec k h n).depth
  | 0 => by simp [planTo]
  | n + 1 => by
    have ih := planTo_nn H k h n
    have h1 := H (fullI k n) (fullI h n)
    simp only [planTo]
    split
    · exact ih
    · split
      · simp only; omega
      · exact ih
theorem best_skip {rec : Int → Int → Pl} {k h : Int} {q : Nat} (hi : inI k q = true) : planTo rec k h (q + 1) = planTo rec k h q := by simp only [planTo, hi, if_true]
/-- One channel more: its depth is D. -/
theorem best_take {rec : Int → Int → Pl} {k h : Int} {q : Nat} (hi : inI k q = false) {D : Int} (hD : 1 + max (rec (fullI k q) (fullI h q)).depth (rec (fullI k q) h).depth = D) (h7 : D < 7) (hc : bestW (planTo rec k h q) < 0 ∨ D < bestL (planTo rec k h q)) :
    bestW (planTo rec k h (q + 1)) = q ∧ bestL (planTo rec k h (q + 1)) = D := by
  have hl := planTo_low rec k h q
  have e : planTo rec k h (q + 1) = if D < (planTo rec k h q).depth then ⟨D, q, 0⟩ else planTo rec k h q := by simp only [planTo, hi, hD]; rfl
  have hlt : D < (planTo rec k h q).depth := by
    unfold bestW bestL at hc
    split at hc
    · omega
    · rcases hc with hc | hc <;> omega
  rw [e, if_pos hlt]
  unfold bestW bestL
  simp only
  rw [if_neg (by omega), if_neg (by omega)]
  exact ⟨rfl, rfl⟩
theorem best_keep {rec : Int → Int → Pl} {k h : Int} {q : Nat} (hi : inI k q = false) {D : Int} (hD : 1 + max (rec (fullI k q) (fullI h q)).depth (rec (fullI k q) h).depth = D) (hc1 : 0 ≤ bestW (planTo rec k h q)) (hc2 : bestL (planTo rec k h q) ≤ D) :
    planTo rec k h (q + 1) = planTo rec k h q := by
  have e : planTo rec k h (q + 1) = if D < (planTo rec k h q).depth then ⟨D, q, 0⟩ else planTo rec k h q := by simp only [planTo, hi, hD]; rfl
  rw [e, if_neg ?_]
  unfold bestW at hc1
  unfold bestL at hc2
  split at hc1
  · omega
  · rename_i h0
    rw [if_neg h0] at hc2
    omega
/-- What best chooses where the part is not decided. -/
theorem best_plan {rs : List Int} {n : Nat} {first : Bool} (hn : n ≤ 6) (hr : rulesB n rs) {k h r : Int} (hk : isB k) (hh : isB h) (hl : leafA rs first k h = (r, false)) :
    bestW (planTo (planA rs n first) k h n) = (planA rs n first k h).chan ∧ bestL (planTo (planA rs n first) k h n) = (planA rs n first k h).depth := by
  have hd := planA_depth hn (first := first) hr (unk n k + 1) k h (by omega) hk hh
  have hul := unk_le n k
  rw [← planA_test hn hk hl]
  unfold bestW bestL
  rw [if_neg (by omega), if_neg (by omega)]
  exact ⟨rfl, rfl⟩
end Go.Proofs.Ytlnonadkdonhmaa

/- Contract of best, under that of depth. -/
namespace Go.Proofs.Ytlnonadkdonhmaa
open Go.RowKit Go.Maps

def inN (n : Nat) (k : Int) : Prop := 0 ≤ k ∧ k < 2 ^ n
theorem inN_all : ((List.range 7).all fun n => (List.range (2 ^ n)).all fun k => (List.range n).all fun c => decide (0 ≤ fullI (k : Int) (c : Int)) && decide (fullI (k : Int) (c : Int) < 2 ^ n)) = true := by kernel_rfl
theorem inN_full {n c : Nat} {k : Int} (hn : n ≤ 6) (hk : inN n k) (hc : c < n) : inN n (fullI k c) := by
  obtain ⟨x, rfl⟩ := Int.eq_ofNat_of_zero_le hk.1
  have hx : x < 2 ^ n := by have := hk.2; exact_mod_cast this
  have h1 := List.all_eq_true.1 inN_all n (List.mem_range.2 (by omega))
  have h2 := List.all_eq_true.1 h1 x (List.mem_range.2 hx)
  have h3 := List.all_eq_true.1 h2 c (List.mem_range.2 hc)
  simpa [inN] using h3
theorem inN.isB {n : Nat} (hn : n ≤ 6) {k : Int} (h : inN n k) : isB k := by
  have h2 : (2 : Int) ^ n ≤ 2 ^ 6 := by exact_mod_cast Nat.pow_le_pow_right (by decide : 0 < 2) hn
  exact ⟨h.1, by have := h.2; omega⟩

/-- The parts lie there; what they may change. -/
structure Px (rs : List Int) (n : Nat) (first : Bool) (bp : Nat) (A : Option Addr) (c : Nat) (O : Option Addr) (oc : Nat) (bs : List Nat) (v : Value) (M : Nat → Nat → Int) (w : World) : Prop where
  p : Pw w bp n A c rs first O oc bs M v
  m : MemoOk rs n first M

def DepthIH (rs : List Int) (n : Nat) (first : Bool) (bp : Nat) (A : Option Addr) (c : Nat) (O : Option Addr) (oc : Nat) (bs : List Nat) (v : Value) (f : Nat) : Prop :=
  ∀ (known has : Int) (M : Nat → Nat → Int) (w : World), unk n known < f → inN n known → inN n has → Px rs n first bp A c O oc bs v M w →
    Calls Try.prog 109 #[.pointer (some ⟨bp, 0, none⟩), .int .i64 known, .int .i64 has] w fun e w' => e = .returned (.int .i64 (planA rs n first known has).depth) ∧ (∃ M', Px rs n first bp A c O oc bs v M' w') ∧ Frame (fun b => b ∈ bs) w w'

set_option maxRecDepth 100000 in
set_option maxHeartbeats 8000000 in
theorem best_any (rs : List Int) (n : Nat) (hn : n ≤ 6) (hr : rulesB n rs) (first : Bool) (bp : Nat) (A : Option Addr) (c : Nat) (O : Option Addr) (oc : Nat) (bs : List Nat) (v : Value) (f : Nat) (IH : Hid (DepthIH rs n first bp A c O oc bs v f))
    (known has r0 : Int) (M : Nat → Nat → Int) (w : World) (hu : unk n known < f + 1) (hk : inN n known) (hh : inN n has) (hP : Px rs n first bp A c O oc bs v M w) (hl : leafA rs first known has = (r0, false)) :
    Calls Try.prog 123 #[.pointer (some ⟨bp, 0, none⟩), .int .i64 known, .int .i64 has] w fun e w' => e = .returned (.tuple #[.int .i64 (planA rs n first known has).chan, .int .i64 (planA rs n first known has).depth]) ∧ (∃ M', Px rs n first bp A c O oc bs v M' w') ∧ Frame (fun b => b ∈ bs) w w' := by
  have HK := Lib.hid hk
  have HH := Lib.hid hh
  have hkb := hk.isB hn
  have hhb := hh.isB hn
  have HBP := Lib.hid (best_plan (first := first) hn hr hkb hhb hl)
  have HP := Lib.hid hP
  have hnp : Hid (bp ∉ bs) := hP.p.bp_not
  have hul := unk_le n known
  clear hl hk hh hP
  go_enter Try.func123, Try.ntmps123
  go_wp2
  go_loopw [8, 9, 10] (fun o1 o2 i wr => ∃ (q : Nat) (M' : Nat → Nat → Int), q ≤ n ∧ i = .int .i64 q ∧ o1 = .int .i64 (bestW (planTo (planA rs n first) known has q)) ∧ o2 = .int .i64 (bestL (planTo (planA rs n first) known has q)) ∧ Px rs n first bp A c O oc bs v M' wr ∧ Frame (fun b => b ∈ bs) w wr) (fun _ _ i _ => n - (intOf i).toNat)
  case atStart => exact ⟨0, M, Nat.zero_le _, rfl, rfl, rfl, HP.out, Frame.refl _ _⟩
  case round =>
    obtain ⟨q, M1, hq, rfl, rfl, rfl, hP1, hF1⟩ := hrel
    have HP1 := Lib.hid hP1
    have HF1 := Lib.hid hF1
    have g0 := hP1.p.box.cell 0 (v := .int .i64 (n : Int)) rfl
    have hlow := planTo_low (planA rs n first) known has q
    have hbW : -1 ≤ bestW (planTo (planA rs n first) known has q) ∧ bestW (planTo (planA rs n first) known has q) ≤ n := by
      unfold bestW
      split <;> omega
    have hnn := planTo_nn (rec := planA rs n first) (fun k h => (planA_bd rs n first k h).1) known has q
    have hbL : 0 ≤ bestL (planTo (planA rs n first) known has q) ∧ bestL (planTo (planA rs n first) known has q) ≤ 7 := by
      unfold bestL
      split <;> omega
    obtain ⟨W1, HW1⟩ : ∃ x, Hid (bestW (planTo (planA rs n first) known has q) = x) := ⟨_, rfl⟩
    obtain ⟨L1, HL1⟩ : ∃ x, Hid (bestL (planTo (planA rs n first) known has q) = x) := ⟨_, rfl⟩
    rw [HW1.out] at hbW
    rw [HL1.out] at hbL
    rw [HW1.out, HL1.out]
    clear hP1 hF1 hlow hnn
    by_cases hlt : q < n
    · cases hin : inI known q with
      | true =>
        have HI := Lib.hid hin
        have HS := Lib.hid (best_skip (rec := planA rs n first) (h := has) hin)
        clear hin
        go_wp2_with (go_at_call 66; refine (has_any known q _ (by omega) (by omega)).mono ?_; rintro e w1 ⟨rfl, rfl⟩; rw [HI.out])
        go_roundw
        case rel => exact ⟨q + 1, M1, by omega, by go_num, by (rw [HS.out, HW1.out]; first | done | rfl), by (rw [HS.out, HL1.out]; first | done | rfl), HP1.out, HF1.out⟩
        case measure => simp [intOf]; omega
      | false =>
        have HI := Lib.hid hin
        have HU : Hid (unk n (fullI known q) + 1 = unk n known) := unk_full hn hkb hlt hin
        have HKB : Hid (inN n (fullI known q)) := inN_full hn HK.out hlt
        have HHB : Hid (inN n (fullI has q)) := inN_full hn HH.out hlt
        have hd1 := planA_bd rs n first (fullI known q) (fullI has q)
        have hd2 := planA_bd rs n first (fullI known q) has
        have hp := p2_nat (k := q) (by omega)
        have hp' : IntKind.i64.wrap (2 ^ q) = 2 ^ q := by rw [IntKind.wrap_i64]; unfold wrap64 at hp; exact hp
        have HE1 : Hid (bits BinOp.or .i64 known (2 ^ q) = fullI known q) := by show _ = _; simp [fullI]
        have HE2 : Hid (bits BinOp.or .i64 has (2 ^ q) = fullI has q) := by show _ = _; simp [fullI]
        clear hin
        go_wp2_with (go_at_call 66; refine (has_any known q _ (by omega) (by omega)).mono ?_; rintro e w1 ⟨rfl, rfl⟩; rw [HI.out])
        refine draw (fun w' => Frame (fun b => b ∈ bs) wr w') 20 rfl (by kernel_rfl) (fun Qd hQd => ?_)
        apply anyI_step 0 rfl (by kernel_rfl)
        focus (intro wI hI Kv hKv; go_simp; exact hKv)
        intro Kd hKd
        go_simp
        refine hKd _ ?_
        clear hKd Kd
        apply anyI_step 1 rfl (by kernel_rfl)
        focus (intro wI hI Kv hKv; go_simp; exact hKv)
        intro Kd hKd
        go_simp
        refine hKd _ ?_
        clear hKd Kd
        apply anyI_step 2 rfl (by kernel_rfl)
        focus (intro wI hI Kv hKv; go_simp; exact hKv)
        intro Kd hKd
        go_simp
        refine hKd _ ?_
        clear hKd Kd
        apply anyI_step 5 rfl (by kernel_rfl)
        focus (intro wI hI Kv hKv; go_simp; exact hKv)
        intro Kd hKd
        go_simp
        refine hKd _ ?_
        clear hKd Kd
        apply anyI_step 6 rfl (by kernel_rfl)
        focus (intro wI hI Kv hKv; go_simp; exact hKv)
        intro Kd hKd
        go_simp
        refine hKd _ ?_
        clear hKd Kd
        apply anyI_step 10 rfl (by kernel_rfl)
        focus (intro wI hI Kv hKv; go_simp; exact hKv)
        intro Kd hKd
        go_simp
        refine hKd _ ?_
        clear hKd Kd
        apply anyI_step 11 rfl (by kernel_rfl)
        focus (intro wI hI Kv hKv; go_simp; exact hKv)
        intro Kd hKd
        go_simp
        refine hKd _ ?_
        clear hKd Kd
        apply anyI_step 12 rfl (by kernel_rfl)
        focus (intro wI hI Kv hKv; go_simp; exact hKv)
        intro Kd hKd
        go_simp
        refine hKd _ ?_
        clear hKd Kd
        apply anyI_step 15 rfl (by kernel_rfl)
        focus (intro wI hI Kv hKv; go_simp; exact hKv)
        intro Kd hKd
        go_simp
        refine hKd _ ?_
        clear hKd Kd
        apply anyI_step 3 rfl (by kernel_rfl)
        focus (intro wI hI Kv hKv; go_simp; exact hKv)
        intro Kd hKd
        go_simp
        refine hKd _ ?_
        clear hKd Kd
        apply anyI_step 7 rfl (by kernel_rfl)
        focus (intro wI hI Kv hKv; go_simp; exact hKv)
        intro Kd hKd
        go_simp
        refine hKd _ ?_
        clear hKd Kd
        apply anyI_step 13 rfl (by kernel_rfl)
        focus (intro wI hI Kv hKv; go_simp; exact hKv)
        intro Kd hKd
        go_simp
        refine hKd _ ?_
        clear hKd Kd
        apply anyI_step 4 rfl (by kernel_rfl)
        focus (intro wI hI Kv hKv; go_simp; exact hKv)
        intro Kd hKd
        go_simp
        refine hKd _ ?_
        clear hKd Kd
        apply anyI_step 8 rfl (by kernel_rfl)
        focus (intro wI hI Kv hKv; go_simp; exact hKv)
        intro Kd hKd
        go_simp
        refine hKd _ ?_
        clear hKd Kd
        apply anyI_step 14 rfl (by kernel_rfl)
        focus (intro wI hI Kv hKv; go_simp; exact hKv)
        intro Kd hKd
        go_simp
        refine hKd _ ?_
        clear hKd Kd
        refine anyI_one' 9 rfl (by kernel_rfl) ((Frame.refl _ _).drew) (fun Kd hKd => ?_)
        go_wp2_with (go_at_call 109; rw [HE1.out, HE2.out]; go_must (refine (IH.out (fullI known q) (fullI has q) M1 _ (by have := HU.out; omega) HKB.out HHB.out ⟨HP1.out.p.drew, HP1.out.m⟩).mono ?_); rintro e w5 ⟨rfl, ⟨M5, hP5⟩, hF5⟩)
        have HP5 := Lib.hid hP5
        have HF5 : Hid (Frame (fun b => b ∈ bs) wr w5) := (Frame.refl _ wr).drew.trans hF5 (fun _ _ h => h)
        clear hP5 hF5
        refine anyI_one' 16 rfl (by kernel_rfl) (HF5.out) (fun Kd hKd => ?_)
        go_wp2_with (go_at_call 109; go_must (refine (IH.out (fullI known q) has M5 _ (by have := HU.out; omega) HKB.out HH.out HP5.out).mono ?_); rintro e w6 ⟨rfl, ⟨M6, hP6⟩, hF6⟩)
        have HP6 := Lib.hid hP6
        have HF6 : Hid (Frame (fun b => b ∈ bs) wr w6) := HF5.out.trans hF6 (fun _ _ h => h)
        have HF : Hid (Frame (fun b => b ∈ bs) w w6) := HF1.out.trans HF6.out (fun _ _ h => h)
        clear hP6 hF6
        obtain ⟨d1, HD1⟩ : ∃ x, Hid ((planA rs n first (fullI known q) (fullI has q)).depth = x) := ⟨_, rfl⟩
        obtain ⟨d2, HD2⟩ : ∃ x, Hid ((planA rs n first (fullI known q) has).depth = x) := ⟨_, rfl⟩
        rw [HD1.out] at hd1
        rw [HD2.out] at hd2
        rw [HD1.out, HD2.out]
        have hu5 := HU.out
        have hd1' := planA_depth hn (first := first) hr (n + 1) (fullI known q) (fullI has q) (by omega) (HKB.out.isB hn) (HHB.out.isB hn)
        have hd2' := planA_depth hn (first := first) hr (n + 1) (fullI known q) has (by omega) (HKB.out.isB hn) hhb
        rw [HD1.out] at hd1'
        rw [HD2.out] at hd2'
        have hd15 : d1 ≤ 5 := by omega
        have hd25 : d2 ≤ 5 := by omega
        clear hd1' hd2' hu5
        rcases Int.lt_trichotomy d1 d2 with hle | hle | hle
        · have HDD : Hid (1 + max (planA rs n first (fullI known q) (fullI has q)).depth (planA rs n first (fullI known q) has).depth = 1 + d2) := by show _ = _; rw [HD1.out, HD2.out]; omega
          have h7 : 1 + d2 < 7 := by omega
          have hw : IntKind.i64.wrap (1 + d2) = 1 + d2 := by rw [IntKind.wrap_i64]; omega
          apply anyI_step 17 rfl (by kernel_rfl)
          focus (intro wI hI Kv hKv; go_simp; exact hKv)
          intro Kd hKd
          go_simp
          refine hKd _ ?_
          clear hKd Kd
          apply anyI_step 18 rfl (by kernel_rfl)
          focus (intro wI hI Kv hKv; go_simp; exact hKv)
          intro Kd hKd
          go_simp
          refine hKd _ ?_
          clear hKd Kd
          apply anyI_step 19 rfl (by kernel_rfl)
          focus (intro wI hI Kv hKv; go_simp; exact hKv)
          intro Kd hKd
          go_simp
          refine hKd _ ?_
          clear hKd Kd
          refine anyI_end (by kernel_rfl) (HF6.out) (hQd _ _ ?_)
          clear hQd Qd
          by_cases hW : W1 < 0
          · have HS := Lib.hid (best_take HI.out HDD.out h7 (.inl (by rw [HW1.out]; exact hW)))
            have q1 : decide (W1 < 0) = true := decide_eq_true hW
            clear hW
            go_wp2
            go_roundw
            case rel => exact ⟨q + 1, M6, by omega, by go_num, by (rw [HS.out.1]; first | done | rfl), by (rw [HS.out.2]; first | done | rfl), HP6.out, HF.out⟩
            case measure => simp [intOf]; omega
          · have q1 : decide (W1 < 0) = false := decide_eq_false hW
            by_cases hL : 1 + d2 < L1
            · have HS := Lib.hid (best_take HI.out HDD.out h7 (.inr (by rw [HL1.out]; exact hL)))
              have q2 : decide (1 + d2 < L1) = true := decide_eq_true hL
              clear hL
              go_wp2
              go_roundw
              case rel => exact ⟨q + 1, M6, by omega, by go_num, by (rw [HS.out.1]; first | done | rfl), by (rw [HS.out.2]; first | done | rfl), HP6.out, HF.out⟩
              case measure => simp [intOf]; omega
            · have HS := Lib.hid (best_keep HI.out HDD.out (by rw [HW1.out]; omega) (by rw [HL1.out]; omega))
              have q2 : decide (1 + d2 < L1) = false := decide_eq_false hL
              clear hL
              go_wp2
              go_roundw
              case rel => exact ⟨q + 1, M6, by omega, by go_num, by (rw [HS.out, HW1.out]; first | done | rfl), by (rw [HS.out, HL1.out]; first | done | rfl), HP6.out, HF.out⟩
              case measure => simp [intOf]; omega
        · subst hle
          have HDD : Hid (1 + max (planA rs n first (fullI known q) (fullI has q)).depth (planA rs n first (fullI known q) has).depth = 1 + d1) := by show _ = _; rw [HD1.out, HD2.out]; omega
          have h7 : 1 + d1 < 7 := by omega
          have hw : IntKind.i64.wrap (1 + d1) = 1 + d1 := by rw [IntKind.wrap_i64]; omega
          apply anyI_step 17 rfl (by kernel_rfl)
          focus (intro wI hI Kv hKv; go_simp; exact hKv)
          intro Kd hKd
          go_simp
          refine hKd _ ?_
          clear hKd Kd
          apply anyI_step 18 rfl (by kernel_rfl)
          focus (intro wI hI Kv hKv; go_simp; exact hKv)
          intro Kd hKd
          go_simp
          refine hKd _ ?_
          clear hKd Kd
          apply anyI_step 19 rfl (by kernel_rfl)
          focus (intro wI hI Kv hKv; go_simp; exact hKv)
          intro Kd hKd
          go_simp
          refine hKd _ ?_
          clear hKd Kd
          refine anyI_end (by kernel_rfl) (HF6.out) (hQd _ _ ?_)
          clear hQd Qd
          by_cases hW : W1 < 0
          · have HS := Lib.hid (best_take HI.out HDD.out h7 (.inl (by rw [HW1.out]; exact hW)))
            have q1 : decide (W1 < 0) = true := decide_eq_true hW
            clear hW
            go_wp2
            go_roundw
            case rel => exact ⟨q + 1, M6, by omega, by go_num, by (rw [HS.out.1]; first | done | rfl), by (rw [HS.out.2]; first | done | rfl), HP6.out, HF.out⟩
            case measure => simp [intOf]; omega
          · have q1 : decide (W1 < 0) = false := decide_eq_false hW
            by_cases hL : 1 + d1 < L1
            · have HS := Lib.hid (best_take HI.out HDD.out h7 (.inr (by rw [HL1.out]; exact hL)))
              have q2 : decide (1 + d1 < L1) = true := decide_eq_true hL
              clear hL
              go_wp2
              go_roundw
              case rel => exact ⟨q + 1, M6, by omega, by go_num, by (rw [HS.out.1]; first | done | rfl), by (rw [HS.out.2]; first | done | rfl), HP6.out, HF.out⟩
              case measure => simp [intOf]; omega
            · have HS := Lib.hid (best_keep HI.out HDD.out (by rw [HW1.out]; omega) (by rw [HL1.out]; omega))
              have q2 : decide (1 + d1 < L1) = false := decide_eq_false hL
              clear hL
              go_wp2
              go_roundw
              case rel => exact ⟨q + 1, M6, by omega, by go_num, by (rw [HS.out, HW1.out]; first | done | rfl), by (rw [HS.out, HL1.out]; first | done | rfl), HP6.out, HF.out⟩
              case measure => simp [intOf]; omega
        · have HDD : Hid (1 + max (planA rs n first (fullI known q) (fullI has q)).depth (planA rs n first (fullI known q) has).depth = 1 + d1) := by show _ = _; rw [HD1.out, HD2.out]; omega
          have h7 : 1 + d1 < 7 := by omega
          have hw : IntKind.i64.wrap (1 + d1) = 1 + d1 := by rw [IntKind.wrap_i64]; omega
          have hif : (if d1 < d2 then d2 else d1) = d1 := if_neg (by omega)
          apply anyI_step 17 rfl (by kernel_rfl)
          focus (intro wI hI Kv hKv; go_simp; exact hKv)
          intro Kd hKd
          go_simp
          refine hKd _ ?_
          clear hKd Kd
          apply anyI_step 18 rfl (by kernel_rfl)
          focus (intro wI hI Kv hKv; go_simp; exact hKv)
          intro Kd hKd
          go_simp
          refine hKd _ ?_
          clear hKd Kd
          apply anyI_step 19 rfl (by kernel_rfl)
          focus (intro wI hI Kv hKv; go_simp; exact hKv)
          intro Kd hKd
          go_simp
          refine hKd _ ?_
          clear hKd Kd
          refine anyI_end (by kernel_rfl) (HF6.out) (hQd _ _ ?_)
          clear hQd Qd
          by_cases hW : W1 < 0
          · have HS := Lib.hid (best_take HI.out HDD.out h7 (.inl (by rw [HW1.out]; exact hW)))
            have q1 : decide (W1 < 0) = true := decide_eq_true hW
            clear hW
            go_wp2
            go_roundw
            case rel => exact ⟨q + 1, M6, by omega, by go_num, by (rw [HS.out.1]; first | done | rfl), by (rw [HS.out.2]; first | done | rfl), HP6.out, HF.out⟩
            case measure => simp [intOf]; omega
          · have q1 : decide (W1 < 0) = false := decide_eq_false hW
            by_cases hL : 1 + d1 < L1
            · have HS := Lib.hid (best_take HI.out HDD.out h7 (.inr (by rw [HL1.out]; exact hL)))
              have q2 : decide (1 + d1 < L1) = true := decide_eq_true hL
              clear hL
              go_wp2
              go_roundw
              case rel => exact ⟨q + 1, M6, by omega, by go_num, by (rw [HS.out.1]; first | done | rfl), by (rw [HS.out.2]; first | done | rfl), HP6.out, HF.out⟩
              case measure => simp [intOf]; omega
            · have HS := Lib.hid (best_keep HI.out HDD.out (by rw [HW1.out]; omega) (by rw [HL1.out]; omega))
              have q2 : decide (1 + d1 < L1) = false := decide_eq_false hL
              clear hL
              go_wp2
              go_roundw
              case rel => exact ⟨q + 1, M6, by omega, by go_num, by (rw [HS.out, HW1.out]; first | done | rfl), by (rw [HS.out, HL1.out]; first | done | rfl), HP6.out, HF.out⟩
              case measure => simp [intOf]; omega
    · obtain rfl : q = n := by omega
      go_wp2
      go_ret2
      exact ⟨by rw [← HBP.out.1, ← HBP.out.2, HW1.out, HL1.out]; rfl, ⟨M1, HP1.out⟩, HF1.out⟩
end Go.Proofs.Ytlnonadkdonhmaa
