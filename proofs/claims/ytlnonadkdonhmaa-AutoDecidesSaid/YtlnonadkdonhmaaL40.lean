/- Contracts and lemmas that a claim of this seat uses. -/
import Derived.Test.YtlnonadkdonhmaaL39

/- The plain law of trees: no tree that decides is lower than the plan. -/
namespace Go.Proofs.Ytlnonadkdonhmaa
open Go.RowKit Go.Maps

def toS (b0 b1 b2 b3 b4 b5 : Bool) : Int := (if b0 then 1 else 0) + (if b1 then 2 else 0) + (if b2 then 4 else 0) + (if b3 then 8 else 0) + (if b4 then 16 else 0) + (if b5 then 32 else 0)
theorem toS_in : ∀ b0 b1 b2 b3 b4 b5 : Bool, inI (toS b0 b1 b2 b3 b4 b5) ((0 : Nat) : Int) = b0 ∧ inI (toS b0 b1 b2 b3 b4 b5) ((1 : Nat) : Int) = b1 ∧ inI (toS b0 b1 b2 b3 b4 b5) ((2 : Nat) : Int) = b2 ∧ inI (toS b0 b1 b2 b3 b4 b5) ((3 : Nat) : Int) = b3 ∧ inI (toS b0 b1 b2 b3 b4 b5) ((4 : Nat) : Int) = b4 ∧ inI (toS b0 b1 b2 b3 b4 b5) ((5 : Nat) : Int) = b5 := by
  intro b0 b1 b2 b3 b4 b5
  cases b0 <;> cases b1 <;> cases b2 <;> cases b3 <;> cases b4 <;> cases b5 <;> exact ⟨rfl, rfl, rfl, rfl, rfl, rfl⟩
theorem set_exists (P : Nat → Bool) : ∃ s : Int, isB s ∧ ∀ c : Nat, c < 6 → inI s c = P c := by
  obtain ⟨h0, h1, h2, h3, h4, h5⟩ := toS_in (P 0) (P 1) (P 2) (P 3) (P 4) (P 5)
  refine ⟨toS (P 0) (P 1) (P 2) (P 3) (P 4) (P 5), ?_, fun c hc => ?_⟩
  · unfold toS isB
    constructor <;> (repeat' split) <;> omega
  · match c, hc with
    | 0, _ => exact h0
    | 1, _ => exact h1
    | 2, _ => exact h2
    | 3, _ => exact h3
    | 4, _ => exact h4
    | 5, _ => exact h5
theorem low_all : ((List.range 7).all fun n => (List.range 64).all fun s => !((List.range 6).all fun c => !(inI (s : Int) (c : Int)) || decide (c < n)) || decide (s < 2 ^ n)) = true := by kernel_rfl
theorem low_set {n : Nat} {s : Int} (hn : n ≤ 6) (hs : isB s) (h : ∀ c : Nat, c < 6 → inI s c = true → c < n) : s < 2 ^ n := by
  obtain ⟨x, rfl, hx⟩ := nat_of hs
  have h1 := List.all_eq_true.1 low_all n (List.mem_range.2 (by omega))
  have h2 := List.all_eq_true.1 h1 x (List.mem_range.2 hx)
  have h3 : ((List.range 6).all fun c => !(inI (x : Int) (c : Int)) || decide (c < n)) = true := by
    rw [List.all_eq_true]
    intro c hc
    cases hi : inI (x : Int) (c : Int) with
    | false => rfl
    | true => simpa using h c (List.mem_range.1 hc) hi
  rw [h3] at h2
  have : x < 2 ^ n := by simpa using h2
  exact_mod_cast this
theorem in_low_all : ((List.range 7).all fun n => (List.range 64).all fun s => !(decide (s < 2 ^ n)) || ((List.range 6).all fun c => !(inI (s : Int) (c : Int)) || decide (c < n))) = true := by kernel_rfl
theorem in_low {n c : Nat} {s : Int} (hn : n ≤ 6) (hs : isB s) (h : s < 2 ^ n) (hc : c < 6) (hi : inI s c = true) : c < n := by
  obtain ⟨x, rfl, hx⟩ := nat_of hs
  have h1 := List.all_eq_true.1 in_low_all n (List.mem_range.2 (by omega))
  have h2 := List.all_eq_true.1 h1 x (List.mem_range.2 hx)
  have h0 : x < 2 ^ n := by exact_mod_cast h
  rw [decide_eq_true h0] at h2
  simp only [Bool.not_true, Bool.false_or] at h2
  have h3 := List.all_eq_true.1 h2 c (List.mem_range.2 hc)
  rw [hi] at h3
  simpa using h3
theorem ext_all0 : ((List.range 64).all fun x => (List.range 64).all fun y => !((List.range 6).all fun c => inI (x : Int) (c : Int) == inI (y : Int) (c : Int)) || decide (x = y)) = true := by kernel_rfl
theorem isB_ext0 {s t : Int} (hs : isB s) (ht : isB t) (h : ∀ c : Nat, c < 6 → inI s c = inI t c) : s = t := by
  obtain ⟨x, rfl, hx⟩ := nat_of hs
  obtain ⟨y, rfl, hy⟩ := nat_of ht
  have h1 := List.all_eq_true.1 ext_all0 x (List.mem_range.2 hx)
  have h2 := List.all_eq_true.1 h1 y (List.mem_range.2 hy)
  have h3 : ((List.range 6).all fun c => inI (x : Int) (c : Int) == inI (y : Int) (c : Int)) = true := by
    rw [List.all_eq_true]
    intro c hc
    rw [h c (List.mem_range.1 hc)]
    simp
  rw [h3] at h2
  have : x = y := by simpa using h2
  rw [this]
theorem Fits.eq {k h s : Int} (hk : isB k) (hh : isB h) (hs : isB s) (hF : Fits k h s) : bits BinOp.and .i64 s k = h :=
  isB_ext0 (and_isB hs hk) hh fun c hc => by
    rw [in_and hs hk hc]
    have := hF c hc
    cases h1 : inI s c <;> cases h2 : inI k c <;> cases h3 : inI h c <;> simp_all
/-- The known ones lie within the channels, what is there within the known. -/
structure PartP (n : Nat) (k h : Int) : Prop where
  kB : isB k
  hB : isB h
  low : ∀ c : Nat, c < 6 → inI k c = true → c < n
  sub : ∀ c : Nat, c < 6 → inI h c = true → inI k c = true
theorem PartP.yes {n : Nat} {k h : Int} (hP : PartP n k h) (hn : n ≤ 6) {d : Nat} (hd : d < n) : PartP n (fullI k d) (fullI h d) :=
  ⟨full_isB hP.kB (by omega) (by omega), full_isB hP.hB (by omega) (by omega), fun c hc hi => by
    rw [in_full hP.kB (by omega) hc, Bool.or_eq_true, decide_eq_true_eq] at hi
    rcases hi with hi | hi
    · exact hP.low c hc hi
    · omega, fun c hc hi => by
    rw [in_full hP.hB (by omega) hc, Bool.or_eq_true, decide_eq_true_eq] at hi
    rw [in_full hP.kB (by omega) hc, Bool.or_eq_true, decide_eq_true_eq]
    exact hi.imp (hP.sub c hc) id⟩
theorem PartP.no {n : Nat} {k h : Int} (hP : PartP n k h) (hn : n ≤ 6) {d : Nat} (hd : d < n) : PartP n (fullI k d) h :=
  ⟨full_isB hP.kB (by omega) (by omega), hP.hB, fun c hc hi => by
    rw [in_full hP.kB (by omega) hc, Bool.or_eq_true, decide_eq_true_eq] at hi
    rcases hi with hi | hi
    · exact hP.low c hc hi
    · omega, fun c hc hi => by
    rw [in_full hP.kB (by omega) hc, Bool.or_eq_true, decide_eq_true_eq]
    exact .inl (hP.sub c hc hi)⟩
theorem Fits.of_yes {n : Nat} {k h s : Int} (hP : PartP n k h) (hn : n ≤ 6) {d : Nat} (hd : d < n) (hi : inI k d = false) (hF : Fits (fullI k d) (fullI h d) s) : Fits k h s ∧ inI s d = true := by
  have hd6 : d < 6 := by omega
  refine ⟨fun c hc => ?_, ?_⟩
  · have := hF c hc
    rw [in_full hP.hB hd6 hc, in_full hP.kB hd6 hc] at this
    by_cases e : c = d
    · subst e
      have h1 := hP.sub c hc
      rw [hi] at h1
      rw [hi]
      constructor
      · intro h2; exact absurd (h1 h2) (by decide)
      · rintro ⟨_, h2⟩; cases h2
    · rw [decide_eq_false e, Bool.or_false, Bool.or_false] at this
      exact this
  · have := hF d hd6
    rw [in_full hP.hB hd6 hd6, decide_eq_true rfl, Bool.or_true] at this
    exact (this.1 rfl).1
theorem Fits.of_no {n : Nat} {k h s : Int} (hP : PartP n k h) (hn : n ≤ 6) {d : Nat} (hd : d < n) (hi : inI k d = false) (hF : Fits (fullI k d) h s) : Fits k h s ∧ inI s d = false := by
  have hd6 : d < 6 := by omega
  have hhd : inI h d = false := by
    cases h1 : inI h d with
    | false => rfl
    | true => rw [hP.sub d hd6 h1] at hi; cases hi
  have hsd : inI s d = false := by
    have := hF d hd6
    rw [in_full hP.kB hd6 hd6, decide_eq_true rfl, Bool.or_true, hhd] at this
    cases h1 : inI s d with
    | false => rfl
    | true => exact absurd (this.2 ⟨h1, rfl⟩) (by decide)
  refine ⟨fun c hc => ?_, hsd⟩
  have := hF c hc
  rw [in_full hP.kB hd6 hc] at this
  by_cases e : c = d
  · subst e
    rw [hhd, hi]
    constructor
    · intro h2; cases h2
    · rintro ⟨_, h2⟩; cases h2
  · rw [decide_eq_false e, Bool.or_false] at this
    exact this
end Go.Proofs.Ytlnonadkdonhmaa

/- The plain law of trees: no tree that decides is lower than the plan. -/
namespace Go.Proofs.Ytlnonadkdonhmaa
open Go.RowKit Go.Maps

theorem rulesGood_at {first : Bool} {r s : Int} : ∀ {rs : List Int} {i j : Nat} {x : Int}, rulesGood first r s i rs = true → rs[j]? = some x → ruleBad first r s (i + j) x = false
  | [], _, _, _, _, h => by simp at h
  | y :: rs, i, 0, x, h, hx => by
    simp at hx
    subst hx
    rw [rulesGood, Bool.and_eq_true] at h
    simpa using h.1
  | y :: rs, i, j + 1, x, h, hx => by
    rw [rulesGood, Bool.and_eq_true] at h
    have := rulesGood_at h.2 (j := j) (x := x) (by simpa using hx)
    rw [show i + (j + 1) = i + 1 + j by omega]
    exact this
theorem leafGo_no {first : Bool} {k h : Int} : ∀ (rs : List Int) (i : Nat) (out : Bool), (leafGo first k h rs i out).2 = false →
    (first = true ∧ (out = false ∨ ∃ (j : Nat) (x : Int), rs[j]? = some x ∧ withinI x h = false ∧ goneI x k h = false ∧ ∀ (j' : Nat) (x' : Int), j' < j → rs[j']? = some x' → goneI x' k h = true)) ∨
    (first = false ∧ (∀ x ∈ rs, withinI x h = false) ∧ (out = false ∨ ∃ x ∈ rs, goneI x k h = false))
  | [], i, out, e => by
    simp only [leafGo] at e
    cases first with
    | true => exact .inl ⟨rfl, .inl e⟩
    | false => exact .inr ⟨rfl, fun x hx => by (cases hx), .inl e⟩
  | y :: rs, i, out, e => by
    rw [leafGo] at e
    by_cases hw : withinI y h = true
    · rw [if_pos hw] at e
      cases e
    · rw [if_neg hw] at e
      have hw' : withinI y h = false := by simpa using hw
      by_cases hg : goneI y k h = true
      · rw [if_pos hg] at e
        rcases leafGo_no rs (i + 1) out e with ⟨h1, h2⟩ | ⟨h1, h2, h3⟩
        · refine .inl ⟨h1, h2.imp id ?_⟩
          rintro ⟨j, x, g1, g2, g3, g4⟩
          refine ⟨j + 1, x, by simpa using g1, g2, g3, fun j' x' hj hx' => ?_⟩
          cases j' with
          | zero => simp at hx'; subst hx'; exact hg
          | succ j' => exact g4 j' x' (by omega) (by simpa using hx')
        · refine .inr ⟨h1, fun x hx => ?_, h3.imp id ?_⟩
          · rcases List.mem_cons.1 hx with rfl | hx
            · exact hw'
            · exact h2 x hx
          · rintro ⟨x, hx, hgx⟩
            exact ⟨x, List.mem_cons_of_mem _ hx, hgx⟩
      · rw [if_neg hg] at e
        have hg' : goneI y k h = false := by simpa using hg
        cases first with
        | true => exact .inl ⟨rfl, .inr ⟨0, y, rfl, hw', hg', fun j' x' hj => by omega⟩⟩
        | false =>
          simp only [Bool.false_eq_true, if_false] at e
          rcases leafGo_no rs (i + 1) false e with ⟨h1, _⟩ | ⟨_, h2, _⟩
          · cases h1
          · refine .inr ⟨rfl, fun x hx => ?_, .inr ⟨y, List.mem_cons_self, hg'⟩⟩
            rcases List.mem_cons.1 hx with rfl | hx
            · exact hw'
            · exact h2 x hx
section
variable {rs : List Int} {n : Nat} {first : Bool}
/-- A rule that all sets of a part bear out: the part is decided. -/
theorem leaf_must (hn : n ≤ 6) (hb : bAll rs) (hlow : ∀ r ∈ rs, ∀ c : Nat, c < 6 → inI r c = true → c < n) {k h r : Int} (hP : PartP n k h)
    (hall : ∀ s : Int, isB s → s < 2 ^ n → Fits k h s → saysOk rs first r s = true) (hrr : r < (rs.length : Int)) : (leafA rs first k h).2 = true := by
  cases hl : (leafA rs first k h).2 with
  | true => rfl
  | false =>
    exfalso
    -- the set with all that may be there, and the one with none of it
    obtain ⟨s1, hs1, hm1⟩ := set_exists fun c => inI h c || (decide (c < n) && !(inI k c))
    have hF1 : Fits k h s1 := by
      intro c hc
      rw [hm1 c hc]
      have := hP.sub c hc
      cases h1 : inI h c <;> cases h2 : inI k c <;> simp_all
    have hl1 : s1 < 2 ^ n := low_set hn hs1 fun c hc hi => by
      rw [hm1 c hc, Bool.or_eq_true, Bool.and_eq_true, decide_eq_true_eq] at hi
      rcases hi with hi | hi
      · exact hP.low c hc (hP.sub c hc hi)
      · exact hi.1
    have hF0 : Fits k h h := by
      intro c hc
      have := hP.sub c hc
      constructor
      · intro h1; exact ⟨h1, this h1⟩
      · exact fun h1 => h1.1
    have hl0 : h < 2 ^ n := low_set hn hP.hB fun c hc hi => hP.low c hc (hP.sub c hc hi)
    have a1 := hall s1 hs1 hl1 hF1
    have a0 := hall h hP.hB hl0 hF0
    unfold saysOk at a1 a0
    rw [Bool.and_eq_true] at a1 a0
    -- a rule that is not gone lies within the full set
    have hup : ∀ x ∈ rs, goneI x k h = false → withinI x s1 = true := by
      intro x hx hg
      rw [within_iff (hb x hx) hs1]
      intro c hc hi
      rw [hm1 c hc]
      cases hk : inI k c with
      | false => rw [decide_eq_true (hlow x hx c hc hi)]; simp
      | true =>
        have h2 : withinI (bits BinOp.and .i64 x k) h = true := by
          unfold goneI at hg
          unfold withinI
          simpa using hg
        have h3 := (within_iff (and_isB (hb x hx) hP.kB) hP.hB).1 h2 c hc (by rw [in_and (hb x hx) hP.kB hc, hi, hk]; rfl)
        rw [h3]; rfl
    have hfirst : ∀ (j : Nat) (x : Int), rs[j]? = some x → withinI x s1 = true → 0 ≤ r := by
      intro j x hx hw
      have := rulesGood_at a1.2 hx
      unfold ruleBad at this
      rw [hw, Bool.true_and, Bool.or_eq_false_iff] at this
      have := of_decide_eq_false this.1
      omega
    unfold leafA at hl
    have hget : ∀ (h0 : 0 ≤ r), ∃ z, rs[r.toNat]? = some z ∧ withinI z s1 = true ∧ withinI z h = true := by
      intro h0
      have hlt : r.toNat < rs.length := by omega
      refine ⟨rs[r.toNat], List.getElem?_eq_getElem hlt, ?_, ?_⟩
      · have := a1.1
        rw [decide_eq_false (show ¬ r < 0 by omega), Bool.false_or, show rs.getD r.toNat 0 = rs[r.toNat] by simp [List.getD, List.getElem?_eq_getElem hlt]] at this
        exact this
      · have := a0.1
        rw [decide_eq_false (show ¬ r < 0 by omega), Bool.false_or, show rs.getD r.toNat 0 = rs[r.toNat] by simp [List.getD, List.getElem?_eq_getElem hlt]] at this
        exact this
    rcases leafGo_no rs 0 true hl with ⟨hf, h1⟩ | ⟨hf, h1, h2⟩
    · rcases h1 with h1 | ⟨j, x, g1, g2, g3, g4⟩
      · cases h1
      · have hw := hup x (List.mem_of_getElem? g1) g3
        have h0 := hfirst j x g1 hw
        obtain ⟨z, z1, z2, z3⟩ := hget h0
        rcases Nat.lt_trichotomy r.toNat j with h | h | h
        · have := g4 r.toNat z h z1
          rw [gone_not hF1 (hb z (List.mem_of_getElem? z1)) hP.kB hP.hB hs1 this] at z2
          cases z2
        · rw [h, g1] at z1
          injection z1 with z1
          rw [← z1, g2] at z3
          cases z3
        · have := rulesGood_at a1.2 g1
          unfold ruleBad at this
          rw [hw, hf, Bool.true_and, Bool.true_and, Bool.or_eq_false_iff] at this
          have := of_decide_eq_false this.2
          omega
    · rcases h2 with h2 | ⟨x, hx, hg⟩
      · cases h2
      · obtain ⟨j, hj⟩ := List.getElem?_of_mem hx
        have h0 := hfirst j x hj (hup x hx hg)
        obtain ⟨z, z1, _, z3⟩ := hget h0
        rw [h1 z (List.mem_of_getElem? z1)] at z3
        cases z3
/-- No tree that decides a part is lower than the part's plan. -/
theorem deep_least (hn : n ≤ 6) (hr : rulesB n rs) (hb : bAll rs) (hlow : ∀ r ∈ rs, ∀ c : Nat, c < 6 → inI r c = true → c < n) {t : List Nd} (ht : treeB (n : Int) rs.length t = true) : ∀ (f a : Nat) (k h : Int), t.length - a ≤ f → a < t.length → PartP n k h →
    (∀ s : Int, isB s → s < 2 ^ n → Fits k h s → saysOk rs first (askA s t (t.length - a) a).1 s = true) → (planA rs n first k h).depth ≤ htT t a
  | 0, _, _, _, hf, ha, _, _ => by omega
  | f + 1, a, k, h, hf, ha, hP, hall => by
    have hx : t[a]? = some t[a] := List.getElem?_eq_getElem ha
    have h0 := (htA_bd t (t.length - a) a).1
    rcases tree_at ht hx with hc | hc
    · rw [htT_leaf hx (by omega)]
      have hlm : (leafA rs first k h).2 = true := leaf_must hn hb hlow hP (r := t[a].rule) (fun s hs hsl hF => by
        have := hall s hs hsl hF
        rw [askA_leaf hx (by omega)] at this
        exact this) hc.2.2
      rcases plan_split (first := first) hn hr hP.kB hP.hB with ⟨_, h3, _⟩ | ⟨c, _, _, h2, _⟩
      · omega
      · rw [hlm] at h2; cases h2
    · obtain ⟨c, hce⟩ := Int.eq_ofNat_of_zero_le hc.1
      obtain ⟨y, hye⟩ := Int.eq_ofNat_of_zero_le (a := t[a].yes) (by omega)
      obtain ⟨z, hze⟩ := Int.eq_ofNat_of_zero_le (a := t[a].no) (by omega)
      have hcn : c < n := by omega
      rw [htT_test ht hx hc.1 hye hze]
      have hst : ∀ s : Int, (askA s t (t.length - a) a).1 = if inI s c = true then (askA s t (t.length - y) y).1 else (askA s t (t.length - z) z).1 := by
        intro s
        have e := askA_test (s := s) (f := t.length - a - 1) hx hc.1
        rw [show t.length - a - 1 + 1 = t.length - a by omega, hce, hye, hze] at e
        rw [e]
        by_cases hi : inI s c = true
        · rw [if_pos hi, if_pos hi, Int.toNat_natCast, askA_more ht s (k := y) (f' := t.length - y) (by omega) (by omega) (Nat.le_refl _)]
        · rw [if_neg hi, if_neg hi, Int.toNat_natCast, askA_more ht s (k := z) (f' := t.length - z) (by omega) (by omega) (Nat.le_refl _)]
      cases hi : inI k c with
      | true =>
        cases hh : inI h c with
        | true =>
          have := deep_least hn hr hb hlow ht f y k h (by omega) (by omega) hP (fun s hs hsl hF => by
            have h1 := hall s hs hsl hF
            rw [hst s, if_pos ((hF c (by omega)).1 hh).1] at h1
            exact h1)
          omega
        | false =>
          have := deep_least hn hr hb hlow ht f z k h (by omega) (by omega) hP (fun s hs hsl hF => by
            have h1 := hall s hs hsl hF
            have h2 : ¬ inI s c = true := fun h3 => by
              have := (hF c (by omega)).2 ⟨h3, hi⟩
              rw [hh] at this
              cases this
            rw [hst s, if_neg h2] at h1
            exact h1)
          omega
      | false =>
        have hy := deep_least hn hr hb hlow ht f y (fullI k c) (fullI h c) (by omega) (by omega) (hP.yes hn hcn) (fun s hs hsl hF => by
          obtain ⟨h1, h2⟩ := hF.of_yes hP hn hcn hi
          have h3 := hall s hs hsl h1
          rw [hst s, if_pos h2] at h3
          exact h3)
        have hz := deep_least hn hr hb hlow ht f z (fullI k c) h (by omega) (by omega) (hP.no hn hcn) (fun s hs hsl hF => by
          obtain ⟨h1, h2⟩ := hF.of_no hP hn hcn hi
          have h3 := hall s hs hsl h1
          rw [hst s, if_neg (by rw [h2]; decide)] at h3
          exact h3)
        rcases plan_split (first := first) hn hr hP.kB hP.hB with ⟨_, h3, _⟩ | ⟨_, _, _, _, _, _, h5⟩
        · have := htA_bd t (t.length - y) y
          unfold htT at *
          omega
        · have := h5 c hcn hi
          unfold bothD at this
          omega
end
end Go.Proofs.Ytlnonadkdonhmaa

/- What AutoDecides asks, plainly. -/
namespace Go.Proofs.Ytlnonadkdonhmaa
open Go.RowKit Go.Maps

structure DecOk (n : Nat) (rs : List Int) (k h : Int) (first : Bool) (t : List Nd) (D : Int) : Prop where
  tree : treeB (n : Int) rs.length t = true
  high : htT t 0 = D
  dec : decidesB n rs t k h first = true
  len : ∀ s : Int, isB s → ((askT s t).2.length : Int) ≤ D
  path : ∀ s : Int, isB s → pathB n k (askT s t).2 = true
  least : ∀ u : List Nd, treeB (n : Int) rs.length u = true → decidesB n rs u k h first = true → D ≤ htT u 0
theorem dec_ok {n : Nat} {rs : List Int} {k h : Int} {first : Bool} (hg : grpOk (n : Int) rs = true) (hp : partOk (n : Int) k h = true) : DecOk n rs k h first (growA rs n first k h 0) (planA rs n first k h).depth := by
  obtain ⟨hn1, hn6', _, _⟩ := grpOk_true hg
  have hn : n ≤ 6 := by omega
  have hr := rulesB_of hg
  have hb := bAll_of hg
  simp only [partOk, Bool.and_eq_true] at hp
  obtain ⟨⟨hk, hh⟩, hw⟩ := hp
  have hkB := setI_isB (by omega) hk
  have hhB := setI_isB (by omega) hh
  have hkl : k < 2 ^ n := by
    simp only [setI, Bool.and_eq_true, decide_eq_true_eq, Int.toNat_natCast] at hk
    exact hk.2
  have ht := grow_tree (first := first) hn hr hkB hhB
  have hL : LiesAt (growA rs n first k h 0) 0 (growA rs n first k h 0) := fun i x hx => by rw [Nat.zero_add]; exact hx
  have hask := fun (s : Int) (hs : isB s) => grow_ask (first := first) hn hr hb ht hs (unk n k + 1) k h 0 (by omega) hkB hhB hL
  have hP : PartP n k h := ⟨hkB, hhB, fun c hc hi => in_low hn hkB hkl hc hi, fun c hc hi => (within_iff hhB hkB).1 hw c hc hi⟩
  have hlow : ∀ r ∈ rs, ∀ c : Nat, c < 6 → inI r c = true → c < n := fun r hr' c hc hi => in_low hn (hb r hr') (goodR_lt (hr r hr')).2 hc hi
  have h64 : 2 ^ n ≤ 64 := by
    have h3 : (2 : Nat) ^ n ≤ 2 ^ 6 := Nat.pow_le_pow_right (by decide) hn
    exact h3
  refine ⟨ht, grow_high hn hr ht (unk n k + 1) k h 0 (by omega) hkB hhB hL, ?_, fun s hs => (hask s hs).2.1, fun s hs => (hask s hs).2.2, fun u hu hd => ?_⟩
  · unfold decidesB decTo
    rw [List.all_eq_true]
    intro s hs
    have hsl := List.mem_range.1 hs
    have hsB : isB (s : Int) := by unfold isB; omega
    unfold decS
    by_cases hm : bits BinOp.and .i64 (s : Int) k = h
    · have := (hask s hsB).1 (fits_of hkB hsB hm)
      unfold askT
      rw [Nat.sub_zero] at this
      rw [this, Bool.or_true]
    · have : (bits BinOp.and .i64 (s : Int) k != h) = true := by simpa using hm
      rw [this]; rfl
  · have hul := tree_pos hu
    refine deep_least hn hr hb hlow hu u.length 0 k h (by omega) (by omega) hP fun s hs hsl hF => ?_
    obtain ⟨x, rfl⟩ := Int.eq_ofNat_of_zero_le hs.1
    have hxl : x < 2 ^ n := by exact_mod_cast hsl
    unfold decidesB decTo at hd
    have h1 := List.all_eq_true.1 hd x (List.mem_range.2 hxl)
    unfold decS at h1
    rw [Fits.eq hkB hhB hs hF, bne_self_eq_false, Bool.false_or] at h1
    exact h1
end Go.Proofs.Ytlnonadkdonhmaa
