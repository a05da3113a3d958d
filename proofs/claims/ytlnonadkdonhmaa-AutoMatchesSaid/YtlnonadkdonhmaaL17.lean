/- Contracts and lemmas that a claim of this seat uses. -/
import Derived.Test.YtlnonadkdonhmaaL15
import Derived.Test.YtlnonadkdonhmaaL1
import Derived.Test.YtlnonadkdonhmaaL3
import Derived.Test.YtlnonadkdonhmaaL4
import Derived.Deep.LoopGhost
import Derived.Laws.EntriesVeiled

/- States that are alike, plainly: pairs of states of two machines that say the same. -/
namespace Go.Proofs.Ytlnonadkdonhmaa
open Go.RowKit Go.Maps

section
variable {n : Int} {rs : List Int} {m m' m'' : Mach}
theorem rowM_get (_hf : formedA n rs m = true) {p : Nat} (hp : p < m.length) : m[p]? = some (rowM m p) := by
  unfold rowM
  simp [List.getD, List.getElem?_eq_getElem hp]
theorem rowM_len (hf : formedA n rs m = true) {p : Nat} (hp : p < m.length) : ((rowM m p).length : Int) = n := by
  obtain ⟨xs, hx, hl, _⟩ := row_of hf hp
  rw [rowM_get hf hp] at hx
  injection hx with hx
  rw [hx]
  exact hl
theorem act_ok (hf : formedA n rs m = true) {p c : Nat} {x : AAct} (hp : p < m.length) (hx : (rowM m p)[c]? = some x) : actOkA rs m.length c x = true := by
  obtain ⟨xs, hxs, _, ha⟩ := row_of hf hp
  rw [rowM_get hf hp] at hxs
  injection hxs with hxs
  subst hxs
  exact allTo_at ha hx (List.getElem?_eq_some_iff.1 hx).1
theorem act_next (hf : formedA n rs m = true) {p c : Nat} {x : AAct} (hp : p < m.length) (hx : (rowM m p)[c]? = some x) {q : Int} (hq : q ∈ x.next) : 0 ≤ q ∧ q < m.length := next_mem (act_ok hf hp hx) hq
theorem next_many {len : Nat} {c : Int} {a : AAct} (ha : actOkA rs len c a = true) : a.next.length = manyA rs c a.rule := by
  simp only [actOkA, Bool.and_eq_true, decide_eq_true_eq] at ha
  exact ha.1.2
theorem formed_len (hf : formedA n rs m = true) : 1 ≤ m.length ∧ m.length ≤ 64 := by
  simp only [formedA, Bool.and_eq_true, decide_eq_true_eq] at hf
  exact ⟨hf.1.1.2, hf.1.2⟩
theorem formed_grp (hf : formedA n rs m = true) : grpOk n rs = true := by
  simp only [formedA, Bool.and_eq_true, decide_eq_true_eq] at hf
  exact hf.1.1.1

/-- Pairs of states that say the same, and lead to such pairs. -/
structure Bis (m m' : Mach) (R : Nat → Nat → Prop) : Prop where
  lt : ∀ a b, R a b → a < m.length ∧ b < m'.length
  rule : ∀ a b, R a b → rulesEq (rowM m a) (rowM m' b)
  next : ∀ a b, R a b → ∀ (c : Nat) (x y : AAct) (j : Nat) (p q : Int), (rowM m a)[c]? = some x → (rowM m' b)[c]? = some y → x.next[j]? = some p → y.next[j]? = some q → R p.toNat q.toNat
def Sim (m m' : Mach) (a b : Nat) : Prop := ∃ R, Bis m m' R ∧ R a b

theorem Bis.swap {R : Nat → Nat → Prop} (h : Bis m m' R) : Bis m' m (fun a b => R b a) :=
  ⟨fun a b hr => ⟨(h.lt b a hr).2, (h.lt b a hr).1⟩, fun a b hr => (h.rule b a hr).swap, fun a b hr c x y j p q hx hy hp hq => h.next b a hr c y x j q p hy hx hq hp⟩
theorem Sim.swap {a b : Nat} (h : Sim m m' a b) : Sim m' m b a := by
  obtain ⟨R, hB, hR⟩ := h
  exact ⟨_, hB.swap, hR⟩
theorem Sim.refl (hf : formedA n rs m = true) {a : Nat} (ha : a < m.length) : Sim m m a a := by
  refine ⟨fun x y => x = y ∧ x < m.length, ⟨?_, ?_, ?_⟩, rfl, ha⟩
  · rintro x y ⟨rfl, h⟩; exact ⟨h, h⟩
  · rintro x y ⟨rfl, h⟩
    rw [rulesEq_ne]
    exact neRules_refl _
  · rintro x y ⟨rfl, h⟩ c u v j p q hu hv hp hq
    rw [hu] at hv
    injection hv with hv
    subst hv
    rw [hp] at hq
    injection hq with hq
    subst hq
    have := act_next hf h hu (List.mem_of_getElem? hp)
    exact ⟨rfl, by omega⟩
/-- The steps of two that say the same lie beside one another. -/
theorem Bis.at_ (hf : formedA n rs m = true) (hf' : formedA n rs m' = true) {R : Nat → Nat → Prop} (h : Bis m m' R) {a b : Nat} (hR : R a b) {c : Nat} {x : AAct} (hx : (rowM m a)[c]? = some x) :
    ∃ y, (rowM m' b)[c]? = some y ∧ x.rule = y.rule ∧ x.next.length = y.next.length := by
  obtain ⟨ha, hb⟩ := h.lt a b hR
  have hc := (List.getElem?_eq_some_iff.1 hx).1
  have h1 := rowM_len hf ha
  have h2 := rowM_len hf' hb
  obtain ⟨y, hy⟩ : ∃ y, (rowM m' b)[c]? = some y := ⟨_, List.getElem?_eq_getElem (by omega)⟩
  have hr := h.rule a b hR c x y hx hy
  refine ⟨y, hy, hr, ?_⟩
  rw [next_many (act_ok hf ha hx), next_many (act_ok hf' hb hy), hr]
theorem Sim.trans (hf : formedA n rs m = true) (hf' : formedA n rs m' = true) {a b d : Nat} (h1 : Sim m m' a b) (h2 : Sim m' m'' b d) : Sim m m'' a d := by
  obtain ⟨R, hR, hab⟩ := h1
  obtain ⟨S, hS, hbd⟩ := h2
  refine ⟨fun x z => ∃ y, R x y ∧ S y z, ⟨?_, ?_, ?_⟩, b, hab, hbd⟩
  · rintro x z ⟨y, h1, h2⟩
    exact ⟨(hR.lt x y h1).1, (hS.lt y z h2).2⟩
  · rintro x z ⟨y, h1, h2⟩ c u v hu hv
    obtain ⟨t, ht, hr, _⟩ := hR.at_ hf hf' h1 hu
    exact hr.trans (hS.rule y z h2 c t v ht hv)
  · rintro x z ⟨y, h1, h2⟩ c u v j p q hu hv hp hq
    obtain ⟨t, ht, _, hl⟩ := hR.at_ hf hf' h1 hu
    have hj := (List.getElem?_eq_some_iff.1 hp).1
    obtain ⟨r, hr⟩ : ∃ r, t.next[j]? = some r := ⟨_, List.getElem?_eq_getElem (by omega)⟩
    exact ⟨r.toNat, hR.next x y h1 c u t j p r hu ht hp hr, hS.next y z h2 c t v j r q ht hv hr hq⟩
theorem Sim.lt {a b : Nat} (h : Sim m m' a b) : a < m.length ∧ b < m'.length := by
  obtain ⟨R, hB, hR⟩ := h
  exact hB.lt a b hR
theorem Sim.rule {a b : Nat} (h : Sim m m' a b) : rulesEq (rowM m a) (rowM m' b) := by
  obtain ⟨R, hB, hR⟩ := h
  exact hB.rule a b hR
theorem Sim.next {a b : Nat} (h : Sim m m' a b) {c j : Nat} {x y : AAct} {p q : Int} (hx : (rowM m a)[c]? = some x) (hy : (rowM m' b)[c]? = some y) (hp : x.next[j]? = some p) (hq : y.next[j]? = some q) : Sim m m' p.toNat q.toNat := by
  obtain ⟨R, hB, hR⟩ := h
  exact ⟨R, hB, hB.next a b hR c x y j p q hx hy hp hq⟩
theorem Sim.at_ (hf : formedA n rs m = true) (hf' : formedA n rs m' = true) {a b : Nat} (h : Sim m m' a b) {c : Nat} {x : AAct} (hx : (rowM m a)[c]? = some x) :
    ∃ y, (rowM m' b)[c]? = some y ∧ x.rule = y.rule ∧ x.next.length = y.next.length := by
  obtain ⟨R, hB, hR⟩ := h
  exact hB.at_ hf hf' hR hx

/-! ### the table says it -/
theorem bothI_nat {p q : Int} (hp : 0 ≤ p) (hq : 0 ≤ q) : bothI p q = bothI (p.toNat : Int) (q.toNat : Int) := by
  rw [Int.toNat_of_nonneg hp, Int.toNat_of_nonneg hq]
/-- What is known of the pairs behind an unknown one is new. -/
def Late (m : Mach) (r : Int) (t : Tbl) : Prop := ∀ i k, i < m.length → k < m.length → tv t i k = 0 → ∀ (c : Nat) (x y : AAct) (j : Nat) (p q : Int), (rowM m i)[c]? = some x → (rowM m k)[c]? = some y → x.next[j]? = some p → y.next[j]? = some q →
  tget t (bothI p q) = none ∨ tget t (bothI p q) = some (r - 1)
theorem late_start (m : Mach) : Late m 2 (nextT m 1 []) := by
  intro i k _ _ _ c x y j p q _ _ _ _
  cases e : tget (nextT m 1 []) (bothI p q) with
  | none => exact .inl rfl
  | some v =>
    have := (far_start m).inv.low _ _ e
    exact .inr (by congr 1; omega)
theorem hit_of {t : Tbl} {r : Int} {xs ys : List AAct} {c j : Nat} {x y : AAct} {p q : Int} (hx : xs[c]? = some x) (hy : ys[c]? = some y) (hp : x.next[j]? = some p) (hq : y.next[j]? = some q) (h : tget t (bothI p q) = some (r - 1)) : hitT t r xs ys = true := by
  rw [hitT_iff]
  exact ⟨c, x, y, j, (p, q), hx, hy, by rw [List.getElem?_zip_eq_some]; exact ⟨hp, hq⟩, h⟩
theorem late_none {r : Int} {f : Nat} {t : Tbl} (h : FarSt m r f t) (hL : Late m r t) {i k : Nat} (hi : i < m.length) (hk : k < m.length) (h0 : tv (nextT m r t) i k = 0) {c j : Nat} {x y : AAct} {p q : Int} (hx : (rowM m i)[c]? = some x) (hy : (rowM m k)[c]? = some y) (hp : x.next[j]? = some p) (hq : y.next[j]? = some q) :
    tget t (bothI p q) = none := by
  have e := tv_next h.ok h.inv h.two hi hk
  rw [h0] at e
  have htwo := h.two
  by_cases ht : tv t i k = 0
  · rw [if_pos ht] at e
    rcases hL i k hi hk ht c x y j p q hx hy hp hq with h1 | h1
    · exact h1
    · rw [if_pos (hit_of hx hy hp hq h1)] at e
      omega
  · rw [if_neg ht] at e
    exact absurd e.symm ht
theorem late_next {r : Int} {f : Nat} {t : Tbl} (h : FarSt m r f t) (hL : Late m r t) : Late m (r + 1) (nextT m r t) := by
  intro i k hi hk h0 c x y j p q hx hy hp hq
  have h1 := late_none h hL hi hk h0 hx hy hp hq
  unfold nextT
  rw [tget_app, h1]
  cases e : tget ((foundTo m t r m.length).map fun q => (q, r)) (bothI p q) with
  | none => exact .inl rfl
  | some v =>
    have := (tget_map e).1
    subst this
    exact .inr (by show some v = _; congr 1; omega)
theorem far_end (hm : m.length ≤ 64) : ∀ (f : Nat) (r : Int) (t : Tbl), FarSt m r f t → Late m r t → ∃ r' f', FarSt m r' f' (roundsA m) ∧ Late m r' (roundsA m) ∧ foundTo m (roundsA m) r' m.length = []
  | f, r, t, h, hL => by
    by_cases hn : foundTo m t r m.length = []
    · have e := h.done hn
      rw [e]
      exact ⟨r, f, h, hL, hn⟩
    · obtain ⟨f', rfl, h2⟩ := h.next hm hn
      exact far_end hm f' (r + 1) _ h2 (late_next h hL)
theorem alike_bis (hf : formedA n rs m = true) : Bis m m (fun i k => i < m.length ∧ k < m.length ∧ tv (roundsA m) i k = 0) := by
  obtain ⟨r, f, h, hL, hn⟩ := far_end (formed_len hf).2 _ _ _ (far_start m) (late_start m)
  have e : nextT m r (roundsA m) = roundsA m := by unfold nextT; rw [hn]; simp
  refine ⟨fun a b hr => ⟨hr.1, hr.2.1⟩, fun a b hr => far_rulesEq h hr.1 hr.2.1 hr.2.2, ?_⟩
  rintro a b ⟨ha, hb, h0⟩ c x y j p q hx hy hp hq
  have h1 := late_none h hL ha hb (by rw [e]; exact h0) hx hy hp hq
  have hp2 := act_next hf ha hx (List.mem_of_getElem? hp)
  have hq2 := act_next hf hb hy (List.mem_of_getElem? hq)
  refine ⟨by omega, by omega, ?_⟩
  rw [h.inv.tv_none, ← bothI_nat hp2.1 hq2.1]
  exact h1
theorem bis_alike (hf : formedA n rs m = true) {R : Nat → Nat → Prop} (hB : Bis m m R) : ∀ (N : Nat) (i k : Nat) (v : Int), v.toNat ≤ N → R i k → tget (roundsA m) (bothI i k) = some v → False
  | N, i, k, v, hN, hR, ht => by
    obtain ⟨hi, hk⟩ := hB.lt i k hR
    obtain ⟨h1, _, h2⟩ := pair_known hi hk (.inr trivial) ht (roundsA_ok m)
    by_cases hv : v = 1
    · subst hv
      have e := one_known hi hk ht
      rw [rulesEq_ne.1 (hB.rule i k hR)] at e
      cases e
    · obtain ⟨_, c, x, y, j, ⟨p, q⟩, hx, hy, hz, ht2⟩ := h2 hv
      rw [List.getElem?_zip_eq_some] at hz
      have hp2 := act_next hf hi hx (List.mem_of_getElem? hz.1)
      have hq2 := act_next hf hk hy (List.mem_of_getElem? hz.2)
      cases N with
      | zero => omega
      | succ N =>
        simp only at ht2
        rw [bothI_nat hp2.1 hq2.1] at ht2
        exact bis_alike hf hB N p.toNat q.toNat (v - 1) (by omega) (hB.next i k hR c x y j p q hx hy hz.1 hz.2) ht2
theorem tv_zero {i k : Nat} (hi : i < m.length) (hk : k < m.length) : tv (roundsA m) i k = 0 ↔ tget (roundsA m) (bothI i k) = none := by
  constructor
  · intro h
    cases e : tget (roundsA m) (bothI i k) with
    | none => rfl
    | some v =>
      have := (pair_known hi hk (.inr trivial) e (roundsA_ok m)).1
      unfold tv at h
      rw [e] at h
      simp at h
      omega
  · intro h
    unfold tv
    rw [h]
    rfl
/-- Two states say the same just if the table knows nothing of them. -/
theorem sim_iff (hf : formedA n rs m = true) {i k : Nat} (hi : i < m.length) (hk : k < m.length) : Sim m m i k ↔ tget (roundsA m) (bothI i k) = none := by
  constructor
  · rintro ⟨R, hB, hR⟩
    cases e : tget (roundsA m) (bothI i k) with
    | none => rfl
    | some v => exact (bis_alike hf hB v.toNat i k v (Nat.le_refl _) hR e).elim
  · intro h
    exact ⟨_, alike_bis hf, hi, hk, (tv_zero hi hk).2 h⟩
theorem sim_tv (hf : formedA n rs m = true) {i k : Nat} (hi : i < m.length) (hk : k < m.length) : Sim m m i k ↔ tv (roundsA m) i k = 0 := by rw [sim_iff hf hi hk, tv_zero hi hk]
end
end Go.Proofs.Ytlnonadkdonhmaa

/- What Least makes, plainly; the reference makes the same. -/
namespace Go.Proofs.Ytlnonadkdonhmaa
open Go.RowKit Go.Maps

/-- The first state that says the same. -/
def firstA (m : Mach) (s : Nat) : Nat := ((List.range s).find? fun (k : Nat) => (tget (roundsA m) (bothI k s)).isNone).getD s
def fsT (m : Mach) (x : Int) : Int := (firstA m x.toNat : Int)
def InM (m : Mach) (l : List Int) : Prop := ∀ x ∈ l, 0 ≤ x ∧ x < (m.length : Int)

theorem find_range {p : Nat → Bool} {s c : Nat} (h1 : ∀ k, k < c → p k = false) (hc : c ≤ s) (h2 : c = s ∨ p c = true) : ((List.range s).find? p).getD s = c := by
  rcases h2 with rfl | h2
  · have e : (List.range c).find? p = none := by
      rw [List.find?_eq_none]
      intro x hx
      rw [h1 x (List.mem_range.1 hx)]
      decide
    rw [e]
    rfl
  · by_cases e : c = s
    · subst e
      have e : (List.range c).find? p = none := by
        rw [List.find?_eq_none]
        intro x hx
        rw [h1 x (List.mem_range.1 hx)]
        decide
      rw [e]
      rfl
    · have e2 : (List.range s).find? p = some c := by
        rw [List.find?_range_eq_some]
        refine ⟨h2, by simp; omega, fun j hj => ?_⟩
        rw [h1 j hj]
        rfl
      rw [e2]
      rfl
theorem find_range' (p : Nat → Bool) (s : Nat) : ∃ c, c ≤ s ∧ ((List.range s).find? p).getD s = c ∧ (∀ k, k < c → p k = false) ∧ (c = s ∨ p c = true) := by
  cases e : (List.range s).find? p with
  | none =>
    rw [List.find?_eq_none] at e
    refine ⟨s, Nat.le_refl _, rfl, fun k hk => ?_, .inl rfl⟩
    have := e k (List.mem_range.2 hk)
    simpa using this
  | some c =>
    rw [List.find?_range_eq_some] at e
    obtain ⟨h1, h2, h3⟩ := e
    refine ⟨c, by have := List.mem_range.1 h2; omega, rfl, fun k hk => ?_, .inr h1⟩
    have := h3 k hk
    simpa using this
theorem firstA_of {m : Mach} {s c : Nat} (h1 : ∀ k, k < c → tget (roundsA m) (bothI k s) ≠ none) (hc : c ≤ s) (h2 : c = s ∨ tget (roundsA m) (bothI c s) = none) : firstA m s = c :=
  find_range (fun k hk => by
    cases e : tget (roundsA m) (bothI k s) with
    | none => exact absurd e (h1 k hk)
    | some v => rfl) hc (h2.imp id fun h => by rw [h]; rfl)

section
variable {n : Int} {rs : List Int} {m : Mach}
theorem firstA_le (m : Mach) (s : Nat) : firstA m s ≤ s := by
  obtain ⟨c, h1, h2, _, _⟩ := find_range' (fun k => (tget (roundsA m) (bothI k s)).isNone) s
  unfold firstA
  omega
theorem firstA_sim (hf : formedA n rs m = true) {s : Nat} (hs : s < m.length) : Sim m m (firstA m s) s := by
  obtain ⟨c, h1, h2, h3, h4⟩ := find_range' (fun k => (tget (roundsA m) (bothI k s)).isNone) s
  have e : firstA m s = c := h2
  rw [e]
  rcases h4 with rfl | h4
  · exact Sim.refl hf hs
  · rw [sim_iff hf (by omega) hs]
    simpa using h4
theorem firstA_min (hf : formedA n rs m = true) {s k : Nat} (hs : s < m.length) (hk : k < firstA m s) : ¬ Sim m m k s := by
  obtain ⟨c, h1, h2, h3, h4⟩ := find_range' (fun k => (tget (roundsA m) (bothI k s)).isNone) s
  have e : firstA m s = c := h2
  rw [e] at hk
  rw [sim_iff hf (by omega) hs]
  intro h
  have := h3 k hk
  rw [h] at this
  cases this
theorem first_iff (hf : formedA n rs m = true) {i k : Nat} (hi : i < m.length) (hk : k < m.length) : Sim m m i k ↔ firstA m i = firstA m k := by
  have h1 := firstA_sim hf hi
  have h2 := firstA_sim hf hk
  constructor
  · intro h
    rcases Nat.lt_trichotomy (firstA m i) (firstA m k) with hlt | he | hlt
    · exact absurd (h1.trans hf hf h) (firstA_min hf hk hlt)
    · exact he
    · exact absurd (h2.trans hf hf h.swap) (firstA_min hf hi hlt)
  · intro h
    rw [← h] at h2
    exact h1.swap.trans hf hf h2
theorem fsT_in (_hf : formedA n rs m = true) {x : Int} (hx : 0 ≤ x ∧ x < (m.length : Int)) : 0 ≤ fsT m x ∧ fsT m x < (m.length : Int) := by
  have := firstA_le m x.toNat
  unfold fsT
  omega
theorem fsT_iff (hf : formedA n rs m = true) {x y : Int} (hx : 0 ≤ x ∧ x < (m.length : Int)) (hy : 0 ≤ y ∧ y < (m.length : Int)) : fsT m x = fsT m y ↔ tv (roundsA m) x.toNat y.toNat = 0 := by
  rw [← sim_tv hf (by omega) (by omega), first_iff hf (by omega) (by omega)]
  unfold fsT
  omega
theorem firstA_idem (hf : formedA n rs m = true) {s : Nat} (hs : s < m.length) : firstA m (firstA m s) = firstA m s := by
  have h1 := firstA_sim hf hs
  exact (first_iff hf h1.lt.1 hs).1 h1
theorem fsT_idem (hf : formedA n rs m = true) {x : Int} (hx : 0 ≤ x ∧ x < (m.length : Int)) : fsT m (fsT m x) = fsT m x := by
  unfold fsT
  rw [Int.toNat_natCast, firstA_idem hf (by omega)]
theorem firstA_zero (m : Mach) : firstA m 0 = 0 := by have := firstA_le m 0; omega

/-! ### the program's -/
/-- The acts of a row with their new numbers, up to the k-th, and the heads behind. -/
def lactsTo (m : Mach) (row : List AAct) (l : List Int) : Nat → List AAct × List Int
  | 0 => ([], l)
  | k + 1 => match row[k]? with
    | none => lactsTo m row l k
    | some a => ((lactsTo m row l k).1 ++ [⟨a.rule, (foldNum (lactsTo m row l k).2 (a.next.map (fsT m))).1⟩], (foldNum (lactsTo m row l k).2 (a.next.map (fsT m))).2)
def leastTo (m : Mach) : Nat → Mach × List Int
  | 0 => ([], [0])
  | k + 1 => match (leastTo m k).2[k]? with
    | none => leastTo m k
    | some s => ((leastTo m k).1 ++ [(lactsTo m (rowM m s.toNat) (leastTo m k).2 (rowM m s.toNat).length).1], (lactsTo m (rowM m s.toNat) (leastTo m k).2 (rowM m s.toNat).length).2)
def leastM (m : Mach) : Mach := (leastTo m 64).1
def leastH (m : Mach) : List Int := (leastTo m 64).2
def clsN (hs : List Int) (x : Int) : Int := if x ∈ hs then (hs.idxOf x : Int) else -1
def leastC (m : Mach) : List Int := (List.range m.length).map fun (k : Nat) => clsN (leastH m) (firstA m k : Int)

/-- Heads: each once, each the first of its like. -/
structure HeadsOk (m : Mach) (l : List Int) : Prop where
  nodup : l.Nodup
  all : ∀ x ∈ l, (0 ≤ x ∧ x < (m.length : Int)) ∧ fsT m x = x
theorem HeadsOk.sets {l : List Int} (h : HeadsOk m l) (hl : m.length ≤ 64) : SetsOk l := ⟨h.nodup, fun x hx => by have := (h.all x hx).1; unfold isB; omega⟩
theorem HeadsOk.add {l : List Int} {x : Int} (h : HeadsOk m l) (hx : 0 ≤ x ∧ x < (m.length : Int)) (hfx : fsT m x = x) : HeadsOk m (addNum l x) := by
  unfold addNum
  split
  · exact h
  · rename_i hn
    refine ⟨?_, fun y hy => ?_⟩
    · rw [List.nodup_append]
      exact ⟨h.nodup, by simp, fun a ha b hb => by simp at hb; subst hb; rintro rfl; exact hn ha⟩
    · rcases List.mem_append.1 hy with hy | hy
      · exact h.all y hy
      · simp at hy; subst hy; exact ⟨hx, hfx⟩
theorem foldNum_heads {l : List Int} (h : HeadsOk m l) (xs : List Int) (hx : ∀ x ∈ xs, (0 ≤ x ∧ x < (m.length : Int)) ∧ fsT m x = x) : HeadsOk m (foldNum l xs).2 := by
  have gen : ∀ (xs : List Int) (p : List Int × List Int), HeadsOk m p.2 → (∀ x ∈ xs, (0 ≤ x ∧ x < (m.length : Int)) ∧ fsT m x = x) → HeadsOk m (xs.foldl (fun p x => (p.1 ++ [(p.2.idxOf x : Int)], addNum p.2 x)) p).2 := by
    intro xs
    induction xs with
    | nil => intro p hp _; exact hp
    | cons y ys ih => intro p hp hx; exact ih _ (hp.add (hx y (by simp)).1 (hx y (by simp)).2) (fun x hx' => hx x (by simp [hx']))
  exact gen xs _ h hx
theorem map_heads (hf : formedA n rs m = true) {xs : List Int} (hx : InM m xs) : ∀ x ∈ xs.map (fsT m), (0 ≤ x ∧ x < (m.length : Int)) ∧ fsT m x = x := by
  intro x hx'
  obtain ⟨y, hy, rfl⟩ := List.mem_map.1 hx'
  exact ⟨fsT_in hf (hx y hy), fsT_idem hf (hx y hy)⟩
def RowIn (m : Mach) (row : List AAct) : Prop := ∀ a ∈ row, InM m a.next
theorem rowIn_of (hf : formedA n rs m = true) {s : Nat} (hs : s < m.length) : RowIn m (rowM m s) := by
  intro a ha x hx
  obtain ⟨c, hc⟩ := List.getElem?_of_mem ha
  exact act_next hf hs hc hx
theorem lactsTo_ok (hf : formedA n rs m = true) {row : List AAct} (hr : RowIn m row) {l : List Int} (h : HeadsOk m l) : ∀ k, HeadsOk m (lactsTo m row l k).2
  | 0 => h
  | k + 1 => by
    unfold lactsTo
    cases e : row[k]? with
    | none => exact lactsTo_ok hf hr h k
    | some a => exact foldNum_heads (lactsTo_ok hf hr h k) _ (map_heads hf (hr a (List.mem_of_getElem? e)))
theorem lactsTo_len {row : List AAct} {l : List Int} : ∀ k, k ≤ row.length → (lactsTo m row l k).1.length = k
  | 0, _ => rfl
  | k + 1, h => by
    unfold lactsTo
    rw [List.getElem?_eq_getElem (show k < row.length by omega)]
    simp [lactsTo_len (row := row) (l := l) k (by omega)]
theorem lactsTo_pre (row : List AAct) (l : List Int) : ∀ k, l <+: (lactsTo m row l k).2
  | 0 => List.prefix_refl _
  | k + 1 => by
    unfold lactsTo
    cases e : row[k]? with
    | none => exact lactsTo_pre row l k
    | some a => exact (lactsTo_pre row l k).trans (foldNum_pre _ _)
theorem leastTo_ok (hf : formedA n rs m = true) : ∀ k, HeadsOk m (leastTo m k).2
  | 0 => ⟨by simp [leastTo], by
      intro x hx
      simp [leastTo] at hx
      subst hx
      have := (formed_len hf).1
      refine ⟨by omega, ?_⟩
      unfold fsT
      rw [show (0 : Int).toNat = 0 from rfl, firstA_zero]
      rfl⟩
  | k + 1 => by
    unfold leastTo
    cases h : (leastTo m k).2[k]? with
    | none => exact leastTo_ok hf k
    | some s =>
      have hs := ((leastTo_ok hf k).all s (List.mem_of_getElem? h)).1
      exact lactsTo_ok hf (rowIn_of hf (by omega)) (leastTo_ok hf k) _
theorem leastTo_pre : ∀ k, (leastTo m k).2 <+: (leastTo m (k + 1)).2 := by
  intro k
  rw [leastTo]
  cases h : (leastTo m k).2[k]? with
  | none => exact List.prefix_refl _
  | some s => exact lactsTo_pre _ _ _
theorem leastTo_stay {k : Nat} (h : (leastTo m k).2.length ≤ k) : ∀ d, leastTo m (k + d) = leastTo m k
  | 0 => rfl
  | d + 1 => by
    rw [← Nat.add_assoc, leastTo, leastTo_stay h d, List.getElem?_eq_none (by omega)]
theorem leastTo_len {m : Mach} : ∀ {k : Nat}, k ≤ (leastTo m k).2.length → (leastTo m k).1.length = k
  | 0, _ => rfl
  | k + 1, h => by
    unfold leastTo at h ⊢
    cases hs : (leastTo m k).2[k]? with
    | none =>
      rw [hs] at h
      have := List.getElem?_eq_none_iff.1 hs
      simp only at h
      omega
    | some s =>
      have hk := (List.getElem?_eq_some_iff.1 hs).1
      have := leastTo_len (m := m) (k := k) (by omega)
      simp [this]
theorem leastTo_step {k : Nat} {s : Int} (h : (leastTo m k).2[k]? = some s) :
    leastTo m (k + 1) = ((leastTo m k).1 ++ [(lactsTo m (rowM m s.toNat) (leastTo m k).2 (rowM m s.toNat).length).1], (lactsTo m (rowM m s.toNat) (leastTo m k).2 (rowM m s.toNat).length).2) := by
  rw [leastTo, h]
theorem leastTo_done {k : Nat} (hk : k ≤ 64) (h : (leastTo m k).2.length ≤ k) : leastTo m 64 = leastTo m k := by
  rw [show (64 : Nat) = k + (64 - k) by omega, leastTo_stay h]

/-! ### the reference's -/
def clsI (m : Mach) (hs : List Int) (x : Int) : Int := match hs.findIdx? (fun h => tv (roundsA m) h.toNat x.toNat == 0) with
  | some i => (i : Int)
  | none => -1
def rstep (m : Mach) (p : List Int × List Int) (x : Int) : List Int × List Int := if clsI m p.2 x < 0 then (p.1 ++ [(p.2.length : Int)], p.2 ++ [x]) else (p.1 ++ [clsI m p.2 x], p.2)
def rFold (m : Mach) (hs xs : List Int) : List Int × List Int := xs.foldl (rstep m) ([], hs)
def ractsTo (m : Mach) (row : List AAct) (l : List Int) : Nat → List AAct × List Int
  | 0 => ([], l)
  | k + 1 => match row[k]? with
    | none => ractsTo m row l k
    | some a => ((ractsTo m row l k).1 ++ [⟨a.rule, (rFold m (ractsTo m row l k).2 a.next).1⟩], (rFold m (ractsTo m row l k).2 a.next).2)
def rleastTo (m : Mach) : Nat → Mach × List Int
  | 0 => ([], [0])
  | k + 1 => match (rleastTo m k).2[k]? with
    | none => rleastTo m k
    | some s => ((rleastTo m k).1 ++ [(ractsTo m (rowM m s.toNat) (rleastTo m k).2 (rowM m s.toNat).length).1], (ractsTo m (rowM m s.toNat) (rleastTo m k).2 (rowM m s.toNat).length).2)

theorem clsI_eq (hf : formedA n rs m = true) {x : Int} (hx : 0 ≤ x ∧ x < (m.length : Int)) : ∀ {hs : List Int}, InM m hs → clsI m hs x = clsN (hs.map (fsT m)) (fsT m x)
  | [], _ => rfl
  | h :: hs, hin => by
    have ih := clsI_eq hf hx (hs := hs) (fun y hy => hin y (List.mem_cons_of_mem _ hy))
    have hh := hin h (List.mem_cons_self ..)
    unfold clsI clsN at ih ⊢
    rw [List.findIdx?_cons, List.map_cons]
    by_cases e : fsT m h = fsT m x
    · have e2 := (fsT_iff hf hh hx).1 e
      have e3 : (tv (roundsA m) h.toNat x.toNat == 0) = true := by rw [e2]; rfl
      rw [if_pos e3, e, if_pos (List.mem_cons_self ..), List.idxOf_cons_self]
    · have e2 : ¬ tv (roundsA m) h.toNat x.toNat = 0 := fun h2 => e ((fsT_iff hf hh hx).2 h2)
      have e3 : (tv (roundsA m) h.toNat x.toNat == 0) = false := by simpa using e2
      rw [e3]
      have hmem : fsT m x ∈ fsT m h :: hs.map (fsT m) ↔ fsT m x ∈ hs.map (fsT m) := by
        rw [List.mem_cons]
        exact ⟨fun h => h.resolve_left (fun h => e h.symm), .inr⟩
      have hix : (fsT m h :: hs.map (fsT m)).idxOf (fsT m x) = (hs.map (fsT m)).idxOf (fsT m x) + 1 := by
        rw [List.idxOf_cons]
        have : (fsT m h == fsT m x) = false := by simpa using e
        rw [this]
        rfl
      simp only [hmem, hix]
      cases hfi : hs.findIdx? (fun h => tv (roundsA m) h.toNat x.toNat == 0) with
      | none =>
        rw [hfi] at ih
        simp only at ih
        simp only [Bool.false_eq_true, if_false, Option.map_none]
        by_cases hm : fsT m x ∈ hs.map (fsT m)
        · rw [if_pos hm] at ih
          omega
        · rw [if_neg hm]
      | some i =>
        rw [hfi] at ih
        simp only at ih
        simp only [Bool.false_eq_true, if_false, Option.map_some]
        by_cases hm : fsT m x ∈ hs.map (fsT m)
        · rw [if_pos hm] at ih ⊢
          omega
        · rw [if_neg hm] at ih
          omega
theorem clsN_neg {hs : List Int} {x : Int} : clsN hs x < 0 ↔ x ∉ hs := by
  unfold clsN
  split
  · rename_i h
    exact ⟨fun h2 => by omega, fun h2 => absurd h h2⟩
  · rename_i h
    exact ⟨fun _ => h, fun _ => by omega⟩
theorem rstep_eq (hf : formedA n rs m = true) {p : List Int × List Int} {x : Int} (hx : 0 ≤ x ∧ x < (m.length : Int)) (hin : InM m p.2) :
    (rstep m p x).1 = p.1 ++ [((p.2.map (fsT m)).idxOf (fsT m x) : Int)] ∧ (rstep m p x).2.map (fsT m) = addNum (p.2.map (fsT m)) (fsT m x) ∧ InM m (rstep m p x).2 := by
  have e := clsI_eq hf hx hin
  unfold rstep addNum
  by_cases hm : fsT m x ∈ p.2.map (fsT m)
  · have hn : ¬ clsI m p.2 x < 0 := by
      rw [e, clsN_neg]
      exact fun h => h hm
    rw [if_neg hn, if_pos hm, e]
    unfold clsN
    rw [if_pos hm]
    exact ⟨rfl, rfl, hin⟩
  · have hn : clsI m p.2 x < 0 := by
      rw [e, clsN_neg]
      exact hm
    rw [if_pos hn, if_neg hm, List.idxOf_eq_length hm]
    refine ⟨by simp, by simp, fun y hy => ?_⟩
    rcases List.mem_append.1 hy with hy | hy
    · exact hin y hy
    · simp at hy
      subst hy
      exact hx
theorem rFold_eq (hf : formedA n rs m = true) {hs xs : List Int} (hx : InM m xs) (hin : InM m hs) :
    (rFold m hs xs).1 = (foldNum (hs.map (fsT m)) (xs.map (fsT m))).1 ∧ (rFold m hs xs).2.map (fsT m) = (foldNum (hs.map (fsT m)) (xs.map (fsT m))).2 ∧ InM m (rFold m hs xs).2 := by
  have gen : ∀ (xs : List Int) (p q : List Int × List Int), InM m xs → InM m p.2 → p.1 = q.1 → p.2.map (fsT m) = q.2 →
      (xs.foldl (rstep m) p).1 = ((xs.map (fsT m)).foldl (fun p x => (p.1 ++ [(p.2.idxOf x : Int)], addNum p.2 x)) q).1 ∧
      (xs.foldl (rstep m) p).2.map (fsT m) = ((xs.map (fsT m)).foldl (fun p x => (p.1 ++ [(p.2.idxOf x : Int)], addNum p.2 x)) q).2 ∧ InM m (xs.foldl (rstep m) p).2 := by
    intro xs
    induction xs with
    | nil => intro p q _ hp h1 h2; exact ⟨h1, h2, hp⟩
    | cons y ys ih =>
      intro p q hx hp h1 h2
      obtain ⟨e1, e2, e3⟩ := rstep_eq hf (p := p) (hx y (List.mem_cons_self ..)) hp
      rw [List.map_cons, List.foldl_cons, List.foldl_cons]
      refine ih _ _ (fun z hz => hx z (List.mem_cons_of_mem _ hz)) e3 ?_ ?_
      · rw [e1, h1, h2]
      · rw [e2, h2]
  exact gen xs ([], hs) ([], hs.map (fsT m)) hx hin rfl rfl

/-- Rows that say the same: equal rules, and behind these states that are alike. -/
def RowSim (m : Mach) (xs ys : List AAct) : Prop := xs.length = ys.length ∧ ∀ (c : Nat) (x y : AAct), xs[c]? = some x → ys[c]? = some y → x.rule = y.rule ∧ x.next.map (fsT m) = y.next.map (fsT m)
theorem row_sim (hf : formedA n rs m = true) {a b : Nat} (h : Sim m m a b) : RowSim m (rowM m a) (rowM m b) := by
  obtain ⟨ha, hb⟩ := h.lt
  refine ⟨by have := rowM_len hf ha; have := rowM_len hf hb; omega, fun c x y hx hy => ⟨h.rule c x y hx hy, ?_⟩⟩
  obtain ⟨y', hy', _, hl⟩ := h.at_ hf hf hx
  rw [hy] at hy'
  injection hy' with hy'
  subst hy'
  apply List.ext_getElem?
  intro j
  rw [List.getElem?_map, List.getElem?_map]
  by_cases hj : j < x.next.length
  · have hp : x.next[j]? = some x.next[j] := List.getElem?_eq_getElem hj
    have hq : y.next[j]? = some (y.next[j]'(by omega)) := List.getElem?_eq_getElem (by omega)
    have hs := h.next hx hy hp hq
    have hp2 := act_next hf ha hx (List.mem_of_getElem? hp)
    have hq2 := act_next hf hb hy (List.mem_of_getElem? hq)
    rw [hp, hq]
    have := (first_iff hf hs.lt.1 hs.lt.2).1 hs
    simp only [Option.map_some]
    unfold fsT
    rw [this]
  · rw [List.getElem?_eq_none (by omega), List.getElem?_eq_none (by omega)]
theorem ractsTo_eq (hf : formedA n rs m = true) {xs ys : List AAct} (h : RowSim m xs ys) (hx : RowIn m xs) {l : List Int} (hl : InM m l) : ∀ k,
    (ractsTo m xs l k).1 = (lactsTo m ys (l.map (fsT m)) k).1 ∧ (ractsTo m xs l k).2.map (fsT m) = (lactsTo m ys (l.map (fsT m)) k).2 ∧ InM m (ractsTo m xs l k).2
  | 0 => ⟨rfl, rfl, hl⟩
  | k + 1 => by
    obtain ⟨e1, e2, e3⟩ := ractsTo_eq hf h hx hl k
    unfold ractsTo lactsTo
    by_cases hk : k < xs.length
    · have hxk : xs[k]? = some xs[k] := List.getElem?_eq_getElem hk
      have hyk : ys[k]? = some (ys[k]'(by have := h.1; omega)) := List.getElem?_eq_getElem (by have := h.1; omega)
      obtain ⟨hr, hn⟩ := h.2 k _ _ hxk hyk
      rw [hxk, hyk]
      obtain ⟨f1, f2, f3⟩ := rFold_eq hf (hs := (ractsTo m xs l k).2) (xs := xs[k].next) (hx _ (List.mem_of_getElem? hxk)) e3
      refine ⟨?_, ?_, f3⟩
      · simp only
        rw [e1, f1, e2, hn, hr]
      · simp only
        rw [f2, e2, hn]
    · rw [List.getElem?_eq_none (by omega), List.getElem?_eq_none (by have := h.1; omega)]
      exact ⟨e1, e2, e3⟩
theorem rleastTo_eq (hf : formedA n rs m = true) : ∀ k, (rleastTo m k).1 = (leastTo m k).1 ∧ (rleastTo m k).2.map (fsT m) = (leastTo m k).2 ∧ InM m (rleastTo m k).2
  | 0 => ⟨rfl, by
      show [fsT m 0] = [0]
      unfold fsT
      rw [show (0 : Int).toNat = 0 from rfl, firstA_zero]
      rfl, by
      intro x hx
      simp [rleastTo] at hx
      subst hx
      have := (formed_len hf).1
      omega⟩
  | k + 1 => by
    obtain ⟨e1, e2, e3⟩ := rleastTo_eq hf k
    unfold rleastTo leastTo
    cases hs : (rleastTo m k).2[k]? with
    | none =>
      have : (leastTo m k).2[k]? = none := by rw [← e2, List.getElem?_map, hs]; rfl
      rw [this]
      exact ⟨e1, e2, e3⟩
    | some s =>
      have h2 : (leastTo m k).2[k]? = some (fsT m s) := by rw [← e2, List.getElem?_map, hs]; rfl
      have hsb := e3 s (List.mem_of_getElem? hs)
      rw [h2]
      have hsim : Sim m m s.toNat (fsT m s).toNat := by
        have := firstA_sim hf (s := s.toNat) (by omega)
        unfold fsT
        rw [Int.toNat_natCast]
        exact this.swap
      have hrs := row_sim hf hsim
      obtain ⟨f1, f2, f3⟩ := ractsTo_eq hf hrs (rowIn_of hf hsim.lt.1) e3 (rowM m s.toNat).length
      simp only
      rw [hrs.1] at f1 f2 f3 ⊢
      rw [e2] at f1 f2
      exact ⟨by rw [e1, f1], f2, f3⟩
theorem rcls_eq (hf : formedA n rs m = true) {x : Nat} (hx : x < m.length) : clsI m (rleastTo m 64).2 (x : Int) = clsN (leastH m) (firstA m x : Int) := by
  obtain ⟨_, e2, e3⟩ := rleastTo_eq hf 64
  rw [clsI_eq hf (by omega) e3, e2]
  unfold fsT
  rw [Int.toNat_natCast]
  rfl
end
end Go.Proofs.Ytlnonadkdonhmaa

/- Regions that draw their order, whose last operation waits for all others: what it does need not be kept by the others. -/
namespace Go.Proofs.Ytlnonadkdonhmaa
open Go.RowKit

section
variable {P : Program} {ops : Array Oper} {md : Region.Mode} {I : World → Prop} {t : Nat} {Q : Act → World → Prop}

/-- The operation t waits for all others. -/
def waitsAll (md : Region.Mode) (ops : Array Oper) (t : Nat) : Bool := (List.range ops.size).all fun i => i == t || ((ops[t]?).map fun o => o.after.any fun e => Region.binds md e && e.on == i).getD false

/-- All orders of what is left but the operation t, which comes last; the worlds on the way are all in I. -/
def anyL (P : Program) (md : Region.Mode) (ops : Array Oper) (I : World → Prop) (t : Nat) (Q : Act → World → Prop) : Nat → Array Bool → Act → World → Prop
  | 0, listed, a, w => I w ∧ Region.ready md ops listed = [t] ∧ Region.ready md ops (listed.setIfInBounds t true) = [] ∧ ∃ o, ops[t]? = some o ∧ opQ P ops o Q a w
  | f + 1, listed, a, w => I w ∧ Region.ready md ops listed ≠ [] ∧ ∀ i ∈ Region.ready md ops listed, ∃ o, ops[i]? = some o ∧ opQ P ops o (anyL P md ops I t Q f (listed.setIfInBounds i true)) a w

theorem anyL_in : ∀ {f : Nat} {listed : Array Bool} {a : Act} {w : World}, anyL P md ops I t Q f listed a w → I w
  | 0, _, _, _, h => h.1
  | _ + 1, _, _, _, h => h.1

theorem any_of_anyL {Q' : Exit → Act → World → Prop} (hQ : ∀ a w, Q a w → Q' .normal a w) : ∀ (f : Nat) (listed : Array Bool) (a : Act) (w : World), anyL P md ops I t Q f listed a w → wpAny P md ops Q' (f + 1) listed a w
  | 0, listed, a, w, h => by
    refine ⟨fun h0 => absurd h0 (by rw [h.2.1]; simp), fun i hi => ?_⟩
    rw [h.2.1] at hi
    obtain rfl : i = t := by simpa using hi
    obtain ⟨o, ho, hop⟩ := h.2.2.2
    have h2 : opQ P ops o (fun a w => wpAny P md ops Q' 0 (listed.setIfInBounds i true) a w) a w := opQ_mono (fun a w hq => ⟨h.2.2.1, hQ a w hq⟩) hop
    unfold wpOp
    simp only [ho]
    unfold opQ at h2
    split
    · rename_i hw; simp only [hw, if_true] at h2; exact .inl (wp_mono_q h2)
    · rename_i hw; simp only [hw] at h2; exact h2
  | f + 1, _, _, _, h => by
    refine ⟨fun h0 => absurd h0 h.2.1, fun i hi => ?_⟩
    obtain ⟨o, ho, hop⟩ := h.2.2 i hi
    have h2 := opQ_mono (fun a w h => any_of_anyL hQ f _ a w h) hop
    unfold wpOp
    simp only [ho]
    unfold opQ at h2
    split
    · rename_i hw; simp only [hw, if_true] at h2; exact .inl (wp_mono_q h2)
    · rename_i hw; simp only [hw] at h2; exact h2

theorem waits_of (h : waitsAll md ops t = true) {i : Nat} (hi : i < ops.size) (hne : i ≠ t) : ∃ o, ops[t]? = some o ∧ ∃ e ∈ o.after, Region.binds md e = true ∧ e.on = i := by
  unfold waitsAll at h
  have h1 := List.all_eq_true.1 h i (List.mem_range.2 hi)
  have h2 : (i == t) = false := by simpa using hne
  rw [h2, Bool.false_or] at h1
  cases ho : ops[t]? with
  | none => rw [ho] at h1; cases h1
  | some o =>
    rw [ho] at h1
    simp only [Option.map_some, Option.getD_some] at h1
    rw [Array.any_eq_true'] at h1
    obtain ⟨e, he, hb⟩ := h1
    simp only [Bool.and_eq_true, beq_iff_eq] at hb
    exact ⟨o, rfl, e, he, hb.1, hb.2⟩

theorem anyL_first {i : Nat} {oi : Oper} {v : Value} (hi : ops[i]? = some oi) (hsel : ∀ (j : Nat) (o : Oper) cs b, ops[j]? = some o → o.op ≠ .select cs b) (hW : waitsAll md ops t = true) :
    ∀ (f : Nat) (listed : Array Bool) (a : Act) (w : World),
      (∀ j oj, ops[j]? = some oj → j ≠ i → listed.getD j true = false → (∀ e ∈ oj.after, Region.binds md e = true → e.on ≠ i) → oi.apart ops oj = true) →
      i ∈ Region.ready md ops listed → (∀ w, I w → YieldsAt P ops w oi v a) →
      anyL P md ops I t Q f (listed.setIfInBounds i true) (a.put oi.dst v) w → anyL P md ops I t Q (f + 1) listed a w := by
  intro f
  induction f with
  | zero =>
    intro listed a w hfree hr hy H
    refine ⟨H.1, fun h => (by rw [h] at hr; cases hr), fun j hj => ?_⟩
    by_cases hji : j = i
    · subst hji; exact ⟨oi, hi, yields_opQ (hy w H.1) H⟩
    · exfalso
      have hjt := ready_mono hj hji
      rw [H.2.1] at hjt
      obtain rfl : j = t := by simpa using hjt
      have his : i < ops.size := (Array.getElem?_eq_some_iff.1 hi).1
      obtain ⟨o, ho, e, he, hb, hon⟩ := waits_of hW his (fun h => hji h.symm)
      obtain ⟨_, oj, hoj, hall⟩ := Go.mem_ready.1 hj
      obtain rfl : o = oj := Option.some.inj (ho.symm.trans hoj)
      have h1 := hall e he hb
      have h0 := (Go.mem_ready.1 hr).1
      rw [hon, getD_both h0] at h1
      cases h1
  | succ f ih =>
    intro listed a w hfree hr hy H
    refine ⟨H.1, fun h => (by rw [h] at hr; cases hr), fun j hj => ?_⟩
    by_cases hji : j = i
    · subst hji; exact ⟨oi, hi, yields_opQ (hy w H.1) H⟩
    · obtain ⟨oj', hoj', h1⟩ := H.2.2 j (ready_mono hj hji)
      obtain ⟨hjun, oj, hoj, hall⟩ := Go.mem_ready.1 hj
      obtain rfl : oj' = oj := Option.some.inj (hoj'.symm.trans hoj)
      have hnot : ∀ e ∈ oj'.after, Region.binds md e = true → e.on ≠ i := fun e he hb heq => by
        have h1 := hall e he hb
        have h0 := (Go.mem_ready.1 hr).1
        rw [heq, getD_both h0] at h1
        cases h1
      have h2 := opQ_put (I := I) (hfree j oj' hoj hji hjun hnot) (fun cs b => hsel i oi cs b hi) (fun cs b => hsel j oj' cs b hoj) hy h1
      have hfree' : ∀ k ok, ops[k]? = some ok → k ≠ i → (listed.setIfInBounds j true).getD k true = false →
          (∀ e ∈ ok.after, Region.binds md e = true → e.on ≠ i) → oi.apart ops ok = true := fun k ok hk hki hun hno => by
        refine hfree k ok hk hki ?_ hno
        by_cases hjk : j = k
        · subst hjk; exact hjun
        · rw [getD_set_ne true hjk] at hun; exact hun
      refine ⟨oj', hoj, opQ_mono (fun a' w' h3 => ih (listed.setIfInBounds j true) a' w' hfree' (ready_mono hr (Ne.symm hji)) h3.1 ?_) h2⟩
      rw [Array.setIfInBounds_comm _ _ hji]
      exact h3.2

/-- One operation that reads comes first. -/
theorem anyL_step {l : List Oper} (i : Nat) {oi : Oper} {v : Value} {f : Nat} {listed : Array Bool} {a : Act} {w : World} (hW : waitsAll md l.toArray t = true) (hi : l[i]? = some oi) (hB : stepOk md l.toArray i listed = true)
    (h1 : ∀ w', I w' → ∀ K : Value → Prop, K v → stillV P l.toArray oi a w' K)
    (h2 : ∀ K : Act → Prop, (∀ a', anyL P md l.toArray I t Q f (listed.setIfInBounds i true) a' w → K a') → K (a.put oi.dst v)) : anyL P md l.toArray I t Q (f + 1) listed a w := by
  simp only [stepOk, Bool.and_eq_true] at hB
  have hi' : l.toArray[i]? = some oi := by simpa using hi
  exact anyL_first hi' (Region.noSelect_spec hB.1.1) hW f listed a w (Region.free_spec hi' hB.2) (by simpa using hB.1.2) (fun w' hI => yields_of_stillV (h1 w' hI)) (h2 _ fun _ h => h)

/-- One operation, the only one that is ready. -/
theorem anyL_one {l : List Oper} (i : Nat) {o : Oper} {f : Nat} {listed : Array Bool} {a : Act} {w : World} (hi : l[i]? = some o) (hr : Region.ready md l.toArray listed = [i]) (hI : I w)
    (h : ∀ K : Act → World → Prop, (∀ a' w', anyL P md l.toArray I t Q f (listed.setIfInBounds i true) a' w' → K a' w') → wpList P l.toArray (fun e a' w' => e = .normal ∧ K a' w') [o] a w) : anyL P md l.toArray I t Q (f + 1) listed a w := by
  refine ⟨hI, by rw [hr]; simp, fun j hj => ?_⟩
  rw [hr] at hj
  obtain rfl : j = i := by simpa using hj
  exact ⟨o, by simpa using hi, opQ_of_list h⟩

/-- The last one. -/
theorem anyL_end {l : List Oper} {o : Oper} {listed : Array Bool} {a : Act} {w : World} (hi : l[t]? = some o) (hr : (Region.ready md l.toArray listed == [t] && (Region.ready md l.toArray (listed.setIfInBounds t true)).isEmpty) = true) (hI : I w)
    (h : ∀ K : Act → World → Prop, (∀ a' w', Q a' w' → K a' w') → wpList P l.toArray (fun e a' w' => e = .normal ∧ K a' w') [o] a w) : anyL P md l.toArray I t Q 0 listed a w := by
  simp only [Bool.and_eq_true, beq_iff_eq, List.isEmpty_iff] at hr
  exact ⟨hI, hr.1, hr.2, o, by simpa using hi, opQ_of_list h⟩

/-- A region that draws its order; its operation t waits for all others. -/
theorem drawl (I : World → Prop) (t : Nat) {id : Nat} {Q : Exit → Act → World → Prop} {a : Act} {w : World} {l : List Oper} (f : Nat) (hf : l.length = f + 1) (hm : P.follows .mixedOrders = true)
    (h : ∀ Q' : Act → World → Prop, (∀ a' w', Q .normal a' w' → Q' a' w') → anyL P .any l.toArray I t Q' f (Array.replicate (f + 1) false) a w.drew) : (Code.region id l.toArray true).wp P Q a w := by
  refine wp_region_any hm ?_
  have := h _ fun _ _ h => h
  have h2 := any_of_anyL (Q' := Q) (fun _ _ h => h) _ _ _ _ this
  rw [← hf] at h2
  simpa using h2
end
end Go.Proofs.Ytlnonadkdonhmaa

/- Contracts of Least's closures: number over the first states. -/
namespace Go.Proofs.Ytlnonadkdonhmaa
open Go.RowKit Go.Maps

/-- The first states of all. -/
def firsts (m : Mach) : List Int := (List.range m.length).map fun (k : Nat) => (firstA m k : Int)
theorem firsts_len (m : Mach) : (firsts m).length = m.length := by simp [firsts]
theorem firsts_get {m : Mach} {x : Nat} (hx : x < m.length) : (firsts m)[x]? = some (firstA m x : Int) := by simp [firsts, hx]
/-- The list of the first states in memory, and the variable that holds it. -/
structure FstSt (w : World) (bf bF : Nat) (m : Mach) : Prop where
  cell : Blk w bf (.cells #[.slice (some ⟨bF, 0, none⟩) m.length m.length] 22)
  row : Blk w bF (.cells (ints (firsts m)).toArray 3)
theorem FstSt.frame {w w' : World} {bf bF : Nat} {m : Mach} {S : Nat → Prop} (h : FstSt w bf bF m) (hF : Frame S w w') (h1 : ¬ S bf) (h2 : ¬ S bF) : FstSt w' bf bF m := ⟨h.cell.frame hF h1, h.row.frame hF h2⟩
theorem FstSt.below {w w' : World} {bf bF B : Nat} {m : Mach} (h : FstSt w bf bF m) (hB : Below B w w') (h1 : bf < B) (h2 : bF < B) : FstSt w' bf bF m := ⟨h.cell.below hB h1, h.row.below hB h2⟩

set_option maxRecDepth 100000 in
set_option maxHeartbeats 2000000 in
theorem lnumber_any (bm bb bs base bf bF : Nat) (l : List Int) (v : Value) (m : Mach) (x : Int) (w : World) (h : NumSt w bm bb bs base l v) (hF : FstSt w bf bF m) (hb : base ≤ w.heap.size) (hbm : base ≤ bm) (_hbs : base ≤ bs) (hbf : bf < base) (hbF : bF < base) (hl : l.length ≤ 1000000) (hm : m.length ≤ 64) (hx : 0 ≤ x ∧ x < (m.length : Int)) :
    Calls Try.prog 110 #[.int .i64 x, .pointer (some ⟨bb, 0, none⟩), .pointer (some ⟨bf, 0, none⟩), .pointer (some ⟨bs, 0, none⟩)] w fun e w' => e = .returned (.int .i64 (l.idxOf (fsT m x) : Int)) ∧
      ∃ v', NumSt w' bm bb bs base (addNum l (fsT m x)) v' ∧ (∀ g, v'.ownBlock = some g → v.ownBlock = some g ∨ w.heap.size ≤ g) ∧ Frame (numS bm bs v) w w' := by
  obtain ⟨x, rfl⟩ := Int.eq_ofNat_of_zero_le hx.1
  have hxm : x < m.length := by omega
  obtain ⟨f, hfx⟩ : ∃ f : Nat, firstA m x = f := ⟨_, rfl⟩
  have HFX : Hid (fsT m (x : Int) = (f : Int)) := by show _ = _; unfold fsT; rw [Int.toNat_natCast, hfx]
  have hfl : f < m.length := by have := firstA_le m x; omega
  have hFx : (firsts m)[x]? = some (f : Int) := by rw [firsts_get hxm, hfx]
  rw [HFX.out]
  have hkey : keyOf Try.prog 3 (.int .i64 (f : Int)) = some (.int .i64 (f : Int)) := keyOf_int_mk Try.underlying3 (WalkArith.wf_i64 (by omega))
  have K : Keyed Try.prog 3 := int_keyed Try.underlying3
  have hz : (zeroValue 3).run Try.prog w.drew = .ok (.int .i64 0) w.drew := by kernel_rfl
  have hixm := ix_own (b := bF) (n := m.length) (c := m.length) Try.underlying22 szInt hxm
  have f0 := hF.cell.cell 0 (v := .slice (some ⟨bF, 0, none⟩) m.length m.length) rfl
  have f1 := hF.row.cell x (ints_get hFx)
  have c1 := h.box.cell 0 (v := .map (some bm)) rfl
  have c2 := h.cell.cell 0 (v := v) rfl
  have hd : NumSt w.drew bm bb bs base l v := ⟨h.box, h.map, h.cell, h.own⟩
  by_cases hmm : (f : Int) ∈ l
  · have hrun := hd.map.look_yes K Try.underlying108 hkey (numMap_mem hmm) true
    simp only [if_true] at hrun
    have HM : Hid (addNum l (f : Int) = l) := by show _ = _; simp [addNum, hmm]
    have HD := Lib.hid hd
    clear hmm hkey hz hfx hFx hd h
    go_enter Try.func110, Try.ntmps110
    go_wp2
    refine sall (by kernel_rfl) (by kernel_rfl) (fun Kq hKq => ?_)
    repeat still_step
    refine wpStill_nil (hKq _ ?_)
    clear hKq Kq
    go_wp2
    go_ret
    exact ⟨rfl, v, by rw [HM.out]; exact HD.out, fun g hg => .inl hg, (Frame.refl _ w).drew⟩
  · have hrun := hd.map.look_no K Try.underlying108 hkey (numMap_no hmm) hz true
    simp only [if_true] at hrun
    obtain ⟨A, c, rfl⟩ := own_fits h.own
    have hdd : NumSt w.drew.drew bm bb bs base l (.slice A l.length c) := ⟨h.box, h.map, h.cell, h.own⟩
    obtain ⟨w2, hput, hmap, hgr⟩ := hdd.map.put_new K Try.underlying108 hkey (numMap_no hmm) (v := .int .i64 (l.length : Int))
    have HM : Hid (addNum l (f : Int) = l ++ [(f : Int)]) := by show _ = _; simp [addNum, hmm]
    have HI : Hid (l.idxOf (f : Int) = l.length) := List.idxOf_eq_length hmm
    have hbox2 : Blk w2 bb (.cells #[.map (some bm)] 108) := hdd.box.grown hgr (fun e => hdd.map.not_blk hdd.box (by injection e))
    have hcell2 := hdd.cell.grown hgr (fun e => hdd.map.not_blk hdd.cell (by injection e))
    have hown2 := hdd.own.kept hgr (.inr (hdd.map.not_own hdd.own))
    have hFd : FstSt w.drew.drew bf bF m := ⟨hF.cell, hF.row⟩
    have hF2 : FstSt w2 bf bF m := hFd.frame (Frame.of_grown hgr) (fun e => by injection e with e; omega) (fun e => by injection e with e; omega)
    have d1 := hbox2.cell 0 (v := .map (some bm)) rfl
    have d2 := hcell2.cell 0 (v := .slice A l.length c) rfl
    have d3 := hF2.cell.cell 0 (v := .slice (some ⟨bF, 0, none⟩) m.length m.length) rfl
    have d4 := hF2.row.cell x (ints_get hFx)
    have HMAP := Lib.hid hmap
    have HGR := Lib.hid hgr
    have HB2 := Lib.hid hbox2
    have HC2 := Lib.hid hcell2
    have HO2 := Lib.hid hown2
    have HF2 := Lib.hid hF2
    have HFX2 := Lib.hid hFx
    have HSEP : Hid (¬ ((Value.slice A l.length c).ownBlock = some bf) ∧ ¬ ((Value.slice A l.length c).ownBlock = some bF)) := ⟨fun e => by have := (hown2.lt _ e).1; omega, fun e => by have := (hown2.lt _ e).1; omega⟩
    have hsz := hgr.size
    have hsw : w.drew.drew.heap.size = w.heap.size := rfl
    rw [hsw] at hsz
    have hown3 : w2.drew.ownsRow base 3 1 (.slice A l.length c) l.length (ints l) := hown2
    have hsd : w2.drew.heap.size = w2.heap.size := rfl
    have hcell3 : Blk w2.drew bs (.cells #[.slice A l.length c] 22) := hcell2
    clear hmm hkey hz hfx hFx hd h hdd hFd hmap hgr hbox2 hcell2 hF2 hF hsw
    go_enter Try.func110, Try.ntmps110
    go_wp2
    refine sall (by kernel_rfl) (by kernel_rfl) (fun Kq hKq => ?_)
    repeat still_step
    refine wpStill_nil (hKq _ ?_)
    clear hKq Kq
    go_wp2
    refine stail 6 (by kernel_rfl) (by kernel_rfl) (fun Kq hKq => ?_)
    simp only [List.take_succ_cons, List.take_zero, List.drop_succ_cons, List.drop_zero] at hKq ⊢
    repeat still_step
    refine wpStill_nil (hKq _ ?_)
    clear hKq Kq
    go_wp2
    clear d1 d2 d3 d4 f0 f1 c1 c2 hput hrun
    refine drawl (fun w' => Frame (fun b => (Value.slice A l.length c).ownBlock = some b) w2 w') 7 7 rfl (by kernel_rfl) (fun Qd hQd => ?_)
    apply anyL_step 0 (by kernel_rfl) rfl (by kernel_rfl)
    focus (intro wI hI Kv hKv; have t1 := (HC2.out.frame hI (fun e => own_ne HO2.out HC2.out (by decide) e)).cell 0 (v := .slice A l.length c) rfl; have t2 := (HF2.out.frame hI (fun e => HSEP.out.1 e) (fun e => HSEP.out.2 e)).cell.cell 0 (v := .slice (some ⟨bF, 0, none⟩) m.length m.length) rfl; have t3 := (HF2.out.frame hI (fun e => HSEP.out.1 e) (fun e => HSEP.out.2 e)).row.cell x (ints_get HFX2.out); go_simp; exact hKv)
    intro Kd hKd
    go_simp
    refine hKd _ ?_
    clear hKd Kd
    apply anyL_step 1 (by kernel_rfl) rfl (by kernel_rfl)
    focus (intro wI hI Kv hKv; have t1 := (HC2.out.frame hI (fun e => own_ne HO2.out HC2.out (by decide) e)).cell 0 (v := .slice A l.length c) rfl; have t2 := (HF2.out.frame hI (fun e => HSEP.out.1 e) (fun e => HSEP.out.2 e)).cell.cell 0 (v := .slice (some ⟨bF, 0, none⟩) m.length m.length) rfl; have t3 := (HF2.out.frame hI (fun e => HSEP.out.1 e) (fun e => HSEP.out.2 e)).row.cell x (ints_get HFX2.out); go_simp; exact hKv)
    intro Kd hKd
    go_simp
    refine hKd _ ?_
    clear hKd Kd
    apply anyL_step 2 (by kernel_rfl) rfl (by kernel_rfl)
    focus (intro wI hI Kv hKv; have t1 := (HC2.out.frame hI (fun e => own_ne HO2.out HC2.out (by decide) e)).cell 0 (v := .slice A l.length c) rfl; have t2 := (HF2.out.frame hI (fun e => HSEP.out.1 e) (fun e => HSEP.out.2 e)).cell.cell 0 (v := .slice (some ⟨bF, 0, none⟩) m.length m.length) rfl; have t3 := (HF2.out.frame hI (fun e => HSEP.out.1 e) (fun e => HSEP.out.2 e)).row.cell x (ints_get HFX2.out); go_simp; exact hKv)
    intro Kd hKd
    go_simp
    refine hKd _ ?_
    clear hKd Kd
    apply anyL_step 3 (by kernel_rfl) rfl (by kernel_rfl)
    focus (intro wI hI Kv hKv; have t1 := (HC2.out.frame hI (fun e => own_ne HO2.out HC2.out (by decide) e)).cell 0 (v := .slice A l.length c) rfl; have t2 := (HF2.out.frame hI (fun e => HSEP.out.1 e) (fun e => HSEP.out.2 e)).cell.cell 0 (v := .slice (some ⟨bF, 0, none⟩) m.length m.length) rfl; have t3 := (HF2.out.frame hI (fun e => HSEP.out.1 e) (fun e => HSEP.out.2 e)).row.cell x (ints_get HFX2.out); go_simp; exact hKv)
    intro Kd hKd
    go_simp
    refine hKd _ ?_
    clear hKd Kd
    apply anyL_step 4 (by kernel_rfl) rfl (by kernel_rfl)
    focus (intro wI hI Kv hKv; have t1 := (HC2.out.frame hI (fun e => own_ne HO2.out HC2.out (by decide) e)).cell 0 (v := .slice A l.length c) rfl; have t2 := (HF2.out.frame hI (fun e => HSEP.out.1 e) (fun e => HSEP.out.2 e)).cell.cell 0 (v := .slice (some ⟨bF, 0, none⟩) m.length m.length) rfl; have t3 := (HF2.out.frame hI (fun e => HSEP.out.1 e) (fun e => HSEP.out.2 e)).row.cell x (ints_get HFX2.out); go_simp; exact hKv)
    intro Kd hKd
    go_simp
    refine hKd _ ?_
    clear hKd Kd
    refine anyL_one 5 rfl (by kernel_rfl) ((Frame.refl _ w2).drew) (fun Kd hKd => ?_)
    go_wp2
    refine anyL_one 6 rfl (by kernel_rfl) (((Frame.refl _ w2).drew.alloc _)) (fun Kd hKd => ?_)
    go_wp2_with (at_builtin; go_must (refine wpList_app1' rInt _ rfl _ _ rfl hown3 rfl [_] 1 rfl rfl (by simp [Value.oneCell']) (by omega) (by rw [hsd]; omega) ?_); intro v' w3 hown4 hB3 hg3 hloc3; obtain ⟨g', cap', rfl⟩ := ownsRow_succ hown4; have hcell4 := hcell3.grown hg3 (own_ne hown3 hcell3 (by decide)); have e3 := hcell4.cell 0 (v := .slice A l.length c) rfl; have f3 := hcell4.free 0)
    have hg3' : Frame (fun b => (Value.slice A l.length c).ownBlock = some b) w2 w3 := (Frame.refl _ w2).drew.trans (Frame.of_grown hg3) (fun _ _ h => h)
    refine anyL_end rfl (by kernel_rfl) (hg3') (fun Kd hKd => ?_)
    go_wp2
    go_ret
    refine ⟨by rw [HI.out]; rfl, _, ⟨?_, ?_, hcell4.set1 _, ?_⟩, fun g hg => ?_, ?_⟩
    · have hb2 : Blk w2.drew bb (.cells #[.map (some bm)] 108) := HB2.out
      exact (hb2.grown hg3 (own_ne hown3 hb2 (by decide))).far (blk_ne hb2 hcell3 (by decide)) _
    · rw [HM.out, numMap_snoc]
      have hm2 : MapIs Try.prog 3 w2.drew bm (numMap l ++ [(.int .i64 (f : Int), .int .i64 (l.length : Int))]) := HMAP.out
      exact (hm2.frame (Frame.of_grown hg3) (fun e => hm2.not_own hown3 e)).far (hm2.not_blk hcell3) _
    · rw [HM.out]
      have h3 := own_frame hown4 ((Frame.refl (fun k => k = bs) w3).setCell (p := ⟨bs, 0, none⟩) (.inl rfl) (.slice (some ⟨g', 0, none⟩) (l.length + 1) cap')) (fun g hg e => own_ne hown4 hcell4 (by decide) (by rw [hg, e]))
      simpa [ints] using h3
    · rcases hloc3 g hg with h1 | h1
      · exact .inl h1
      · exact .inr (by rw [hsd] at h1; omega)
    · have e1 : Frame (numS bm bs (.slice A l.length c)) w w2 := ((Frame.refl _ w).drew.drew).trans (Frame.of_grown HGR.out) (fun b _ hb => .inl (by injection hb with hb; exact hb.symm))
      exact (e1.drew.trans (Frame.of_grown hg3) (fun b _ hb => .inr (.inr hb))).setCell (.inl (.inr (.inl rfl))) _

set_option maxRecDepth 100000 in
set_option maxHeartbeats 4000000 in
theorem leach_any (bm bb bs base bf bF : Nat) (l : List Int) (v : Value) (m : Mach) (A : Option Addr) (c : Nat) (xs : List Int) (w : World) (h : NumSt w bm bb bs base l v) (hFs : FstSt w bf bF m) (hb : base ≤ w.heap.size) (hbm : base ≤ bm) (hbs : base ≤ bs) (hbf : bf < base) (hbF : bF < base) (hl : l.length + xs.length ≤ 1000000) (hm : m.length ≤ 64) (hx : InM m xs)
    (hA : Cells w A (ints xs)) (hAw : ints xs ≠ [] → ∀ a, A = some a → ¬ numS bm bs v a.block) :
    Calls Try.prog 74 #[.slice A xs.length c, .func (.func 110) #[] #[.pointer (some ⟨bb, 0, none⟩), .pointer (some ⟨bf, 0, none⟩), .pointer (some ⟨bs, 0, none⟩)]] w fun e w' => ∃ A' c', e = .returned (.slice A' xs.length c') ∧ New w' w.heap.size A' (ints (foldNum l (xs.map (fsT m))).1) ∧
      ∃ v', NumSt w' bm bb bs base (foldNum l (xs.map (fsT m))).2 v' ∧ (∀ a, A' = some a → v'.ownBlock ≠ some a.block) ∧ (∀ g, v'.ownBlock = some g → v.ownBlock = some g ∨ w.heap.size ≤ g) ∧ Frame (numS bm bs v) w w' := by
  have HX := Lib.hid hx
  have HAW := Lib.hid hAw
  have H := Lib.hid h
  have HFS := Lib.hid hFs
  have hbm2 := h.map.lt
  have hbs2 := h.cell.lt
  have hbb := h.box.lt
  have HOWN0 := Lib.hid h.own
  clear hx hAw h hFs
  go_enter Try.func74, Try.ntmps74
  go_wp2
  go_loopw [5, 10] (fun vo i wr => ∃ k : Nat, k ≤ xs.length ∧ i = .int .i64 k ∧ wr.ownsRow w.heap.size 3 1 vo k (ints (foldNum l ((xs.map (fsT m)).take k)).1) ∧
      ∃ vs, NumSt wr bm bb bs base (foldNum l ((xs.map (fsT m)).take k)).2 vs ∧ (∀ g, vo.ownBlock = some g → vs.ownBlock ≠ some g) ∧ (∀ g, vs.ownBlock = some g → v.ownBlock = some g ∨ w.heap.size ≤ g) ∧ Frame (numS bm bs v) w wr)
    (fun _ i _ => xs.length - (intOf i).toNat)
  case atStart => exact ⟨0, Nat.zero_le _, rfl, World.ownsRow_nil _ _ _ _, v, H.out, fun g hg => (by cases hg), fun g hg => Or.inl hg, Frame.refl _ _⟩
  case round =>
    obtain ⟨k, hk, rfl, hown, vs, hst, hsep, hloc, hF⟩ := hrel
    have HSEP := Lib.hid hsep
    have HLOC := Lib.hid hloc
    have HST := Lib.hid hst
    have hszk := hF.size
    have hflen := foldNum_len l ((xs.map (fsT m)).take k)
    rw [List.length_take, List.length_map] at hflen
    have HFSk : Hid (FstSt wr bf bF m) := HFS.out.below (B := base) (hF.below (B := base) (fun b e => by rcases e with e | e | e; omega; omega; exact (HOWN0.out.lt b e).1) hb) hbf hbF
    clear hsep hloc hst
    by_cases hlt : k < xs.length
    · obtain ⟨x, b, o, hr, hbx, hix, hc⟩ := ints_at (c := c) (hA.frame hF HAW.out) Try.underlying22 szInt hlt
      have hxx := HX.out x (List.mem_of_getElem? hr)
      have HT : Hid ((xs.map (fsT m)).take (k + 1) = (xs.map (fsT m)).take k ++ [fsT m x]) := take_succ_of (by rw [List.getElem?_map, hr]; rfl)
      clear hr
      go_wp2_with (first
        | (go_at_call 110; go_must (refine (lnumber_any bm bb bs base bf bF (foldNum l ((xs.map (fsT m)).take k)).2 vs m x wr HST.out HFSk.out (by omega) hbm hbs hbf hbF (by omega) hm hxx).mono ?_); rintro e w1 ⟨rfl, vs1, hst1, hloc1, hF1⟩; have HST1 := Lib.hid hst1; have HLOC1 := Lib.hid hloc1; have hown1 := own_frame hown hF1 (fun g hg hs => by rcases hs with e | e | e; exact HST.out.map.not_own hown (by rw [hg, e]); exact own_ne hown HST.out.cell (by decide) (by rw [hg, e]); exact HSEP.out g hg e); clear hst1 hloc1; have hsz1 := hF1.size)
        | (at_builtin; go_must (refine wpList_app1' rInt _ rfl _ _ rfl hown1 rfl [_] 1 rfl rfl (by simp [Value.oneCell']) (by omega) (by omega) ?_); intro vo' w2 hown2 hB2 hg2 hlo2))
      go_roundw
      case rel =>
        have q0 : ∀ g, u5.ownBlock = some g → vs1.ownBlock ≠ some g := by
          intro g hg he
          rcases HLOC1.out g he with h1 | h1
          · exact HSEP.out g hg h1
          · have := (hown.lt g hg).2; omega
        have q1 : ∀ g, vo'.ownBlock = some g → vs1.ownBlock ≠ some g := by
          intro g hg he
          rcases hlo2 g hg with h1 | h1
          · exact q0 g h1 he
          · have := (HST1.out.own.lt g he).2; omega
        refine ⟨k + 1, by omega, by go_num, ?_, vs1, ?_, q1, ?_, ?_⟩
        · rw [HT.out, foldNum_snoc]; simpa [ints] using hown2
        · rw [HT.out, foldNum_snoc]
          exact HST1.out.frame (Frame.of_grown hg2) (fun e => HST1.out.map.not_own hown1 e) (fun e => own_ne hown1 HST1.out.box (by decide) e) (fun e => own_ne hown1 HST1.out.cell (by decide) e) (fun g hg e => q0 g e hg)
        · intro g hg
          rcases HLOC1.out g hg with h1 | h1
          · exact HLOC.out g h1
          · exact .inr (by omega)
        · refine (hF.trans hF1 (fun b hb' hs => ?_)).trans (Frame.of_grown hg2) (fun b hb' hs => ?_)
          · rcases hs with e | e | e
            · exact .inl e
            · exact .inr (.inl e)
            · rcases HLOC.out b e with h1 | h1
              · exact .inr (.inr h1)
              · omega
          · have := (hown.lt b hs).1; omega
      case measure => simp [intOf]; omega
    · obtain rfl : k = xs.length := by omega
      have HTA : Hid ((xs.map (fsT m)).take xs.length = xs.map (fsT m)) := by show _ = _; rw [List.take_of_length_le (by simp)]
      go_wp2
      obtain ⟨A', c', rfl, hnew⟩ := own_new hown (by simp [ints, foldNum_len1]; omega)
      go_ret
      rw [HTA.out] at hnew
      have HST' := HST.out
      rw [HTA.out] at HST'
      exact ⟨A', c', rfl, hnew, vs, HST', fun a ha => HSEP.out a.block (by subst ha; rfl), HLOC.out, hF⟩
end Go.Proofs.Ytlnonadkdonhmaa

/- Contract of Least's closure over an act. -/
namespace Go.Proofs.Ytlnonadkdonhmaa
open Go.RowKit Go.Maps

/-- The function value number. -/
def numF (bb bf bs : Nat) : Value := .func (.func 110) #[] #[.pointer (some ⟨bb, 0, none⟩), .pointer (some ⟨bf, 0, none⟩), .pointer (some ⟨bs, 0, none⟩)]

theorem load103 {w : World} {b : Nat} {x y : Value} (h : Blk w b (.cells #[x, y] 103)) : (loadVar 103 ⟨b, 0, none⟩).run Try.prog w = .ok (.agg #[x, y]) w := by
  have h0 := h.cell 0 (v := x) rfl
  have h1 := h.cell 1 (v := y) rfl
  go_simp

set_option maxRecDepth 100000 in
set_option maxHeartbeats 4000000 in
theorem lact_any (bm bb bs base bf bF bn : Nat) (l : List Int) (v : Value) (m : Mach) (rule : Int) (D : Option Addr) (f : Nat) (xs : List Int) (w : World) (h : NumSt w bm bb bs base l v) (hFs : FstSt w bf bF m) (hn : Blk w bn (.cells #[numF bb bf bs] 110)) (hb : base ≤ w.heap.size) (hbm : base ≤ bm) (hbs : base ≤ bs) (hbf : bf < base) (hbF : bF < base) (hl : l.length + xs.length ≤ 1000000) (hm : m.length ≤ 64) (hx : InM m xs)
    (hD : Cells w D (ints xs)) (hDw : ints xs ≠ [] → ∀ a, D = some a → ¬ numS bm bs v a.block) :
    Calls Try.prog 112 #[.agg #[.int .i64 rule, .slice D xs.length f], .pointer (some ⟨bn, 0, none⟩)] w fun e w' => ∃ A' c', e = .returned (.agg #[.int .i64 rule, .slice A' xs.length c']) ∧ New w' w.heap.size A' (ints (foldNum l (xs.map (fsT m))).1) ∧
      ∃ v', NumSt w' bm bb bs base (foldNum l (xs.map (fsT m))).2 v' ∧ (∀ a, A' = some a → v'.ownBlock ≠ some a.block) ∧ (∀ g, v'.ownBlock = some g → v.ownBlock = some g ∨ w.heap.size ≤ g) ∧ Frame (numS bm bs v) w w' := by
  obtain ⟨W, hW⟩ : ∃ W, (w.alloc (.cells #[.int .i64 rule, .slice D xs.length f] 103)).alloc (.cells #[.int .i64 0, .slice none 0 0] 103) = W := ⟨_, rfl⟩
  have hBW : Below w.heap.size w W := by rw [← hW]; exact ((Below.refl _ w).alloc (Nat.le_refl _) _).alloc (by simp) _
  have b1 : Blk W w.heap.size (.cells #[.int .i64 rule, .slice D xs.length f] 103) := by rw [← hW]; exact (Blk.new _ _).alloc _
  have b2 : Blk W (w.heap.size + 1) (.cells #[.int .i64 0, .slice none 0 0] 103) := by
    rw [← hW]
    have e := Blk.new (w.alloc (.cells #[.int .i64 rule, .slice D xs.length f] 103)) (.cells #[.int .i64 0, .slice none 0 0] 103)
    rw [World.size_alloc] at e
    exact e
  have hsW : W.heap.size = w.heap.size + 2 := by rw [← hW]; simp
  have hF0 : Frame (fun _ => False) w W := Frame.of_all hBW
  have H1 := Lib.hid b1
  have H2 := Lib.hid b2
  have HN := Lib.hid (hn.below hBW hn.lt)
  have HST := Lib.hid (h.below hBW)
  have HFS := Lib.hid (hFs.frame hF0 (fun h => h) (fun h => h))
  have HD := Lib.hid (hD.below hBW (Nat.le_refl _))
  have HDW := Lib.hid hDw
  have HX := Lib.hid hx
  have HBW := Lib.hid hBW
  have HOWN := Lib.hid h.own
  have hbm2 := h.map.lt
  have hbs2 := h.cell.lt
  have HNS : Hid (∀ b, w.heap.size ≤ b → ¬ numS bm bs v b) := by
    rintro b hbb (e | e | e)
    · omega
    · omega
    · have := (HOWN.out.lt b e).2; omega
  have HNB : Hid (¬ numS bm bs v bn) := by
    rintro (e | e | e)
    · exact h.map.not_blk hn e.symm
    · exact blk_ne hn h.cell (by decide) e
    · exact own_ne h.own hn (by decide) e
  have hbn := hn.lt
  have c0 := H1.out.cell 0 (v := .int .i64 rule) rfl
  have c1 := H1.out.cell 1 (v := .slice D xs.length f) rfl
  have c2 := HN.out.cell 0 (v := numF bb bf bs) rfl
  clear hx hDw h hFs hn hBW b1 b2 hF0 hD
  go_enter Try.func112, Try.ntmps112
  go_wp2
  clear hW
  unfold numF at c2
  clear c0 c1 c2
  refine draw (fun w' => Frame (fun b => numS bm bs v b ∨ b = w.heap.size + 1) W w') 8 rfl (by kernel_rfl) (fun Qd hQd => ?_)
  apply anyI_step 0 rfl (by kernel_rfl)
  focus (intro wI hI Kv hKv; have t0 := (H1.out.frame hI (fun e => by rcases e with e | e; exact HNS.out _ (Nat.le_refl _) e; omega)).cell 0 (v := .int .i64 rule) rfl; have t1 := (H1.out.frame hI (fun e => by rcases e with e | e; exact HNS.out _ (Nat.le_refl _) e; omega)).cell 1 (v := .slice D xs.length f) rfl; have t2 := (HN.out.frame hI (fun e => by rcases e with e | e; exact HNB.out e; omega)).cell 0 (v := numF bb bf bs) rfl; go_simp; exact hKv)
  intro Kd hKd
  go_simp
  refine hKd _ ?_
  clear hKd Kd
  apply anyI_step 2 rfl (by kernel_rfl)
  focus (intro wI hI Kv hKv; have t0 := (H1.out.frame hI (fun e => by rcases e with e | e; exact HNS.out _ (Nat.le_refl _) e; omega)).cell 0 (v := .int .i64 rule) rfl; have t1 := (H1.out.frame hI (fun e => by rcases e with e | e; exact HNS.out _ (Nat.le_refl _) e; omega)).cell 1 (v := .slice D xs.length f) rfl; have t2 := (HN.out.frame hI (fun e => by rcases e with e | e; exact HNB.out e; omega)).cell 0 (v := numF bb bf bs) rfl; go_simp; exact hKv)
  intro Kd hKd
  go_simp
  refine hKd _ ?_
  clear hKd Kd
  apply anyI_step 4 rfl (by kernel_rfl)
  focus (intro wI hI Kv hKv; have t0 := (H1.out.frame hI (fun e => by rcases e with e | e; exact HNS.out _ (Nat.le_refl _) e; omega)).cell 0 (v := .int .i64 rule) rfl; have t1 := (H1.out.frame hI (fun e => by rcases e with e | e; exact HNS.out _ (Nat.le_refl _) e; omega)).cell 1 (v := .slice D xs.length f) rfl; have t2 := (HN.out.frame hI (fun e => by rcases e with e | e; exact HNB.out e; omega)).cell 0 (v := numF bb bf bs) rfl; go_simp; exact hKv)
  intro Kd hKd
  go_simp
  refine hKd _ ?_
  clear hKd Kd
  apply anyI_step 1 rfl (by kernel_rfl)
  focus (intro wI hI Kv hKv; have t0 := (H1.out.frame hI (fun e => by rcases e with e | e; exact HNS.out _ (Nat.le_refl _) e; omega)).cell 0 (v := .int .i64 rule) rfl; have t1 := (H1.out.frame hI (fun e => by rcases e with e | e; exact HNS.out _ (Nat.le_refl _) e; omega)).cell 1 (v := .slice D xs.length f) rfl; have t2 := (HN.out.frame hI (fun e => by rcases e with e | e; exact HNB.out e; omega)).cell 0 (v := numF bb bf bs) rfl; go_simp; exact hKv)
  intro Kd hKd
  go_simp
  refine hKd _ ?_
  clear hKd Kd
  apply anyI_step 3 rfl (by kernel_rfl)
  focus (intro wI hI Kv hKv; have t0 := (H1.out.frame hI (fun e => by rcases e with e | e; exact HNS.out _ (Nat.le_refl _) e; omega)).cell 0 (v := .int .i64 rule) rfl; have t1 := (H1.out.frame hI (fun e => by rcases e with e | e; exact HNS.out _ (Nat.le_refl _) e; omega)).cell 1 (v := .slice D xs.length f) rfl; have t2 := (HN.out.frame hI (fun e => by rcases e with e | e; exact HNB.out e; omega)).cell 0 (v := numF bb bf bs) rfl; go_simp; exact hKv)
  intro Kd hKd
  go_simp
  refine hKd _ ?_
  clear hKd Kd
  have HSD : Hid (NumSt W.drew bm bb bs base l v) := Lib.hid ⟨HST.out.box, HST.out.map, HST.out.cell, HST.out.own⟩
  have HFD : Hid (FstSt W.drew bf bF m) := Lib.hid ⟨HFS.out.cell, HFS.out.row⟩
  have HDD : Hid (Cells W.drew D (ints xs)) := Lib.hid HD.out.drew
  have hsd : W.drew.heap.size = W.heap.size := rfl
  refine anyI_one' 5 rfl (by kernel_rfl) ((Frame.refl _ W).drew) (fun Kd hKd => ?_)
  unfold numF
  go_wp2_with (go_at_call 74; go_must (refine (leach_any bm bb bs base bf bF l v m D f xs W.drew HSD.out HFD.out (by rw [hsd]; omega) hbm hbs hbf hbF hl hm HX.out HDD.out HDW.out).mono ?_); rintro e w4 ⟨A4, c4, rfl, hnew4, v4, hst4, hsep4, hloc4, hF4⟩)
  have hF4' : Frame (fun b => numS bm bs v b ∨ b = w.heap.size + 1) W w4 := (Frame.refl _ W).drew.trans hF4 (fun b _ e => .inl e)
  apply anyI_step 6 rfl (by kernel_rfl)
  focus (intro wI hI Kv hKv; go_simp; exact hKv)
  intro Kd hKd
  go_simp
  refine hKd _ ?_
  clear hKd Kd
  have b4 := H2.out.frame (Frame.refl (numS bm bs v) W).drew (HNS.out _ (by omega))
  have b4 := b4.frame hF4 (HNS.out _ (by omega))
  have y0 := b4.cell 0 (v := .int .i64 0) rfl
  have y1 := b4.cell 1 (v := .slice none 0 0) rfl
  have z0 := b4.free 0
  have z1 := b4.free 1
  refine anyI_one' 7 rfl (by kernel_rfl) (hF4') (fun Kd hKd => ?_)
  have HB4 := Lib.hid b4
  have HS4 := Lib.hid hst4
  have HP4 := Lib.hid hsep4
  have HL4 := Lib.hid hloc4
  clear b4 hst4 hsep4 hloc4
  go_wp2
  have hF5 : Frame (fun b => numS bm bs v b ∨ b = w.heap.size + 1) W ((w4.setCell ⟨w.heap.size + 1, 0, none⟩ (.int .i64 rule)).setCell ⟨w.heap.size + 1, 1, none⟩ (.slice A4 xs.length c4)) := (hF4'.setCell (p := ⟨w.heap.size + 1, 0, none⟩) (.inl (.inr rfl)) _).setCell (p := ⟨w.heap.size + 1, 1, none⟩) (.inl (.inr rfl)) _
  refine anyI_end (by kernel_rfl) (hF5) (hQd _ _ ?_)
  clear hQd Qd
  have b5 : Blk ((w4.setCell ⟨w.heap.size + 1, 0, none⟩ (.int .i64 rule)).setCell ⟨w.heap.size + 1, 1, none⟩ (.slice A4 xs.length c4)) (w.heap.size + 1) (.cells #[.int .i64 rule, .slice A4 xs.length c4] 103) := (HB4.out.set 0 (.int .i64 rule)).set 1 (.slice A4 xs.length c4)
  have hf45 : Frame (fun b => b = w.heap.size + 1) w4 ((w4.setCell ⟨w.heap.size + 1, 0, none⟩ (.int .i64 rule)).setCell ⟨w.heap.size + 1, 1, none⟩ (.slice A4 xs.length c4)) := ((Frame.refl (fun b => b = w.heap.size + 1) w4).setCell (p := ⟨w.heap.size + 1, 0, none⟩) (.inl rfl) _).setCell (p := ⟨w.heap.size + 1, 1, none⟩) (.inl rfl) _
  have hl5 := load103 b5
  go_wp2
  refine bodyPost_ret (v := .agg #[.int .i64 rule, .slice A4 xs.length c4]) (results_c rfl rfl hl5) rfl ⟨A4, c4, rfl, ?_, v4, ?_, HP4.out, ?_, ?_⟩
  · refine ⟨hnew4.1.frame hf45 (fun hn a ha e => ?_), fun a ha => ?_⟩
    · have := hnew4.2 a ha
      rw [hsd] at this
      omega
    · have := hnew4.2 a ha
      rw [hsd] at this
      omega
  · have hv : ∀ g, v4.ownBlock = some g → g ≠ w.heap.size + 1 := by
      intro g hg e
      rcases HL4.out g hg with e2 | e2
      · have := (HOWN.out.lt g e2).2; omega
      · rw [hsd] at e2; omega
    have hbb : bb ≠ w.heap.size + 1 := by
      intro e
      have := HST.out.box
      have h2 := H2.out
      rw [← e] at h2
      exact blk_ne this h2 (by decide) rfl
    exact HS4.out.frame hf45 (by omega) hbb (by omega) hv
  · intro g hg
    rcases HL4.out g hg with e | e
    · exact .inl e
    · rw [hsd] at e
      exact .inr (by omega)
  · have e1 : Frame (numS bm bs v) w w4 := ((Frame.of_all (S := numS bm bs v) HBW.out).drew).trans hF4 (fun _ _ e => e)
    exact (e1.setCell (p := ⟨w.heap.size + 1, 0, none⟩) (.inr (by show w.heap.size ≤ w.heap.size + 1; omega)) _).setCell (p := ⟨w.heap.size + 1, 1, none⟩) (.inr (by show w.heap.size ≤ w.heap.size + 1; omega)) _
end Go.Proofs.Ytlnonadkdonhmaa

/- Contract of Least's each over the acts of a state. -/
namespace Go.Proofs.Ytlnonadkdonhmaa
open Go.RowKit Go.Maps


set_option maxRecDepth 100000 in
set_option maxHeartbeats 8000000 in
theorem lrow_any (n : Int) (rs : List Int) (w0 w1 : World) (bm bb bs bc base bf bF bn : Nat) (l : List Int) (m mo : Mach) (vs vr : Value) (A : Option Addr) (c : Nat) (row : List AAct) (w : World) (M : MSt w1 bm bb bs bc base l mo [] vs (.slice none 0 0) vr w)
    (hN : Blk w bn (.cells #[numF bb bf bs] 110)) (hFs : FstSt w1 bf bF m) (hbf : bf < base) (hbF : bF < base) (hf : formedA n rs m = true) (hR : ActsAt w0 A row) (h0 : w0.heap.size ≤ base) (hB0 : Below w0.heap.size w0 w1) (hrow : RowIn m row) (hrl : row.length ≤ 6) (hnl : ∀ a ∈ row, a.next.length ≤ 64) (hok : HeadsOk m l) :
    Calls Try.prog 111 #[.slice A row.length c, .func (.func 112) #[] #[.pointer (some ⟨bn, 0, none⟩)]] w fun e w' => ∃ A' c', e = .returned (.slice A' row.length c') ∧ (∃ vs', MSt w1 bm bb bs bc base (lactsTo m row l row.length).2 mo (lactsTo m row l row.length).1 vs' (.slice A' row.length c') vr w') ∧ Blk w' bn (.cells #[numF bb bf bs] 110) := by
  have hm64 := (formed_len hf).2
  have HF := Lib.hid hf
  have HOK : Hid (∀ q, (lactsTo m row l q).2.length ≤ 64) := fun q => ((lactsTo_ok hf hrow hok q).sets hm64).len
  have HN := Lib.hid hN
  have HFS := Lib.hid hFs
  have HM := Lib.hid M
  have HB0 := Lib.hid hB0
  have HROW := Lib.hid hrow
  have HNL := Lib.hid hnl
  have hbm := M.lm
  have hbs := M.ls
  have hlw := M.lw
  clear hN hFs M hB0 hrow hnl hok hf
  go_enter Try.func111, Try.ntmps111
  go_wp2
  go_loopw [5, 10] (fun va i wr => ∃ q : Nat, i = .int .i64 q ∧ q ≤ row.length ∧ ∃ vs, MSt w1 bm bb bs bc base (lactsTo m row l q).2 mo (lactsTo m row l q).1 vs va vr wr ∧ Blk wr bn (.cells #[numF bb bf bs] 110)) (fun _ i _ => row.length - (intOf i).toNat)
  case atStart => exact ⟨0, rfl, Nat.zero_le _, vs, HM.out, HN.out⟩
  case round =>
    obtain ⟨q, rfl, hq, vs2, hst, hbn⟩ := hrel
    obtain ⟨acts, l2, HA⟩ : ∃ acts l2, Hid (lactsTo m row l q = (acts, l2)) := ⟨_, _, rfl⟩
    rw [HA.out] at hst
    have hst : MSt w1 bm bb bs bc base l2 mo acts vs2 u5 vr wr := hst
    have HST := Lib.hid hst
    have HBN := Lib.hid hbn
    have hal : acts.length = q := by have e := lactsTo_len (m := m) (row := row) (l := l) q hq; rw [HA.out] at e; exact e
    have hl2 : l2.length ≤ 64 := by have e := HOK.out q; rw [HA.out] at e; exact e
    have hszr := hst.below.size
    clear hst hbn
    by_cases hqt : q < row.length
    · obtain ⟨a, D, d, b, o, hx, hb, hix, hc0, hc1, hD⟩ := acts_at (c := c) hR hqt
      have hBr : Below w0.heap.size w0 wr := HB0.out.trans (HST.out.below.mono h0)
      have k0 := cell_chain hBr hb hc0
      have k1 := hBr.cell (p := ⟨b, o + 1, none⟩) hb
      rw [hc1] at k1
      have hinm : InM m a.next := HROW.out a (List.mem_of_getElem? hx)
      have hal64 : a.next.length ≤ 64 := HNL.out a (List.mem_of_getElem? hx)
      have HX := Lib.hid hx
      obtain ⟨wA, hwA⟩ : ∃ wA, wr.alloc (.cells #[.int .i64 a.rule, .slice D a.next.length d] 103) = wA := ⟨_, rfl⟩
      have hBA : Below wr.heap.size wr wA := by rw [← hwA]; exact (Below.refl _ wr).alloc (Nat.le_refl _) _
      have hwA0 : wA.heap.size = wr.heap.size + 1 := by rw [← hwA]; simp
      have bA : Blk wA wr.heap.size (.cells #[.int .i64 a.rule, .slice D a.next.length d] 103) := by rw [← hwA]; exact Blk.new _ _
      have x0 := bA.cell 0 (v := .int .i64 a.rule) rfl
      have x1 := bA.cell 1 (v := .slice D a.next.length d) rfl
      have MA := Lib.hid (HST.out.later hBA)
      have HBNA := Lib.hid (HBN.out.below hBA HBN.out.lt)
      have HFA : Hid (FstSt wA bf bF m) := HFS.out.below (MA.out.below) hbf hbF
      have HDA : Hid (Cells wA D (ints a.next)) := hD.below (hBr.trans (hBA.mono (by omega))) (Nat.le_refl _)
      have HDW : Hid (ints a.next ≠ [] → ∀ p, D = some p → ¬ numS bm bs vs2 p.block) := by
        intro hn p hp
        have h1 := hD.lt hn hp
        rintro (e | e | e)
        · omega
        · omega
        · have h2 := (MA.out.num.own.lt _ e).1; omega
      have hbA : base ≤ wA.heap.size := by omega
      have HBA := Lib.hid hBA
      have hlla : l2.length + a.next.length ≤ 1000000 := by omega
      have HINM := Lib.hid hinm
      clear hx hD hBr hc0 hc1 hBA bA hinm
      go_wp2_with fail
      refine (lact_any bm bb bs base bf bF bn l2 vs2 m a.rule D d a.next wA MA.out.num HFA.out HBNA.out hbA hbm hbs hbf hbF hlla hm64 HINM.out HDA.out HDW.out).mono ?_
      rintro e w5 ⟨A5, c5, rfl, hn5, vs5, hst5, hsep5, hloc5, hF5⟩
      have M5 := Lib.hid (MA.out.each hF5 hst5 hloc5)
      have hm6 : (foldNum l2 (a.next.map (fsT m))).1.length = a.next.length := by rw [foldNum_len1]; simp
      have hbn5 : Blk w5 bn (.cells #[numF bb bf bs] 110) := HBNA.out.frame hF5 (by
        rintro (e | e | e)
        · exact MA.out.num.map.not_blk HBNA.out e.symm
        · exact blk_ne HBNA.out MA.out.num.cell (by decide) e
        · exact own_ne MA.out.num.own HBNA.out (by decide) e)
      have HBN5 := Lib.hid hbn5
      have HSEP := Lib.hid hsep5
      have HLOC := Lib.hid hloc5
      have hsz5 := hF5.size
      obtain ⟨hs5, hl5, ho5, hc5⟩ := M5.out.acts
      have HC5 := Lib.hid hc5
      have HN5 := Lib.hid hn5
      have hsb5 : base ≤ w5.heap.size := by omega
      clear hst5 hsep5 hloc5 hc5 hn5 hbn5 hF5 x0 x1 k0 k1 hwA
      go_wp2_with (at_builtin; go_must (refine wpList_app1' rAct _ rfl _ _ rfl ho5 rfl [_, _] 1 rfl rfl (by simp [Value.oneCell']) (by omega) (by omega) ?_); intro va6 w6 ho6 hB6 hg6 hloc6)
      go_roundw
      case rel =>
        have hCP : CellsP (fun b => ¬ mutS bm bs bc base vs5 u5 vr b) w5 A5 (ints (foldNum l2 (a.next.map (fsT m))).1) := by
          refine ⟨HN5.out.1, fun _ p hp hs => ?_⟩
          have h1 := HN5.out.2 p hp
          obtain ⟨_, _, ho1, _⟩ := MA.out.mach
          obtain ⟨_, _, ho2, _⟩ := MA.out.acts
          rcases hs with e | e | e | e | e | e | e
          · omega
          · have := MA.out.num.map.lt; omega
          · have := MA.out.num.cell.lt; omega
          · have := MA.out.mc.lt; omega
          · exact HSEP.out p hp e
          · have := (ho2.lt _ e).2; omega
          · have := (ho1.lt _ e).2; omega
        refine ⟨q + 1, by go_num, by omega, vs5, ?_, ?_⟩
        · rw [lactsTo, HX.out]
          simp only
          rw [HA.out]
          exact M5.out.act (a := ⟨a.rule, (foldNum l2 (a.next.map (fsT m))).1⟩) (B := A5) (c := c5) hl5 ho5 HC5.out hCP (by unfold actCells; simp only [hm6]; exact ho6) hg6 hloc6
        · exact HBN5.out.grown hg6 (fun e => own_ne ho5 HBN5.out (by decide) e)
      case measure => simp [intOf]; omega
    · obtain rfl : q = row.length := by omega
      obtain ⟨hs6, hl6, ho6, hc6⟩ := HST.out.acts
      obtain ⟨Aa, ca, rfl⟩ := own_fits ho6
      clear ho6 hc6
      rw [hal]
      go_wp2
      go_ret
      refine ⟨Aa, ca, rfl, ⟨vs2, ?_⟩, HBN.out⟩
      rw [HA.out]
      have e := HST.out
      rw [hal] at e
      exact e
end Go.Proofs.Ytlnonadkdonhmaa

/- Contracts of Least's closure that looks a class up, and each over it. -/
namespace Go.Proofs.Ytlnonadkdonhmaa
open Go.RowKit Go.Maps

set_option maxRecDepth 100000 in
set_option maxHeartbeats 1000000 in
theorem lcls_any (bm bb bs base : Nat) (l : List Int) (v : Value) (x : Int) (w : World) (h : NumSt w bm bb bs base l v) (hx : -9223372036854775808 ≤ x ∧ x ≤ 9223372036854775807) :
    Calls Try.prog 113 #[.int .i64 x, .pointer (some ⟨bb, 0, none⟩)] w fun e w' => e = .returned (.int .i64 (clsN l x)) ∧ w = w' := by
  have hkey : keyOf Try.prog 3 (.int .i64 x) = some (.int .i64 x) := keyOf_int_mk Try.underlying3 (WalkArith.wf_i64 hx)
  have K : Keyed Try.prog 3 := int_keyed Try.underlying3
  have hz : (zeroValue 3).run Try.prog w = .ok (.int .i64 0) w := by kernel_rfl
  have c1 := h.box.cell 0 (v := .map (some bm)) rfl
  by_cases hm : x ∈ l
  · have hrun := h.map.look_yes K Try.underlying108 hkey (numMap_mem hm) true
    simp only [if_true] at hrun
    have HM : Hid (clsN l x = (l.idxOf x : Int)) := by show _ = _; simp [clsN, hm]
    rw [HM.out]
    clear hm hkey hz h
    go_enter Try.func113, Try.ntmps113
    go_wp2
    go_ret
    exact ⟨rfl, rfl⟩
  · have hrun := h.map.look_no K Try.underlying108 hkey (numMap_no hm) hz true
    simp only [if_true] at hrun
    have HM : Hid (clsN l x = -1) := by show _ = _; simp [clsN, hm]
    rw [HM.out]
    clear hm hkey hz h
    go_enter Try.func113, Try.ntmps113
    go_wp2
    go_ret
    exact ⟨rfl, rfl⟩

set_option maxRecDepth 100000 in
set_option maxHeartbeats 2000000 in
theorem leachc_any (bm bb bs base : Nat) (l : List Int) (v : Value) (A : Option Addr) (c : Nat) (xs : List Int) (w : World) (h : NumSt w bm bb bs base l v) (hxl : xs.length ≤ 1000000) (hx : ∀ x ∈ xs, -9223372036854775808 ≤ x ∧ x ≤ 9223372036854775807) (hA : Cells w A (ints xs)) :
    Calls Try.prog 74 #[.slice A xs.length c, .func (.func 113) #[] #[.pointer (some ⟨bb, 0, none⟩)]] w fun e w' => ∃ A' c', e = .returned (.slice A' xs.length c') ∧ New w' w.heap.size A' (ints (xs.map (clsN l))) ∧ Below w.heap.size w w' := by
  have HX := Lib.hid hx
  have H := Lib.hid h
  clear hx h
  go_enter Try.func74, Try.ntmps74
  go_wp2
  go_loopw [5, 10] (fun vo i wr => ∃ k : Nat, k ≤ xs.length ∧ i = .int .i64 k ∧ wr.ownsRow w.heap.size 3 1 vo k (ints ((xs.map (clsN l)).take k)) ∧ Below w.heap.size w wr)
    (fun _ i _ => xs.length - (intOf i).toNat)
  case atStart => exact ⟨0, Nat.zero_le _, rfl, World.ownsRow_nil _ _ _ _, Below.refl _ _⟩
  case round =>
    obtain ⟨k, hk, rfl, hown, hB⟩ := hrel
    have HB := Lib.hid hB
    have hszk := hB.size
    by_cases hlt : k < xs.length
    · obtain ⟨x, b, o, hr, hbx, hix, hc⟩ := ints_at (c := c) (hA.below hB (Nat.le_refl _)) Try.underlying22 szInt hlt
      have hxx := HX.out x (List.mem_of_getElem? hr)
      have HT : Hid ((xs.map (clsN l)).take (k + 1) = (xs.map (clsN l)).take k ++ [clsN l x]) := take_succ_of (by rw [List.getElem?_map, hr]; rfl)
      have HST := Lib.hid (H.out.frame (S := fun _ => False) (Frame.of_all hB) (fun h => h) (fun h => h) (fun h => h) (fun _ _ h => h))
      clear hr
      go_wp2_with (first
        | (go_at_call 113; go_must (refine (lcls_any bm bb bs base l v x wr HST.out hxx).mono ?_); rintro e w1 ⟨rfl, rfl⟩)
        | (at_builtin; go_must (refine wpList_app1' rInt _ rfl _ _ rfl hown rfl [_] 1 rfl rfl (by simp [Value.oneCell']) (by omega) (by omega) ?_); intro vo' w2 hown2 hB2 hg2 hlo2))
      go_roundw
      case rel => exact ⟨k + 1, by omega, by go_num, by rw [HT.out]; simpa [ints] using hown2, HB.out.trans hB2⟩
      case measure => simp [intOf]; omega
    · obtain rfl : k = xs.length := by omega
      have HTA : Hid ((xs.map (clsN l)).take xs.length = xs.map (clsN l)) := by show _ = _; rw [List.take_of_length_le (by simp)]
      go_wp2
      obtain ⟨A', c', rfl, hnew⟩ := own_new hown (by simp [ints]; omega)
      go_ret
      rw [HTA.out] at hnew
      exact ⟨A', c', rfl, hnew, hB⟩

theorem results_ctt {P : Program} {fn : Func} {tmps : Array Value} {w : World} {a b c : Tmp} {t : TypeId} {p : Addr} {v u z : Value} (h : fn.results = #[.cell a t, .tmp b, .tmp c]) (ha : tmps.getD a undef = .pointer (some p)) (hb : tmps.getD b undef = u) (hc : tmps.getD c undef = z) (hl : (loadVar t p).run P w = .ok v w) :
    (results fn tmps).run P w = .ok (.tuple #[v, u, z]) w := by
  simp only [Array.getD_eq_getD_getElem?] at ha hb hc
  simp [results, h, ha, hb, hc, hl, asAddr, Result.andThen]

/-! ### the program's Least, where the machine is not as defined -/
def leastMR (n : Int) (rs : List Int) (m : Mach) : Mach := if formedA n rs m then leastM m else []
def leastCR (n : Int) (rs : List Int) (m : Mach) : List Int := if formedA n rs m then leastC m else []
set_option maxRecDepth 100000 in
set_option maxHeartbeats 4000000 in
theorem Least_no (n : Int) (A : Option Addr) (c : Nat) (rs : List Int) (B : Option Addr) (d : Nat) (m : Mach) (w : World) (hA : Cells w A (ints rs)) (hM : MachAt w B m) (hf : formedA n rs m = false) :
    Calls Try.prog 67 #[.agg #[.int .i64 n, .slice A rs.length c], .agg #[.slice B m.length d]] w fun e w' => e = .returned (.tuple #[.agg #[.slice none 0 0], .slice none 0 0, .int .i64 2]) ∧ Below w.heap.size w w' := by
  obtain ⟨W, hW⟩ : ∃ W, ((w.alloc (.cells #[.int .i64 n, .slice A rs.length c] 24)).alloc (.cells #[.slice B m.length d] 27)).alloc (.cells #[.slice none 0 0] 27) = W := ⟨_, rfl⟩
  have hBW : Below w.heap.size w W := by rw [← hW]; exact (((Below.refl _ w).alloc (Nat.le_refl _) _).alloc (by simp) _).alloc (by simp <;> omega) _
  have hsW : W.heap.size = w.heap.size + 3 := by rw [← hW]; simp
  have b0 : Blk W w.heap.size (.cells #[.int .i64 n, .slice A rs.length c] 24) := by rw [← hW]; exact ((Blk.new _ _).alloc _).alloc _
  have b1 : Blk W (w.heap.size + 1) (.cells #[.slice B m.length d] 27) := by
    rw [← hW]
    have e := (Blk.new (w.alloc (.cells #[.int .i64 n, .slice A rs.length c] 24)) (.cells #[.slice B m.length d] 27)).alloc (.cells #[.slice none 0 0] 27)
    rw [World.size_alloc] at e
    exact e
  have b2 : Blk W (w.heap.size + 2) (.cells #[.slice none 0 0] 27) := by
    rw [← hW]
    have e := Blk.new ((w.alloc (.cells #[.int .i64 n, .slice A rs.length c] 24)).alloc (.cells #[.slice B m.length d] 27)) (.cells #[.slice none 0 0] 27)
    rw [World.size_alloc, World.size_alloc] at e
    exact e
  have HFM : Hid (errI (formedA n rs m) = 2) := by show _ = _; rw [hf]; rfl
  have HBW := Lib.hid hBW
  have H2 := Lib.hid b2
  have c0 := b0.cell 0 (v := .int .i64 n) rfl
  have c1 := b0.cell 1 (v := .slice A rs.length c) rfl
  have c2 := b1.cell 0 (v := .slice B m.length d) rfl
  clear b0 b1 b2 hf hBW
  go_enter Try.func67, Try.ntmps67
  go_wp2_with fail
  clear hW
  refine (Formed_any n A c rs B d m W (hA.below HBW.out (Nat.le_refl _)) (hM.below HBW.out (Nat.le_refl _))).mono ?_
  rintro e w1 ⟨rfl, hB1⟩
  rw [HFM.out]
  have b2 := H2.out.below hB1 (by omega)
  have y0 := b2.cell 0 (v := .slice none 0 0) rfl
  have y1 := b2.free 0
  have HB1 := Lib.hid hB1
  have hl5 : (loadVar 27 ⟨w.heap.size + 2, 0, none⟩).run Try.prog (w1.setCell ⟨w.heap.size + 2, 0, none⟩ (.slice none 0 0)) = .ok (.agg #[.slice none 0 0]) (w1.setCell ⟨w.heap.size + 2, 0, none⟩ (.slice none 0 0)) := by
    have q := (b2.set1 (.slice none 0 0)).cell 0 (v := .slice none 0 0) rfl
    go_simp
  clear hB1 b2 c0 c1 c2
  go_wp2
  refine bodyPost_ret (v := .tuple #[.agg #[.slice none 0 0], .slice none 0 0, .int .i64 2]) (results_ctt rfl rfl rfl rfl hl5) rfl ⟨rfl, ?_⟩
  have e1 := HBW.out.trans (HB1.out.mono (by omega))
  exact e1.setCell (by show w.heap.size ≤ w.heap.size + 2; omega) _
end Go.Proofs.Ytlnonadkdonhmaa

/- Contract: Least of the program. -/
namespace Go.Proofs.Ytlnonadkdonhmaa
open Go.RowKit Go.Maps

def fillL (m : Mach) (k : Nat) (c : Int) : List Int := (firsts m).take k ++ (c :: List.replicate (m.length - k - 1) 0)
def fillK (m : Mach) (k : Nat) : List Int := (firsts m).take k ++ List.replicate (m.length - k) 0
section
variable {m : Mach} {k : Nat}
theorem take_firsts_len (hk : k ≤ m.length) : ((firsts m).take k).length = k := by rw [List.length_take, firsts_len]; omega
theorem fillK_zero (m : Mach) : fillK m 0 = List.replicate m.length 0 := by simp [fillK]
theorem fillK_all (m : Mach) : fillK m m.length = firsts m := by
  unfold fillK
  rw [List.take_of_length_le (by rw [firsts_len]; exact Nat.le_refl _), Nat.sub_self]
  simp
theorem fill_start (hk : k < m.length) : fillK m k = fillL m k 0 := by
  unfold fillK fillL
  rw [show m.length - k = (m.length - k - 1) + 1 by omega, List.replicate_succ]
  simp
theorem fill_get (hk : k < m.length) (c : Int) : (fillL m k c)[k]? = some c := by
  unfold fillL
  rw [List.getElem?_append_right (by rw [take_firsts_len (by omega)]; exact Nat.le_refl _), take_firsts_len (by omega), Nat.sub_self]
  rfl
theorem fill_set (hk : k < m.length) (c v : Int) : (fillL m k c).set k v = fillL m k v := by
  unfold fillL
  rw [List.set_append_right _ _ (by rw [take_firsts_len (by omega)]; exact Nat.le_refl _), take_firsts_len (by omega), Nat.sub_self]
  rfl
theorem fill_done (hk : k < m.length) : fillL m k (firstA m k : Int) = fillK m (k + 1) := by
  unfold fillL fillK
  rw [take_succ_of (firsts_get hk), show m.length - k - 1 = m.length - (k + 1) by omega]
  simp
end

set_option maxRecDepth 100000 in
set_option maxHeartbeats 8000000 in
theorem Least_yes (n : Int) (A : Option Addr) (c : Nat) (rs : List Int) (B : Option Addr) (d : Nat) (m : Mach) (w : World) (hA : Cells w A (ints rs)) (hM : MachAt w B m) (hf : formedA n rs m = true) :
    Calls Try.prog 67 #[.agg #[.int .i64 n, .slice A rs.length c], .agg #[.slice B m.length d]] w fun e w' => ∃ A' c' C' d', e = .returned (.tuple #[.agg #[.slice A' (leastM m).length c'], .slice C' (leastC m).length d', .int .i64 0]) ∧ MachAt w' A' (leastM m) ∧ Cells w' C' (ints (leastC m)) ∧ Below w.heap.size w w' := by
  obtain ⟨hm1, hm64⟩ := formed_len hf
  obtain ⟨W, hW⟩ : ∃ W, ((w.alloc (.cells #[.int .i64 n, .slice A rs.length c] 24)).alloc (.cells #[.slice B m.length d] 27)).alloc (.cells #[.slice none 0 0] 27) = W := ⟨_, rfl⟩
  have hBW : Below w.heap.size w W := by rw [← hW]; exact (((Below.refl _ w).alloc (Nat.le_refl _) _).alloc (by simp) _).alloc (by simp <;> omega) _
  have hsW : W.heap.size = w.heap.size + 3 := by rw [← hW]; simp
  have b0 : Blk W w.heap.size (.cells #[.int .i64 n, .slice A rs.length c] 24) := by rw [← hW]; exact ((Blk.new _ _).alloc _).alloc _
  have b1 : Blk W (w.heap.size + 1) (.cells #[.slice B m.length d] 27) := by
    rw [← hW]
    have e := (Blk.new (w.alloc (.cells #[.int .i64 n, .slice A rs.length c] 24)) (.cells #[.slice B m.length d] 27)).alloc (.cells #[.slice none 0 0] 27)
    rw [World.size_alloc] at e
    exact e
  have b2 : Blk W (w.heap.size + 2) (.cells #[.slice none 0 0] 27) := by
    rw [← hW]
    have e := Blk.new ((w.alloc (.cells #[.int .i64 n, .slice A rs.length c] 24)).alloc (.cells #[.slice B m.length d] 27)) (.cells #[.slice none 0 0] 27)
    rw [World.size_alloc, World.size_alloc] at e
    exact e
  have HFM : Hid (errI (formedA n rs m) = 0) := by show _ = _; rw [hf]; rfl
  have HF := Lib.hid hf
  have HBW := Lib.hid hBW
  have H1 := Lib.hid b1
  have H2 := Lib.hid b2
  have c0 := b0.cell 0 (v := .int .i64 n) rfl
  have c1 := b0.cell 1 (v := .slice A rs.length c) rfl
  have c2 := b1.cell 0 (v := .slice B m.length d) rfl
  obtain ⟨i0, hi, hz0, hz1, hz2⟩ := info_parts info3
  clear b0 b1 b2 hf hBW
  go_enter Try.func67, Try.ntmps67
  go_wp2_with fail
  clear hW
  refine (Formed_any n A c rs B d m W (hA.below HBW.out (Nat.le_refl _)) (hM.below HBW.out (Nat.le_refl _))).mono ?_
  rintro e w1 ⟨rfl, hB1⟩
  rw [HFM.out]
  have HB1 := Lib.hid hB1
  have d2 := (H1.out.below hB1 (by omega)).cell 0 (v := .slice B m.length d) rfl
  have hs1 := hB1.size
  clear hB1 c0 c1 c2
  go_wp2_with fail
  clear d2
  refine (rounds_any n rs B d m w1 (hM.below (HBW.out.trans (HB1.out.mono (by omega))) (Nat.le_refl _)) HF.out).mono ?_
  rintro e w2 ⟨bt, rfl, htb, hbt, hB2⟩
  have HTB := Lib.hid htb
  have HB12 : Hid (Below W.heap.size W w2) := HB1.out.trans (hB2.mono hs1)
  have hs2 := hB2.size
  have hbt2 := htb.lt
  have d2 := (H1.out.below HB12.out (by omega)).cell 0 (v := .slice B m.length d) rfl
  clear htb hB2
  go_wp2_with (at_make; go_must (refine wpList_make_full _ rfl _ _ 22 rfl w2.heap.size 3 i0 (.int .i64 0) 1 Try.underlying22 hi hz0 hz1 .i64 .i64 m.length m.length m.length rfl rfl rfl rfl (by rw [hz2]; omega) (by unfold maxLen; omega) (Nat.le_refl _) ?_); intro w3 ho3 hg3; have hs3 := hg3.size; have d3 := hg3.cell d2 (by simp); have hlt3 : w.heap.size + 1 < w3.heap.size := by omega)
  rw [made_ints] at ho3
  have hbF3 : Blk w3 w2.heap.size (.cells (ints (List.replicate m.length 0)).toArray 3) := own_full ho3
  have hB23 : Below w2.heap.size w2 w3 := (Below.refl _ _).grown hg3 (Nat.le_refl _) (fun k e => by cases e)
  obtain ⟨w4, hw4⟩ : ∃ w4, w3.alloc (.cells #[.slice (some ⟨w2.heap.size, 0, none⟩) m.length m.length] 22) = w4 := ⟨_, rfl⟩
  rw [hw4]
  have HB24 : Hid (Below w2.heap.size w2 w4) := by rw [← hw4]; exact hB23.alloc hs3 _
  have HBF : Hid (Blk w4 w2.heap.size (.cells (ints (List.replicate m.length 0)).toArray 3)) := by rw [← hw4]; exact hbF3.alloc _
  have HBV : Hid (Blk w4 w3.heap.size (.cells #[.slice (some ⟨w2.heap.size, 0, none⟩) m.length m.length] 22)) := by rw [← hw4]; exact Blk.new _ _
  have hs4 : w4.heap.size = w3.heap.size + 1 := by rw [← hw4]; simp
  obtain ⟨bF, hbF⟩ : ∃ bF, w2.heap.size = bF := ⟨_, rfl⟩
  obtain ⟨bf, hbf⟩ : ∃ bf, w3.heap.size = bf := ⟨_, rfl⟩
  have hff : bF < bf := by have := hbF3.lt; omega
  have HT4 : Hid (TblAt w4 bt (roundsA m)) := HTB.out.frame (S := fun _ => False) (Frame.of_all HB24.out) (fun h => h)
  have HB4W : Hid (Below w.heap.size w w4) := (HBW.out.trans (HB12.out.mono (by omega))).trans (HB24.out.mono (by omega))
  have HG4 : Hid (Blk w4 (w.heap.size + 1) (.cells #[.slice B m.length d] 27)) := (H1.out.below HB12.out (by omega)).below HB24.out (by omega)
  have HR4 : Hid (Blk w4 (w.heap.size + 2) (.cells #[.slice none 0 0] 27)) := (H2.out.below HB12.out (by omega)).below HB24.out (by omega)
  have hbtF : bt < bF := by omega
  rw [hbF] at HBF HBV ⊢
  rw [hbf] at HBV hs4 ⊢
  have hwF : w.heap.size + 2 < bF := by omega
  clear hw4 ho3 hg3 hbF3 hB23 d2 d3 hlt3 hs3 hs2 hs1 hbt hbt2 hi hz0 hz1 hz2
  go_loopw [31] (fun i wr => ∃ k : Nat, k ≤ m.length ∧ i = .int .i64 k ∧ Blk wr bF (.cells (ints (fillK m k)).toArray 3) ∧ Frame (fun b => b = bF) w4 wr) (fun i _ => m.length - (intOf i).toNat)
  case atStart => exact ⟨0, Nat.zero_le _, rfl, by rw [fillK_zero]; exact HBF.out, Frame.refl _ _⟩
  case round =>
    obtain ⟨k, hk, rfl, hrow, hF⟩ := hrel
    have HROW := Lib.hid hrow
    have HFr := Lib.hid hF
    clear hrow hF
    by_cases hkt : k < m.length
    · go_wp2
      obtain ⟨wo, rfl⟩ : ∃ wo : World, wo = wr := ⟨_, rfl⟩
      go_loopg [10] k (fun g nv wr => ∃ q : Nat, q + g = k ∧ Blk wr bF (.cells (ints (fillL m k q)).toArray 3) ∧ (∀ j, j < q → tget (roundsA m) (bothI j k) ≠ none) ∧ Frame (fun b => b = bF) w4 wr)
      case atStart => exact ⟨0, by omega, by rw [show ((0 : Nat) : Int) = 0 from rfl, ← fill_start hkt]; exact HROW.out, fun j hj => by omega, HFr.out⟩
      case round =>
        obtain ⟨q, hqg, hrow, hkn, hF⟩ := hrel
        have HROW2 := Lib.hid hrow
        have HKN := Lib.hid hkn
        have HF2 := Lib.hid hF
        have hf2 : bf ≠ bF := by omega
        have v0 := (HBV.out.frame hF hf2).cell 0 (v := .slice (some ⟨bF, 0, none⟩) m.length m.length) rfl
        have v1 := (HBV.out.frame hF hf2).lt
        have r0 := hrow.cell k (ints_get (fill_get hkt (q : Int)))
        have r1 := hrow.lt
        have hix := ix_own (b := bF) (n := m.length) (c := m.length) Try.underlying22 szInt hkt
        have HTr : Hid (TblAt wr bt (roundsA m)) := HT4.out.frame hF (by omega)
        have hszr := hF.size
        clear hrow hkn hF
        by_cases hqk : q < k
        · have hq1 : min (q : Int) (k : Int) = (q : Int) := by omega
          have hq2 : max (q : Int) (k : Int) = (k : Int) := by omega
          have HQ1 := Lib.hid hq1
          have HQ2 := Lib.hid hq2
          have HRG : Hid (rng (q : Int) ∧ rng (k : Int)) := by constructor <;> unfold rng <;> omega
          have HBO : Hid (bothI q k = ((q : Int), (k : Int))) := bothI_lt hqk
          clear hq1 hq2
          cases hget : tget (roundsA m) ((q : Int), (k : Int)) with
          | none =>
            have HGET := Lib.hid hget
            clear hget
            go_wp2_with (go_at_call 85; go_must (refine (both_any q k wr).mono ?_); rintro e w5 ⟨rfl, hB5⟩; rw [HQ1.out, HQ2.out]; have hlk := tbl_look (HTr.out.frame (S := fun _ => False) (Frame.of_all hB5) (fun h => h)) HRG.out.1 HRG.out.2; rw [HGET.out] at hlk; simp only [Option.getD_none, Option.isSome_none] at hlk)
            have HFA : Hid (firstA m k = q) := firstA_of HKN.out (by omega) (.inr (by rw [HBO.out]; exact HGET.out))
            have HF5 : Hid (Frame (fun b => b = bF) w4 w5) := HF2.out.trans (Frame.of_all (S := fun _ => False) hB5) (fun _ _ h => h.elim)
            have HR5 : Hid (Blk w5 bF (.cells (ints (fillK m (k + 1))).toArray 3)) := by
              have e := HROW2.out.below hB5 HROW2.out.lt
              rw [← HFA.out, fill_done hkt] at e
              exact e
            clear hlk
            go_roundw
            case rel => exact ⟨k + 1, by omega, by go_num, HR5.out, HF5.out⟩
            case measure => simp [intOf]; omega
          | some v =>
            have HGET := Lib.hid hget
            clear hget
            go_wp2_with (go_at_call 85; go_must (refine (both_any q k wr).mono ?_); rintro e w5 ⟨rfl, hB5⟩; rw [HQ1.out, HQ2.out]; have hlk := tbl_look (HTr.out.frame (S := fun _ => False) (Frame.of_all hB5) (fun h => h)) HRG.out.1 HRG.out.2; rw [HGET.out] at hlk; simp only [Option.getD_some, Option.isSome_some] at hlk; have hr5 := HROW2.out.below hB5 HROW2.out.lt; have q0 := hr5.cell k (ints_get (fill_get hkt (q : Int))); have q1 := hr5.free k; have q3 := cell_chain hB5 v1 v0; have q4 := hr5.lt; have q5 : bf < w5.heap.size := Nat.lt_of_lt_of_le v1 hB5.size)
            go_roundg (k - (q + 1))
            case measure => omega
            case rel =>
              refine ⟨q + 1, by omega, ?_, ?_, ?_⟩
              · have e := hr5.set k (.int .i64 ((q : Int) + 1))
                rw [ints_set, fill_set hkt] at e
                exact e
              · intro j hj
                by_cases e : j = q
                · subst e
                  rw [HBO.out, HGET.out]
                  exact fun h => by cases h
                · exact HKN.out j (by omega)
              · exact (HF2.out.trans (Frame.of_all (S := fun _ => False) hB5) (fun _ _ h => h.elim)).setCell (p := ⟨bF, k, none⟩) (.inl rfl) _
        · obtain rfl : q = k := by omega
          have HFA : Hid (firstA m q = q) := firstA_of HKN.out (by omega) (.inl rfl)
          have HR5 : Hid (Blk wr bF (.cells (ints (fillK m (q + 1))).toArray 3)) := by
            have e := HROW2.out
            rw [← fill_done hkt, HFA.out]
            exact e
          go_wp2
          go_roundw
          case rel => exact ⟨q + 1, by omega, by go_num, HR5.out, HF2.out⟩
          case measure => simp [intOf]; omega
    · obtain rfl : k = m.length := by omega
      rw [fillK_all] at HROW
      obtain ⟨V, rfl⟩ : ∃ V : World, V = wr := ⟨_, rfl⟩
      have HFS : Hid (FstSt V bf bF m) := Lib.hid ⟨HBV.out.frame HFr.out (by omega), HROW.out⟩
      have HBVW : Hid (Below w.heap.size w V) := HB4W.out.trans (HFr.out.below (B := w.heap.size) (fun b e => by omega) (by omega))
      have HGV : Hid (Blk V (w.heap.size + 1) (.cells #[.slice B m.length d] 27)) := HG4.out.frame HFr.out (by omega)
      have HRV : Hid (Blk V (w.heap.size + 2) (.cells #[.slice none 0 0] 27)) := HR4.out.frame HFr.out (by omega)
      have hsV := HFr.out.size
      have hkey : keyOf Try.prog 3 (.int .i64 0) = some (.int .i64 0) := keyOf_int_mk Try.underlying3 (by decide)
      have K : Keyed Try.prog 3 := int_keyed Try.underlying3
      have hmm := @run_makeMap Try.prog
      obtain ⟨w5, hput, hmap, hgr⟩ := (MapIs.new Try.prog 3 V).put_new K Try.underlying108 hkey (by simp) (v := .int .i64 0)
      have hs5 := hgr.size
      simp only [World.size_alloc] at hs5
      clear K hkey
      go_wp2
      obtain ⟨B0, hB0⟩ : ∃ B0, B0 = V.heap.size := ⟨_, rfl⟩
      have hV5 : Below V.heap.size V w5 := ((Below.refl _ V).alloc (Nat.le_refl _) _).trans ((Frame.of_grown hgr).below (fun b hb => by injection hb with hb; omega) (by simp))
      obtain ⟨w6, hw6⟩ : ∃ w6 : World, w6 = ((((w5.alloc (.cells #[.map (some V.heap.size)] 108)).alloc (.cells #[.int .i64 0] 3)).alloc (.cells #[.slice (some ⟨w5.heap.size + 1, 0, none⟩) 1 1] 22)).alloc (.cells #[numF w5.heap.size bf (w5.heap.size + 2)] 110)).alloc (.cells #[.slice none 0 0] 27) := ⟨_, rfl⟩
      have hw6' := hw6
      unfold numF at hw6'
      have hB56 : Below w5.heap.size w5 w6 := by
        rw [hw6]
        exact (((((Below.refl _ w5).alloc (Nat.le_refl _) _).alloc (by simp) _).alloc (by simp <;> omega) _).alloc (by simp <;> omega) _).alloc (by simp <;> omega) _
      have hs6 : w6.heap.size = w5.heap.size + 5 := by rw [hw6]; simp
      have hB6 : Below V.heap.size V w6 := hV5.trans (hB56.mono (by omega))
      have hst : NumSt w6 V.heap.size w5.heap.size (w5.heap.size + 2) B0 [0] (.slice (some ⟨w5.heap.size + 1, 0, none⟩) 1 1) := by
        rw [hw6]
        refine ⟨((((Blk.new w5 _).alloc _).alloc _).alloc _).alloc _, ((((hmap.alloc _).alloc _).alloc _).alloc _).alloc _, ?_, ?_⟩
        · have e := ((Blk.new ((w5.alloc (.cells #[.map (some V.heap.size)] 108)).alloc (.cells #[.int .i64 0] 3)) (.cells #[.slice (some ⟨w5.heap.size + 1, 0, none⟩) 1 1] 22)).alloc (.cells #[numF w5.heap.size bf (w5.heap.size + 2)] 110)).alloc (.cells #[.slice none 0 0] 27)
          simpa using e
        · have e := (((lit_own (w5.alloc (.cells #[.map (some V.heap.size)] 108)) (.int .i64 0) 3 B0 (by simp <;> omega)).alloc (.cells #[.slice (some ⟨w5.heap.size + 1, 0, none⟩) 1 1] 22)).alloc (.cells #[numF w5.heap.size bf (w5.heap.size + 2)] 110)).alloc (.cells #[.slice none 0 0] 27)
          simpa [ints] using e
      have hbn : Blk w6 (w5.heap.size + 3) (.cells #[numF w5.heap.size bf (w5.heap.size + 2)] 110) := by
        rw [hw6]
        have e := (Blk.new (((w5.alloc (.cells #[.map (some V.heap.size)] 108)).alloc (.cells #[.int .i64 0] 3)).alloc (.cells #[.slice (some ⟨w5.heap.size + 1, 0, none⟩) 1 1] 22)) (.cells #[numF w5.heap.size bf (w5.heap.size + 2)] 110)).alloc (.cells #[.slice none 0 0] 27)
        simpa using e
      have hbc : Blk w6 (w5.heap.size + 4) (.cells #[.slice none 0 0] 27) := by
        rw [hw6]
        have e := Blk.new ((((w5.alloc (.cells #[.map (some V.heap.size)] 108)).alloc (.cells #[.int .i64 0] 3)).alloc (.cells #[.slice (some ⟨w5.heap.size + 1, 0, none⟩) 1 1] 22)).alloc (.cells #[numF w5.heap.size bf (w5.heap.size + 2)] 110)) (.cells #[.slice none 0 0] 27)
        simpa using e
      rw [← hw6']
      have HST : Hid (MSt V V.heap.size w5.heap.size (w5.heap.size + 2) (w5.heap.size + 4) B0 [0] [] [] (.slice (some ⟨w5.heap.size + 1, 0, none⟩) 1 1) (.slice none 0 0) (.slice none 0 0) w6) :=
        Lib.hid ⟨hst, hbc, MachOwn.nil _ _ _, ActsOwn.nil _ _ _, by rw [hB0]; exact hB6, by omega, by omega, by omega, by omega⟩
      have HBN := Lib.hid hbn
      have HLK : Hid (∀ k, (leastTo m k).2.length ≤ 64 ∧ HeadsOk m (leastTo m k).2) := fun k => ⟨((leastTo_ok HF.out k).sets hm64).len, leastTo_ok HF.out k⟩
      have HROWS : Hid (∀ s : Nat, s < m.length → RowIn m (rowM m s) ∧ (rowM m s).length ≤ 6 ∧ ∀ a ∈ rowM m s, a.next.length ≤ 64) := by
        intro s hs
        have h6 := (grpOk_true (formed_grp HF.out)).2.1
        have hl := rowM_len HF.out hs
        refine ⟨rowIn_of HF.out hs, by omega, fun a ha => ?_⟩
        obtain ⟨c, hc⟩ := List.getElem?_of_mem ha
        exact next_len (act_ok HF.out hs hc)
      clear hw6 hw6' hput hmap hgr hst hbn hbc hmm hB6 hB56 hV5
      go_loopw [16] (fun i wr => ∃ k : Nat, i = .int .i64 k ∧ k ≤ (leastTo m k).2.length ∧ (∃ vs vr, MSt V V.heap.size w5.heap.size (w5.heap.size + 2) (w5.heap.size + 4) B0 (leastTo m k).2 (leastTo m k).1 [] vs (.slice none 0 0) vr wr) ∧ Blk wr (w5.heap.size + 3) (.cells #[numF w5.heap.size bf (w5.heap.size + 2)] 110))
        (fun i _ => 64 - (intOf i).toNat)
      case atStart => exact ⟨0, rfl, Nat.zero_le _, ⟨_, _, HST.out⟩, HBN.out⟩
      case round =>
        obtain ⟨k, rfl, hk, ⟨vs, vr, hst⟩, hbn⟩ := hrel
        obtain ⟨mo, l, HM⟩ : ∃ mo l, Hid (leastTo m k = (mo, l)) := ⟨_, _, rfl⟩
        have HOK : Hid (l.length ≤ 64 ∧ HeadsOk m l) := (by
          have e := HLK.out k
          rw [HM.out] at e; exact e)
        have hll := HOK.out.1
        rw [HM.out] at hk hst
        have hk : k ≤ l.length := hk
        have hst : MSt V V.heap.size w5.heap.size (w5.heap.size + 2) (w5.heap.size + 4) B0 l mo [] vs (.slice none 0 0) vr wr := hst
        have HML : Hid (mo.length = k) := (by
          have e := leastTo_len (m := m) (k := k) (by rw [HM.out]; exact hk)
          rw [HM.out] at e; exact e)
        have hml : mo.length ≤ 64 := by rw [HML.out]; omega
        obtain ⟨As, cs, rfl⟩ := own_fits hst.num.own
        obtain ⟨Ar, cr, rfl⟩ := own_fits hst.mach.choose_spec.2.1
        have HST := Lib.hid hst
        have HBN := Lib.hid hbn
        have x1 := hst.num.cell.cell 0 (v := .slice As l.length cs) rfl
        have x2 := hst.mc.cell 0 (v := .slice Ar mo.length cr) rfl
        have x3 := (HGV.out.below hst.below (by omega)).cell 0 (v := .slice B m.length d) rfl
        have x4 := hst.mc.lt
        have x5 := hst.num.cell.lt
        have hszr := hst.below.size
        clear hst hbn
        by_cases hlt : k < l.length
        · obtain ⟨As', cs', hv', hcs⟩ := own_out HST.out.num.own (by simp [ints]; omega)
          obtain ⟨rfl, rfl⟩ : As = As' ∧ cs = cs' := by injection hv' with h1 _ h3; exact ⟨h1, h3⟩
          obtain ⟨s, b, o, hs, hb, hix, hcx⟩ := ints_at (c := cs) hcs Try.underlying22 szInt hlt
          have hsb := (HOK.out.2.all s (List.mem_of_getElem? hs)).1
          obtain ⟨s, rfl⟩ := Int.eq_ofNat_of_zero_le hsb.1
          have hsm : s < m.length := by omega
          obtain ⟨E, f, b2, o2, hb2, hix2, hcx2, hrowA, _, _⟩ := row_at (d := d) hM HF.out hsm
          have HSG : Hid (l[k]? = some (s : Int)) := hs
          have y2 := cell_chain (HBVW.out.trans (HST.out.below.mono (by omega))) hb2 hcx2
          have y3 : b2 < wr.heap.size := by have := (HBVW.out).size; omega
          obtain ⟨acts2, l2, HA⟩ : ∃ acts2 l2, Hid (lactsTo m (rowM m s) l (rowM m s).length = (acts2, l2)) := ⟨_, _, rfl⟩
          have hal : acts2.length = (rowM m s).length := by have e := lactsTo_len (m := m) (row := rowM m s) (l := l) (rowM m s).length (Nat.le_refl _); rw [HA.out] at e; exact e
          have HAL := Lib.hid hal
          have e111 := lrow_any n rs w V V.heap.size w5.heap.size (w5.heap.size + 2) (w5.heap.size + 4) B0 bf bF (w5.heap.size + 3) l m mo (.slice As l.length cs) (.slice Ar mo.length cr) E f (rowM m s) wr.drew (HST.out.later (Below.refl _ wr).drew) HBN.out HFS.out (by omega) (by omega) HF.out hrowA (by omega) HBVW.out (HROWS.out s hsm).1 (HROWS.out s hsm).2.1 (HROWS.out s hsm).2.2 HOK.out.2
          rw [HA.out] at e111
          have H111 := Lib.hid e111
          clear hv' hcs hs hal e111 hrowA hcx2
          go_wp2
          refine drawl (fun w' => w'.cell? ⟨w5.heap.size + 4, 0, none⟩ = some (.slice Ar mo.length cr) ∧ w'.cell? ⟨w.heap.size + 1, 0, none⟩ = some (.slice B m.length d)) 15 15 rfl (by kernel_rfl) (fun Qd hQd => ?_)
          apply anyL_step 0 (by kernel_rfl) rfl (by kernel_rfl)
          focus (intro wI hI Kv hKv; have t1 := hI.1; have t2 := hI.2; go_simp; exact hKv)
          intro Kd hKd
          go_simp
          refine hKd _ ?_
          clear hKd Kd
          apply anyL_step 2 (by kernel_rfl) rfl (by kernel_rfl)
          focus (intro wI hI Kv hKv; have t1 := hI.1; have t2 := hI.2; go_simp; exact hKv)
          intro Kd hKd
          go_simp
          refine hKd _ ?_
          clear hKd Kd
          apply anyL_step 5 (by kernel_rfl) rfl (by kernel_rfl)
          focus (intro wI hI Kv hKv; have t1 := hI.1; have t2 := hI.2; go_simp; exact hKv)
          intro Kd hKd
          go_simp
          refine hKd _ ?_
          clear hKd Kd
          apply anyL_step 10 (by kernel_rfl) rfl (by kernel_rfl)
          focus (intro wI hI Kv hKv; have t1 := hI.1; have t2 := hI.2; go_simp; exact hKv)
          intro Kd hKd
          go_simp
          refine hKd _ ?_
          clear hKd Kd
          apply anyL_step 1 (by kernel_rfl) rfl (by kernel_rfl)
          focus (intro wI hI Kv hKv; have t1 := hI.1; have t2 := hI.2; go_simp; exact hKv)
          intro Kd hKd
          go_simp
          refine hKd _ ?_
          clear hKd Kd
          apply anyL_step 3 (by kernel_rfl) rfl (by kernel_rfl)
          focus (intro wI hI Kv hKv; have t1 := hI.1; have t2 := hI.2; go_simp; exact hKv)
          intro Kd hKd
          go_simp
          refine hKd _ ?_
          clear hKd Kd
          refine anyL_one 4 rfl (by kernel_rfl) (⟨x2, x3⟩) (fun Kd hKd => ?_)
          go_wp2
          refine anyL_one 6 rfl (by kernel_rfl) (⟨x2, x3⟩) (fun Kd hKd => ?_)
          go_wp2
          refine anyL_one 7 rfl (by kernel_rfl) (⟨x2, x3⟩) (fun Kd hKd => ?_)
          go_wp2
          refine anyL_one 8 rfl (by kernel_rfl) (⟨x2, x3⟩) (fun Kd hKd => ?_)
          go_wp2
          refine anyL_one 9 rfl (by kernel_rfl) (⟨x2, x3⟩) (fun Kd hKd => ?_)
          go_wp2
          refine anyL_one 11 rfl (by kernel_rfl) (⟨x2, x3⟩) (fun Kd hKd => ?_)
          go_wp2_with fail
          refine H111.out.mono ?_
          rintro e w7 ⟨A7, c7, rfl, ⟨vs7, M7⟩, hbn7⟩
          have M7' := Lib.hid M7
          have HBN7 := Lib.hid hbn7
          have z2 := M7.mc.cell 0 (v := .slice Ar mo.length cr) rfl
          have z3 := (HGV.out.below M7.below (by omega)).cell 0 (v := .slice B m.length d) rfl
          have z4 := M7.mc.lt
          have hsz7 := M7.below.size
          have z5 : w.heap.size + 1 < w7.heap.size := by omega
          obtain ⟨hs7, hl7, ho7, hc7⟩ := M7.mach
          have HC7 := Lib.hid hc7
          have hb7 : B0 ≤ w7.heap.size := by omega
          clear M7 hbn7 hc7 x1 x2 x3 x4 y2 y3 hix2 hix hcx hb2 hb hsz7
          go_wp2
          refine anyL_one 12 rfl (by kernel_rfl) (⟨z2, z3⟩) (fun Kd hKd => ?_)
          go_wp2
          refine anyL_one 13 rfl (by kernel_rfl) (⟨by go_simp, by go_simp⟩) (fun Kd hKd => ?_)
          go_wp2_with (at_builtin; go_must (refine wpList_app1' rRow _ rfl _ _ rfl ho7 rfl [_] 1 rfl rfl (by simp [Value.oneCell']) (by omega) (by omega) ?_); intro vr8 w8 ho8 hB8 hg8 hloc8)
          obtain ⟨g8, cap8, rfl⟩ := ownsRow_succ ho8
          have b8 := M7'.out.mc.grown hg8 (own_ne ho7 M7'.out.mc (by decide))
          have e2 := b8.cell 0 (v := .slice Ar mo.length cr) rfl
          have e3 := b8.free 0
          have e4 := b8.lt
          have e5 := hg8.cell z3 (by intro e; have := (ho7.lt (w.heap.size + 1) e.symm).1; omega)
          have HG8 := Lib.hid hg8
          have HO8 := Lib.hid ho8
          have HLOC8 := Lib.hid hloc8
          clear ho8 hB8 hg8 hloc8
          apply anyL_step 14 (by kernel_rfl) rfl (by kernel_rfl)
          focus (intro wI hI Kv hKv; go_simp; exact hKv)
          intro Kd hKd
          go_simp
          refine hKd _ ?_
          clear hKd Kd
          refine anyL_end rfl (by kernel_rfl) (⟨e2, e5⟩) (fun Kd hKd => ?_)
          go_wp2
          go_roundw
          case rel =>
            have MR := M7'.out
            rw [← HAL.out] at MR
            have R := MR.row hl7 ho7 (by rw [HAL.out]; exact HC7.out) (by unfold rowCell; simp only [HAL.out]; exact HO8.out) HG8.out HLOC8.out (by rw [HAL.out]; have := (HROWS.out s hsm).2.1; omega)
            have hstep : leastTo m (k + 1) = (mo ++ [acts2], l2) := by
              rw [leastTo_step (by rw [HM.out]; exact HSG.out), HM.out, Int.toNat_natCast, HA.out]
            refine ⟨k + 1, by go_num, ?_, ⟨vs7, .slice (some ⟨g8, 0, none⟩) (mo.length + 1) cap8, ?_⟩, ?_⟩
            · rw [hstep]
              have e := (lactsTo_pre (m := m) (rowM m s) l (rowM m s).length).length_le
              rw [HA.out] at e
              simp only at e ⊢
              omega
            · rw [hstep]
              exact R
            · exact (HBN7.out.grown HG8.out (fun e => own_ne ho7 HBN7.out (by decide) e)).far (fun e => by simp at e) _
          case measure => simp [intOf]; omega
        · have hkl : k = l.length := by omega
          have HD64 : Hid (leastTo m 64 = (mo, l)) := by
            show _ = _
            rw [leastTo_done (m := m) (k := k) (by omega) (by rw [HM.out]; simp only; omega), HM.out]
          have HLM : Hid (leastM m = mo) := by show _ = _; unfold leastM; rw [HD64.out]
          have HLC : Hid (leastC m = (firsts m).map (clsN l)) := by
            show _ = _
            unfold leastC leastH firsts
            rw [HD64.out, List.map_map]
            rfl
          have v0 := (HFS.out.cell.below HST.out.below (by omega)).cell 0 (v := .slice (some ⟨bF, 0, none⟩) m.length m.length) rfl
          have v1 := (HFS.out.cell.below HST.out.below (by omega)).lt
          have HFR : Hid (Blk wr bF (.cells (ints (firsts m)).toArray 3)) := HFS.out.row.below HST.out.below (by omega)
          have e74 := leachc_any V.heap.size w5.heap.size (w5.heap.size + 2) B0 l (.slice As l.length cs) (some ⟨bF, 0, none⟩) m.length (firsts m) wr.drew (HST.out.later (Below.refl _ wr).drew).num (by rw [firsts_len]; omega) (fun x hx => by
            obtain ⟨y, hy, rfl⟩ := List.mem_map.1 hx
            have h1 := firstA_le m y
            have h2 := List.mem_range.1 hy
            omega) (blk_cells (w := wr.drew) HFR.out (by rw [show (ints (firsts m)).length = (firsts m).length by simp [ints], firsts_len]; omega))
          rw [firsts_len] at e74
          have H74 := Lib.hid e74
          clear hkl e74
          go_wp2
          refine draw (fun w' => w'.cell? ⟨w5.heap.size + 4, 0, none⟩ = some (.slice Ar mo.length cr) ∧ w'.cell? ⟨bf, 0, none⟩ = some (.slice (some ⟨bF, 0, none⟩) m.length m.length)) 7 rfl (by kernel_rfl) (fun Qd hQd => ?_)
          apply anyI_step 0 rfl (by kernel_rfl)
          focus (intro wI hI Kv hKv; have t1 := hI.1; have t2 := hI.2; go_simp; exact hKv)
          intro Kd hKd
          go_simp
          refine hKd _ ?_
          clear hKd Kd
          apply anyI_step 1 rfl (by kernel_rfl)
          focus (intro wI hI Kv hKv; have t1 := hI.1; have t2 := hI.2; go_simp; exact hKv)
          intro Kd hKd
          go_simp
          refine hKd _ ?_
          clear hKd Kd
          apply anyI_step 2 rfl (by kernel_rfl)
          focus (intro wI hI Kv hKv; have t1 := hI.1; have t2 := hI.2; go_simp; exact hKv)
          intro Kd hKd
          go_simp
          refine hKd _ ?_
          clear hKd Kd
          refine anyI_one' 3 rfl (by kernel_rfl) (⟨x2, v0⟩) (fun Kd hKd => ?_)
          go_wp2_with fail
          refine H74.out.mono ?_
          rintro e w7 ⟨C7, c7, rfl, hn7, hB7⟩
          have HN7 := Lib.hid hn7
          have hB7 : Below wr.heap.size wr w7 := (Below.refl _ wr).drew.trans hB7
          have HB7 := Lib.hid hB7
          have z2 := cell_chain hB7 x4 x2
          have z3 := cell_chain hB7 v1 v0
          have b7 := (HRV.out.below HST.out.below (by omega)).below (B := wr.heap.size) hB7 (by omega)
          have z4 := b7.cell 0 (v := .slice none 0 0) rfl
          have z5 := b7.free 0
          have z6 := b7.lt
          have HB27 := Lib.hid b7
          clear hn7 hB7 b7 x1 x2 x3 x4 x5 v0 v1
          go_wp2
          refine anyI_one' 4 rfl (by kernel_rfl) (⟨z2, z3⟩) (fun Kd hKd => ?_)
          go_wp2
          apply anyI_step 5 rfl (by kernel_rfl)
          focus (intro wI hI Kv hKv; go_simp; exact hKv)
          intro Kd hKd
          go_simp
          refine hKd _ ?_
          clear hKd Kd
          apply anyI_step 6 rfl (by kernel_rfl)
          focus (intro wI hI Kv hKv; go_simp; exact hKv)
          intro Kd hKd
          go_simp
          refine hKd _ ?_
          clear hKd Kd
          refine anyI_end (by kernel_rfl) (⟨by go_simp, by go_simp⟩) (hQd _ _ ?_)
          clear hQd Qd
          obtain ⟨X, hX⟩ : ∃ X, w7.setCell ⟨w.heap.size + 2, 0, none⟩ (.slice Ar mo.length cr) = X := ⟨_, rfl⟩
          have hF : Frame (fun b => b = w.heap.size + 2) wr X := by
            rw [← hX]
            exact (Frame.of_all (S := fun b => b = w.heap.size + 2) HB7.out).setCell (p := ⟨w.heap.size + 2, 0, none⟩) (.inl rfl) _
          have hF7 : Frame (fun b => b = w.heap.size + 2) w7 X := by
            rw [← hX]
            exact (Frame.refl (fun b => b = w.heap.size + 2) w7).setCell (p := ⟨w.heap.size + 2, 0, none⟩) (.inl rfl) _
          have bX : Blk X (w.heap.size + 2) (.cells #[.slice Ar mo.length cr] 27) := by rw [← hX]; exact HB27.out.set1 _
          have q0 := bX.cell 0 (v := .slice Ar mo.length cr) rfl
          have hl5 : (loadVar 27 ⟨w.heap.size + 2, 0, none⟩).run Try.prog X = .ok (.agg #[.slice Ar mo.length cr]) X := by go_simp
          rw [hX]
          clear hX q0
          go_wp2
          rw [HLM.out, HLC.out]
          refine bodyPost_ret (v := .tuple #[.agg #[.slice Ar mo.length cr], .slice C7 m.length c7, .int .i64 0]) (results_ctt rfl rfl rfl rfl hl5) rfl ?_
          obtain ⟨A', c', hv, hMo⟩ := (HST.out.mach.move hF (fun b _ hn e => hn (.inl (by omega))) (fun _ _ h => h) (fun g hg e => by have := (HST.out.mach.choose_spec.2.1.lt g hg).1; omega)).out (by omega)
          obtain ⟨rfl, rfl⟩ : Ar = A' ∧ cr = c' := by injection hv with h1 _ h3; exact ⟨h1, h3⟩
          refine ⟨Ar, cr, C7, c7, by rw [List.length_map, firsts_len], hMo, HN7.out.1.frame hF7 (fun _ a ha e => ?_), ?_⟩
          · have := HN7.out.2 a ha
            have hh : wr.drew.heap.size = wr.heap.size := rfl
            omega
          · exact HBVW.out.trans ((HST.out.below.mono (by omega)).trans (hF.below (fun b e => by omega) (by omega)))

theorem Least_any (n : Int) (A : Option Addr) (c : Nat) (rs : List Int) (B : Option Addr) (d : Nat) (m : Mach) (w : World) (hA : Cells w A (ints rs)) (hM : MachAt w B m) :
    Calls Try.prog 67 #[.agg #[.int .i64 n, .slice A rs.length c], .agg #[.slice B m.length d]] w fun e w' => ∃ A' c' C' d', e = .returned (.tuple #[.agg #[.slice A' (leastMR n rs m).length c'], .slice C' (leastCR n rs m).length d', .int .i64 (errI (formedA n rs m))]) ∧ MachAt w' A' (leastMR n rs m) ∧ Cells w' C' (ints (leastCR n rs m)) ∧ Below w.heap.size w w' := by
  cases hf : formedA n rs m with
  | true =>
    have e1 : leastMR n rs m = leastM m := by unfold leastMR; rw [hf]; rfl
    have e2 : leastCR n rs m = leastC m := by unfold leastCR; rw [hf]; rfl
    rw [e1, e2]
    exact Least_yes n A c rs B d m w hA hM hf
  | false =>
    have e1 : leastMR n rs m = [] := by unfold leastMR; rw [hf]; rfl
    have e2 : leastCR n rs m = [] := by unfold leastCR; rw [hf]; rfl
    rw [e1, e2]
    exact (Least_no n A c rs B d m w hA hM hf).mono fun e w' ⟨h1, h2⟩ => ⟨none, 0, none, 0, h1, ⟨[], rfl, Cells.nil _ _, by simp⟩, Cells.nil _ _, h2⟩
end Go.Proofs.Ytlnonadkdonhmaa
