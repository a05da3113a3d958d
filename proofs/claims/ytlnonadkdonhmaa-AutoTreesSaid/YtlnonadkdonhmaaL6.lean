/- Contracts and lemmas that a claim of this seat uses. -/
import Derived.Test.YtlnonadkdonhmaaL5
import Derived.Test.YtlnonadkdonhmaaL3
import Derived.OwnWalk
import Derived.Test.YtlnonadkdonhmaaL1

/- What the table of rounds says, in plain words. -/
namespace Go.Proofs.Ytlnonadkdonhmaa
open Go.RowKit Go.Maps

def rulesEq (xs ys : List AAct) : Prop := ∀ (c : Nat) (x y : AAct), xs[c]? = some x → ys[c]? = some y → x.rule = y.rule
def hitAt (t : Tbl) (v : Int) (xs ys : List AAct) : Prop := ∃ (c : Nat) (x y : AAct) (k : Nat) (p : Int × Int), xs[c]? = some x ∧ ys[c]? = some y ∧ (x.next.zip y.next)[k]? = some p ∧ tget t (bothI p.1 p.2) = some (v - 1)

theorem rulesEq.swap {xs ys : List AAct} (h : rulesEq xs ys) : rulesEq ys xs := fun c x y hx hy => (h c y x hy hx).symm
theorem bothI_swap (a b : Int) : bothI a b = bothI b a := by unfold bothI; rw [Int.min_comm, Int.max_comm]
theorem hitAt.swap {t : Tbl} {v : Int} {xs ys : List AAct} (h : hitAt t v xs ys) : hitAt t v ys xs := by
  obtain ⟨c, x, y, k, p, hx, hy, hp, ht⟩ := h
  refine ⟨c, y, x, k, (p.2, p.1), hy, hx, ?_, by rw [bothI_swap]; exact ht⟩
  obtain ⟨p1, p2⟩ := p
  rw [List.getElem?_zip_eq_some] at hp ⊢
  exact ⟨hp.2, hp.1⟩
theorem hitAt.mono {t t' : Tbl} {v : Int} {xs ys : List AAct} (h : hitAt t v xs ys) (ht : ∀ p v, tget t p = some v → tget t' p = some v) : hitAt t' v xs ys := by
  obtain ⟨c, x, y, k, p, hx, hy, hp, h1⟩ := h
  exact ⟨c, x, y, k, p, hx, hy, hp, ht _ _ h1⟩
theorem hitAt.cons {t : Tbl} {v : Int} {x y : AAct} {xs ys : List AAct} (h : hitAt t v xs ys) : hitAt t v (x :: xs) (y :: ys) := by
  obtain ⟨c, a, b, k, p, hx, hy, hp, ht⟩ := h
  exact ⟨c + 1, a, b, k, p, by simpa using hx, by simpa using hy, hp, ht⟩

theorem toldL_one : ∀ {xs ys : List AAct}, toldL 1 [] xs ys = false → rulesEq xs ys
  | [], _, _ => fun c x y hx _ => by simp at hx
  | _ :: _, [], _ => fun c x y _ hy => by simp at hy
  | a :: xs, b :: ys, h => by
    unfold toldL at h
    split at h
    · rename_i hr
      have hn : (a.next.zip b.next).any (hitP 1 []) = false := by
        rw [List.any_eq_false]
        intro p _
        simp [hitP, tget]
      rw [hn] at h
      have ih := toldL_one (xs := xs) (ys := ys) (by simpa using h)
      intro c x y hx hy
      cases c with
      | zero =>
        simp at hx hy
        rw [← hx, ← hy]; exact hr
      | succ c => exact ih c x y (by simpa using hx) (by simpa using hy)
    · simp at h

theorem toldL_hit {n : Int} {t : Tbl} (hn : n ≠ 1) : ∀ {xs ys : List AAct}, toldL n t xs ys = true → hitAt t n xs ys
  | [], _, h => by simp [toldL] at h
  | _ :: _, [], h => by simp [toldL] at h
  | a :: xs, b :: ys, h => by
    unfold toldL at h
    split at h
    · split at h
      · rename_i hany
        obtain ⟨p, hp, hh⟩ := List.any_eq_true.1 hany
        obtain ⟨k, hk⟩ := List.getElem?_of_mem hp
        simp only [hitP, Bool.and_eq_true] at hh
        obtain ⟨⟨_, h1⟩, h2⟩ := hh
        obtain ⟨v, hv⟩ := Option.isSome_iff_exists.1 h1
        rw [hv] at h2
        have hvn : v = n - 1 := by simpa using h2
        exact ⟨0, a, b, k, p, rfl, rfl, hk, by rw [hv, hvn]⟩
      · exact (toldL_hit hn h).cons
    · have : n = 1 := by simpa using h
      exact absurd this hn

theorem least_found (rs : List Int) {left : Int} {t : Tbl} (hl : left ≠ 1) : ∀ {xs ys : List AAct} (c0 : Nat), hitAt t left xs ys →
    ∃ (i : Nat) (x y : AAct) (keep : Int) (k : Nat) (p : Int × Int), leastL rs left t c0 xs ys = (⟨((c0 + i : Nat) : Int), keep⟩, k) ∧ xs[i]? = some x ∧ ys[i]? = some y ∧ (x.next.zip y.next)[k]? = some p ∧ tget t (bothI p.1 p.2) = some (left - 1)
  | [], _, _, ⟨c, x, y, k, p, hx, _⟩ => by simp at hx
  | _ :: _, [], _, ⟨c, x, y, k, p, _, hy, _⟩ => by simp at hy
  | a :: xs, b :: ys, c0, h => by
    cases hf : (a.next.zip b.next).findIdx? (hitL left t) with
    | some k =>
      have e : leastL rs left t c0 (a :: xs) (b :: ys) = (⟨(c0 : Int), keepX rs a c0 k⟩, k) := by rw [leastL, if_neg hl, hf]
      rw [List.findIdx?_eq_some_iff_getElem] at hf
      obtain ⟨hk, hp, _⟩ := hf
      simp only [hitL, Bool.and_eq_true] at hp
      obtain ⟨v, hv⟩ := Option.isSome_iff_exists.1 hp.1
      have h2 := hp.2
      rw [hv] at h2
      have hvn : v = left - 1 := by simpa using h2
      exact ⟨0, a, b, keepX rs a c0 k, k, (a.next.zip b.next)[k], by simpa using e, rfl, rfl, List.getElem?_eq_getElem hk, by rw [hv, hvn]⟩
    | none =>
      have e : leastL rs left t c0 (a :: xs) (b :: ys) = leastL rs left t (c0 + 1) xs ys := by rw [leastL, if_neg hl, hf]
      have ht : hitAt t left xs ys := by
        obtain ⟨c, x, y, k, p, hx, hy, hp, h1⟩ := h
        cases c with
        | zero =>
          simp at hx hy
          subst hx hy
          have h3 := List.findIdx?_eq_none_iff.1 hf p (List.mem_of_getElem? hp)
          simp [hitL, h1] at h3
        | succ c => exact ⟨c, x, y, k, p, by simpa using hx, by simpa using hy, hp, h1⟩
      obtain ⟨i, x, y, keep, k, p, h1, h2, h3, h4, h5⟩ := least_found rs hl (c0 + 1) ht
      refine ⟨i + 1, x, y, keep, k, p, ?_, by simpa using h2, by simpa using h3, h4, h5⟩
      rw [e, h1, show c0 + 1 + i = c0 + (i + 1) by omega]

/-! ### the table -/
def rowM (m : Mach) (a : Nat) : List AAct := m.getD a []
structure TblInv (m : Mach) (n : Int) (t : Tbl) : Prop where
  eq : 2 ≤ n → ∀ a b : Nat, a < b → b < m.length → tget t ((a : Int), (b : Int)) = none → rulesEq (rowM m a) (rowM m b)
  low : ∀ p v, tget t p = some v → 1 ≤ v ∧ v < n
  hit : ∀ (a b : Nat) (v : Int), a < b → b < m.length → tget t ((a : Int), (b : Int)) = some v → v ≠ 1 → rulesEq (rowM m a) (rowM m b) ∧ hitAt t v (rowM m a) (rowM m b)

theorem tget_app {t u : Tbl} {p : Int × Int} : tget (t ++ u) p = (tget t p).or (tget u p) := by
  unfold tget
  rw [List.find?_append]
  cases List.find? (fun q => q.1 == p) t <;> simp
theorem tget_map {ps : List (Int × Int)} {n : Int} {p : Int × Int} {v : Int} (h : tget (ps.map fun q => (q, n)) p = some v) : v = n ∧ p ∈ ps := by
  unfold tget at h
  rw [Option.map_eq_some_iff] at h
  obtain ⟨q, hq, rfl⟩ := h
  have h1 := List.mem_of_find?_eq_some hq
  have h2 := List.find?_some hq
  obtain ⟨r, hr, rfl⟩ := List.mem_map.1 h1
  have : r = p := by simpa using h2
  subst this
  exact ⟨rfl, hr⟩
theorem found_of {m : Mach} {t : Tbl} {n : Int} {a b : Nat} (hab : a < b) (hb : b < m.length) (h : newP m t n b a = true) : ((a : Int), (b : Int)) ∈ foundTo m t n m.length := by
  unfold foundTo
  rw [List.mem_flatMap]
  refine ⟨b, List.mem_range.2 hb, ?_⟩
  unfold rowF
  exact List.mem_map.2 ⟨a, List.mem_filter.2 ⟨List.mem_range.2 hab, h⟩, rfl⟩
theorem found_new {m : Mach} {t : Tbl} {n : Int} {a b : Nat} (h : ((a : Int), (b : Int)) ∈ foundTo m t n m.length) : newP m t n b a = true := by
  unfold foundTo at h
  rw [List.mem_flatMap] at h
  obtain ⟨b', _, h⟩ := h
  unfold rowF at h
  obtain ⟨a', ha', e⟩ := List.mem_map.1 h
  injection e with e1 e2
  have e3 : a' = a := by omega
  have e4 : b' = b := by omega
  subst e3 e4
  exact (List.mem_filter.1 ha').2

theorem TblInv.step {m : Mach} {n : Int} {t : Tbl} (h : TblInv m n t) (hn : 1 ≤ n) (h1 : n = 1 → t = []) : TblInv m (n + 1) (t ++ (foundTo m t n m.length).map fun q => (q, n)) := by
  have hmono : ∀ p v, tget t p = some v → tget (t ++ (foundTo m t n m.length).map fun q => (q, n)) p = some v := fun p v hp => by rw [tget_app, hp]; rfl
  refine ⟨fun _ a b hab hb hnone => ?_, fun p v hp => ?_, fun a b v hab hb hv hv1 => ?_⟩
  · rw [tget_app, Option.or_eq_none_iff] at hnone
    by_cases e : n = 1
    · have ht := h1 e
      subst e ht
      have hnp : newP m [] 1 b a = false := by
        cases hh : newP m [] 1 b a
        · rfl
        · have hm := found_of hab hb hh
          exact absurd hnone.2 (fun hh2 => by
            rw [tget_none, fst_map] at hh2
            exact hh2 hm)
      have hx : (tget [] ((a : Int), (b : Int))) = none := rfl
      unfold newP at hnp
      rw [hx] at hnp
      exact toldL_one (by simpa [toldI, rowM] using hnp)
    · exact h.eq (by omega) a b hab hb hnone.1
  · rw [tget_app] at hp
    cases hx : tget t p with
    | some u =>
      rw [hx] at hp
      have : u = v := by simpa using hp
      subst this
      have := h.low p u hx
      omega
    | none =>
      rw [hx] at hp
      have hq : tget ((foundTo m t n m.length).map fun q => (q, n)) p = some v := by simpa using hp
      have := (tget_map hq).1
      omega
  · rw [tget_app] at hv
    cases hx : tget t ((a : Int), (b : Int)) with
    | some u =>
      rw [hx] at hv
      have : u = v := by simpa using hv
      subst this
      obtain ⟨h3, h4⟩ := h.hit a b u hab hb hx hv1
      exact ⟨h3, h4.mono hmono⟩
    | none =>
      rw [hx] at hv
      obtain ⟨rfl, hm⟩ := tget_map (n := n) (by simpa using hv)
      have hnp := found_new hm
      unfold newP at hnp
      simp only [Bool.and_eq_true] at hnp
      exact ⟨h.eq (by omega) a b hab hb hx, (toldL_hit hv1 (by simpa [toldI, rowM] using hnp.2)).mono hmono⟩

theorem roundsGo_inv {m : Mach} : ∀ (f : Nat) (n : Int) (t : Tbl), TblInv m n t → 1 ≤ n → (n = 1 → t = []) → ∃ n', TblInv m n' (roundsGo m f n t) ∧ n' ≤ n + f
  | 0, n, t, h, _, _ => ⟨n, h, by omega⟩
  | f + 1, n, t, h, hn, h1 => by
    unfold roundsGo
    cases hf : foundTo m t n m.length with
    | nil => exact ⟨n, h, by omega⟩
    | cons p ps =>
      have hs := h.step hn h1
      rw [hf] at hs
      obtain ⟨n', h2, h3⟩ := roundsGo_inv f (n + 1) _ hs (by omega) (by omega)
      exact ⟨n', h2, by omega⟩
theorem roundsA_inv (m : Mach) : ∃ n, TblInv m n (roundsA m) ∧ n ≤ 4201 := by
  obtain ⟨n', h1, h2⟩ := roundsGo_inv (m := m) 4200 1 [] ⟨fun h => by omega, fun p v h => by simp [tget] at h, fun a b v _ _ h => by simp [tget] at h⟩ (by omega) (fun _ => rfl)
  exact ⟨n', h1, by omega⟩

/-- What is known of a pair of states, in any order. -/
theorem pair_known {m : Mach} {p q : Nat} {v : Int} (hp : p < m.length) (hq : q < m.length) (hne : p ≠ q ∨ True) (h : tget (roundsA m) (bothI p q) = some v) (hok : TblOk m.length (roundsA m)) :
    1 ≤ v ∧ v ≤ 4200 ∧ (v ≠ 1 → rulesEq (rowM m p) (rowM m q) ∧ hitAt (roundsA m) v (rowM m p) (rowM m q)) := by
  obtain ⟨n, hinv, hn⟩ := roundsA_inv m
  have hlow := hinv.low _ _ h
  refine ⟨hlow.1, by omega, fun hv => ?_⟩
  rcases Nat.lt_trichotomy p q with hpq | hpq | hpq
  · have e : bothI p q = ((p : Int), (q : Int)) := by unfold bothI; congr 1 <;> omega
    rw [e] at h
    exact hinv.hit p q v hpq hq h hv
  · subst hpq
    exfalso
    have e : bothI p p = ((p : Int), (p : Int)) := by unfold bothI; congr 1 <;> omega
    rw [e] at h
    have hm : ((p : Int), (p : Int)) ∈ (roundsA m).map (·.1) := by
      apply Classical.byContradiction
      intro hc
      rw [tget_none.2 hc] at h
      cases h
    obtain ⟨r, hr, hre⟩ := List.mem_map.1 hm
    obtain ⟨a, b, h3, h4, _⟩ := hok.all r hr
    rw [h3] at hre
    injection hre with e1 e2
    omega
  · have e : bothI p q = ((q : Int), (p : Int)) := by unfold bothI; congr 1 <;> omega
    rw [e] at h
    obtain ⟨h3, h4⟩ := hinv.hit q p v hpq hp h hv
    exact ⟨h3.swap, h4.swap⟩

theorem roundsGo_ok {m : Mach} : ∀ (f : Nat) (n : Int) (t : Tbl), TblOk m.length t → TblOk m.length (roundsGo m f n t)
  | 0, _, _, h => h
  | f + 1, n, t, h => by
    unfold roundsGo
    cases hf : foundTo m t n m.length with
    | nil => exact h
    | cons p ps => exact roundsGo_ok f (n + 1) _ (h.add (by rw [hf]; exact List.prefix_refl _))
theorem roundsA_ok (m : Mach) : TblOk m.length (roundsA m) := roundsGo_ok _ _ _ (TblOk.nil _)
end Go.Proofs.Ytlnonadkdonhmaa

/- Contract: Apart of the program. -/
namespace Go.Proofs.Ytlnonadkdonhmaa
open Go.RowKit Go.Maps

def stepS (m : Mach) (p : Nat) (r : Lt × Nat) : Nat := (((rowM m p).getD r.1.ch.toNat ⟨0, []⟩).next.getD r.2 0).toNat
def wordA (rs : List Int) (m : Mach) (t : Tbl) : Nat → Nat → Nat → List Lt
  | 0, _, _ => []
  | L + 1, p, q => let r := leastI rs m p q ((L : Int) + 1) t; r.1 :: wordA rs m t L (stepS m p r) (stepS m q r)
def apartA (n : Int) (rs : List Int) (m : Mach) (a b : Int) : List Lt × Bool × Int :=
  if isStateA n rs m a && isStateA n rs m b then
    match tget (roundsA m) (bothI a b) with
    | none => ([], false, 0)
    | some L => (wordA rs m (roundsA m) L.toNat a.toNat b.toNat, true, 0)
  else ([], false, 2)

theorem wordA_len (rs : List Int) (m : Mach) (t : Tbl) : ∀ L p q, (wordA rs m t L p q).length = L
  | 0, _, _ => rfl
  | L + 1, p, q => by simp [wordA, wordA_len rs m t L]

set_option maxRecDepth 100000 in
set_option maxHeartbeats 8000000 in
theorem Apart_no (n : Int) (A : Option Addr) (c : Nat) (rs : List Int) (B : Option Addr) (d : Nat) (m : Mach) (a b : Int) (w : World) (hA : Cells w A (ints rs)) (hM : MachAt w B m) (h : (isStateA n rs m a && isStateA n rs m b) = false) :
    Calls Try.prog 33 #[.agg #[.int .i64 n, .slice A rs.length c], .agg #[.slice B m.length d], .int .i64 a, .int .i64 b] w fun e w' => e = .returned (.tuple #[.slice none 0 0, .bool false, .int .i64 2]) ∧ Below w.heap.size w w' := by
  have HB2 := Lib.hid (gbox_below w n A rs.length c B m.length d)
  have HA2 := Lib.hid (hA.below HB2.out (Nat.le_refl _))
  have HM2 := Lib.hid (hM.below HB2.out (Nat.le_refl _))
  by_cases ha : isStateA n rs m a = true
  · have hb : isStateA n rs m b = false := by rw [ha] at h; simpa using h
    have HIA := Lib.hid ha
    have HIB := Lib.hid hb
    clear h ha hb
    go_enter Try.func33, Try.ntmps33
    go_wp2_with (first
      | (go_at_call 79; refine (isState_any n A c rs B d m b w1 (HA2.out.below hB1 (Nat.le_refl _)) (HM2.out.below hB1 (Nat.le_refl _))).mono ?_; rintro e w2 ⟨rfl, hB2⟩; rw [HIB.out])
      | (go_at_call 79; go_must (refine (isState_any n A c rs B d m a _ HA2.out HM2.out).mono ?_); rintro e w1 ⟨rfl, hB1⟩; rw [HIA.out]; have g0 := cell_chain (b := w.heap.size) (i := 0) (v := .int .i64 n) hB1 (by simp <;> omega) (by go_simp); have g1 := cell_chain (b := w.heap.size) (i := 1) (v := .slice A rs.length c) hB1 (by simp <;> omega) (by go_simp); have g2 := cell_chain (b := w.heap.size + 1) (i := 0) (v := .slice B m.length d) hB1 (by simp <;> omega) (by go_simp)))
    refine bodyPost_ret (v := .tuple #[.slice none 0 0, .bool false, .int .i64 2]) (results_ttt rfl rfl rfl rfl) rfl ⟨rfl, HB2.out.trans ((hB1.mono (by simp <;> omega)).trans (hB2.mono (by have := hB1.size; simp at this; omega)))⟩
  · simp only [Bool.not_eq_true] at ha
    have HIA := Lib.hid ha
    clear h ha
    go_enter Try.func33, Try.ntmps33
    go_wp2_with (go_at_call 79; go_must (refine (isState_any n A c rs B d m a _ HA2.out HM2.out).mono ?_); rintro e w1 ⟨rfl, hB1⟩; rw [HIA.out])
    refine bodyPost_ret (v := .tuple #[.slice none 0 0, .bool false, .int .i64 2]) (results_ttt rfl rfl rfl rfl) rfl ⟨rfl, HB2.out.trans (hB1.mono (by simp <;> omega))⟩

set_option maxRecDepth 100000 in
set_option maxHeartbeats 8000000 in
theorem Apart_yes (n : Int) (A : Option Addr) (c : Nat) (rs : List Int) (B : Option Addr) (d : Nat) (m : Mach) (a b : Nat) (w : World) (hA : Cells w A (ints rs)) (hM : MachAt w B m) (ha : isStateA n rs m a = true) (hb : isStateA n rs m b = true) :
    Calls Try.prog 33 #[.agg #[.int .i64 n, .slice A rs.length c], .agg #[.slice B m.length d], .int .i64 (a : Int), .int .i64 (b : Int)] w fun e w' => ∃ A' c', e = .returned (.tuple #[.slice A' (apartA n rs m a b).1.length c', .bool (apartA n rs m a b).2.1, .int .i64 (apartA n rs m a b).2.2]) ∧ Cells w' A' (lts (apartA n rs m a b).1) ∧ Below w.heap.size w w' := by
  have HB2 := Lib.hid (gbox_below w n A rs.length c B m.length d)
  have HA2 := Lib.hid (hA.below HB2.out (Nat.le_refl _))
  have HM2 := Lib.hid (hM.below HB2.out (Nat.le_refl _))
  obtain ⟨HF, hal, hbl⟩ : Hid (formedA n rs m = true) ∧ a < m.length ∧ b < m.length := by
    simp only [isStateA, stateB, Bool.and_eq_true, decide_eq_true_eq] at ha hb
    exact ⟨ha.1, by omega, by omega⟩
  have hml : m.length ≤ 64 := by
    have h := HF.out
    simp only [formedA, Bool.and_eq_true, decide_eq_true_eq] at h
    exact h.1.2
  have HIA := Lib.hid ha
  have HIB := Lib.hid hb
  clear ha hb
  obtain ⟨t, HT⟩ : ∃ t, Hid (roundsA m = t) := ⟨_, rfl⟩
  obtain ⟨mn, mx, HQ⟩ : ∃ mn mx, Hid (bothI a b = (mn, mx)) := ⟨_, _, rfl⟩
  have hq1 : min (a : Int) b = mn := congrArg Prod.fst HQ.out
  have hq2 : max (a : Int) b = mx := congrArg Prod.snd HQ.out
  have HRG : Hid (rng mn ∧ rng mx) := (by constructor <;> unfold rng <;> omega)
  have HQ1 := Lib.hid hq1
  have HQ2 := Lib.hid hq2
  clear hq1 hq2
  cases hget : tget t (mn, mx) with
  | none =>
    have HAP : Hid (apartA n rs m a b = ([], false, 0)) := by
      show _ = _
      unfold apartA
      rw [HIA.out, HIB.out, HT.out, HQ.out, hget]
      rfl
    rw [HAP.out]
    go_enter Try.func33, Try.ntmps33
    go_wp2_with (first
      | (go_at_call 79; refine (isState_any n A c rs B d m b w1 (HA2.out.below hB1 (Nat.le_refl _)) (HM2.out.below hB1 (Nat.le_refl _))).mono ?_; rintro e w2 ⟨rfl, hB2⟩; rw [HIB.out]; have e2 := cell_chain hB2 (by omega) g2; have hB12 := hB1.trans (hB2.mono (by have := hB1.size; omega)); have hs2 := hB2.size)
      | (go_at_call 79; go_must (refine (isState_any n A c rs B d m a _ HA2.out HM2.out).mono ?_); rintro e w1 ⟨rfl, hB1⟩; rw [HIA.out]; have g0 := cell_chain (b := w.heap.size) (i := 0) (v := .int .i64 n) hB1 (by simp <;> omega) (by go_simp); have g1 := cell_chain (b := w.heap.size) (i := 1) (v := .slice A rs.length c) hB1 (by simp <;> omega) (by go_simp); have g2 := cell_chain (b := w.heap.size + 1) (i := 0) (v := .slice B m.length d) hB1 (by simp <;> omega) (by go_simp); have hs1 := hB1.size; simp only [gbox_size] at hs1)
      | (go_at_call 84; go_must (refine (rounds_any n rs B d m w2 (HM2.out.below hB12 (Nat.le_refl _)) HF.out).mono ?_); rintro e w3 ⟨bt, rfl, htb, hbt, hB3⟩; rw [HT.out] at htb; have hs3 := hB3.size)
      | (go_at_call 85; go_must (refine (both_any a b w3).mono ?_); rintro e w4 ⟨rfl, hB4⟩; rw [HQ1.out, HQ2.out]; have hlk := tbl_look (htb.frame (Frame.of_all (S := fun _ => False) hB4) (fun h => h)) HRG.out.1 HRG.out.2; rw [hget] at hlk; simp only [Option.getD_none, Option.isSome_none] at hlk))
    refine bodyPost_ret (v := .tuple #[.slice none 0 0, .bool false, .int .i64 0]) (results_ttt rfl rfl rfl rfl) rfl ⟨none, 0, rfl, Cells.nil _ _, ?_⟩
    exact ((HB2.out.trans (hB12.mono (by simp <;> omega))).trans (hB3.mono (by omega))).trans (hB4.mono (by omega))
  | some L =>
    have HPK := Lib.hid (pair_known (m := m) (p := a) (q := b) (v := L) hal hbl (.inr trivial) (by rw [HT.out, HQ.out]; exact hget) (roundsA_ok m))
    have hL0 := HPK.out.1
    have hL1 := HPK.out.2.1
    obtain ⟨N, rfl⟩ := Int.eq_ofNat_of_zero_le (a := L) (by omega)
    have HAP : Hid (apartA n rs m a b = (wordA rs m t N a b, true, 0)) := by
      show _ = _
      unfold apartA
      rw [HIA.out, HIB.out, HT.out, HQ.out, hget]
      rfl
    rw [HAP.out]
    have HGET := Lib.hid hget
    simp only [wordA_len]
    go_enter Try.func33, Try.ntmps33
    go_wp2_with (first
      | (go_at_call 79; refine (isState_any n A c rs B d m b w1 (HA2.out.below hB1 (Nat.le_refl _)) (HM2.out.below hB1 (Nat.le_refl _))).mono ?_; rintro e w2 ⟨rfl, hB2⟩; rw [HIB.out]; have e2 := cell_chain hB2 (by omega) g2; have hB12 := hB1.trans (hB2.mono (by have := hB1.size; omega)); have hs2 := hB2.size)
      | (go_at_call 79; go_must (refine (isState_any n A c rs B d m a _ HA2.out HM2.out).mono ?_); rintro e w1 ⟨rfl, hB1⟩; rw [HIA.out]; have g0 := cell_chain (b := w.heap.size) (i := 0) (v := .int .i64 n) hB1 (by simp <;> omega) (by go_simp); have g1 := cell_chain (b := w.heap.size) (i := 1) (v := .slice A rs.length c) hB1 (by simp <;> omega) (by go_simp); have g2 := cell_chain (b := w.heap.size + 1) (i := 0) (v := .slice B m.length d) hB1 (by simp <;> omega) (by go_simp); have hs1 := hB1.size; simp only [gbox_size] at hs1)
      | (go_at_call 84; go_must (refine (rounds_any n rs B d m w2 (HM2.out.below hB12 (Nat.le_refl _)) HF.out).mono ?_); rintro e w3 ⟨bt, rfl, htb, hbt, hB3⟩; rw [HT.out] at htb; have hs3 := hB3.size)
      | (go_at_call 85; go_must (refine (both_any a b w3).mono ?_); rintro e w4 ⟨rfl, hB4⟩; rw [HQ1.out, HQ2.out]; have hlk := tbl_look (htb.frame (Frame.of_all (S := fun _ => False) hB4) (fun h => h)) HRG.out.1 HRG.out.2; rw [hget] at hlk; simp only [Option.getD_some, Option.isSome_some] at hlk))
    have HTB := Lib.hid (htb.frame (Frame.of_all (S := fun _ => False) hB4) (fun h => h))
    have hB04 : Below (w.heap.size + 2) (gbox w n A rs.length c B m.length d) w4 := ((hB12.mono (by simp)).trans (hB3.mono (by omega))).trans (hB4.mono (by omega))
    have hbt4 := HTB.out.lt
    clear hlk hget g0 g1 g2 e2
    go_loopw [2, 3, 12, 14] (fun pv qv lv v wr => ∃ (L p q : Nat) (pre : List Lt), pv = .int .i64 (p : Int) ∧ qv = .int .i64 (q : Int) ∧ lv = .int .i64 (L : Int) ∧ p < m.length ∧ q < m.length ∧ wordA rs m t N a b = pre ++ wordA rs m t L p q ∧ (1 ≤ L → tget t (bothI p q) = some (L : Int)) ∧
        wr.ownsRow (w.heap.size + 2) 118 2 v pre.length (lts pre) ∧ TblAt wr bt t ∧ Below (w.heap.size + 2) (gbox w n A rs.length c B m.length d) wr) (fun _ _ lv _ _ => (intOf lv).toNat)
    case atStart => exact ⟨N, a, b, [], rfl, rfl, rfl, hal, hbl, rfl, fun _ => by rw [HQ.out]; exact HGET.out, World.ownsRow_nil _ _ _ _, HTB.out, hB04⟩
    case round =>
      obtain ⟨L, p, q, pre, rfl, rfl, rfl, hp, hq, hword, hkn, hown, htbl, hB⟩ := hrel
      have HWD := Lib.hid hword
      have HKN := Lib.hid hkn
      have HTR := Lib.hid htbl
      have hlen : pre.length + L = N := by
        have e := congrArg List.length hword
        rw [wordA_len, List.length_append, wordA_len] at e
        omega
      have hszr : w.heap.size + 2 ≤ wr.heap.size := by have h := hB.size; rw [gbox_size] at h; exact h
      have hz0 : w.heap.size < wr.heap.size := by omega
      have hz1 : w.heap.size + 1 < wr.heap.size := by omega
      have g0 := cell_chain (b := w.heap.size) (i := 0) (v := .int .i64 n) hB (by omega) (by go_simp)
      have g1 := cell_chain (b := w.heap.size) (i := 1) (v := .slice A rs.length c) hB (by omega) (by go_simp)
      have g2 := cell_chain (b := w.heap.size + 1) (i := 0) (v := .slice B m.length d) hB (by omega) (by go_simp)
      clear hword hkn htbl
      cases L with
      | zero =>
        obtain ⟨A', c', rfl, hcs⟩ := own_out hown (by rw [lts, flat_len ltCells_len]; omega)
        go_wp2
        refine bodyPost_ret (v := .tuple #[.slice A' pre.length c', .bool true, .int .i64 0]) (results_ttt rfl rfl rfl rfl) rfl ?_
        have e : wordA rs m t N a b = pre := by rw [HWD.out]; simp [wordA]
        rw [e]
        exact ⟨A', c', by rw [show N = pre.length by omega], hcs, HB2.out.trans (hB.mono (by omega))⟩
      | succ l =>
        have hget2 := HKN.out (by omega)
        have hpk := pair_known (m := m) (p := p) (q := q) (v := ((l + 1 : Nat) : Int)) hp hq (.inr trivial) (by rw [HT.out]; exact hget2) (roundsA_ok m)
        have hv1 : ((l + 1 : Nat) : Int) = (l : Int) + 1 := by omega
        rw [hv1] at hpk hget2
        have HPQ := Lib.hid hpk
        obtain ⟨rc, rk, kk, HR⟩ : ∃ rc rk kk, Hid (leastI rs m p q ((l : Int) + 1) t = (⟨rc, rk⟩, kk)) := ⟨_, _, _, rfl⟩
        have HW1 : Hid (wordA rs m t N a b = (pre ++ [⟨rc, rk⟩]) ++ wordA rs m t l (stepS m p (⟨rc, rk⟩, kk)) (stepS m q (⟨rc, rk⟩, kk))) := by
          show _ = _
          rw [HWD.out, wordA]
          simp only [HR.out]
          simp
        have HAr := Lib.hid (HA2.out.below hB (by rw [gbox_size]; exact Nat.le_refl _))
        have HMr := Lib.hid (HM2.out.below hB (by rw [gbox_size]; exact Nat.le_refl _))
        clear hpk hget2 hv1
        have hl5 : l ≤ 4200 := by omega
        cases l with
        | zero =>
          have HR1 : Hid (leastI rs m p q 1 t = (⟨rc, rk⟩, kk)) := by
            show _ = _
            have e := HR.out
            simpa using e
          go_wp2_with (first
            | (go_at_call 86; go_must (refine (least_any n A c rs B d m p q 1 bt t wr HAr.out HMr.out HF.out hp hq (by omega) (by omega) HTR.out (fun h => absurd rfl h)).mono ?_); rintro e w5 ⟨rfl, hB5⟩; rw [HR1.out]; have hown5 := (own_frame hown (Frame.of_all (S := fun _ => False) hB5) (fun _ _ h => h)).alloc (.cells #[.int .i64 rc, .int .i64 rk] 118); have hsz5 := hB5.size)
            | (at_builtin; go_must (refine wpList_app1' rLt _ rfl _ _ rfl hown5 rfl [_, _] 1 (by simp [Act.eval]) rfl (by simp [Value.oneCell']) (by omega) (by simp <;> omega) ?_); intro v6 w6 hown6 hB6 hg6 hloc6))
          go_roundw
          case rel =>
            refine ⟨0, p, q, pre ++ [⟨rc, rk⟩], rfl, rfl, rfl, hp, hq, ?_, fun h => by omega, ?_, ?_, ?_⟩
            · rw [HW1.out]; rfl
            · simpa [lts, ltCells] using hown6
            · exact ((HTR.out.frame (Frame.of_all (S := fun _ => False) hB5) (fun h => h)).alloc _).frame (Frame.of_grown hg6) (fun e => ((HTR.out.frame (Frame.of_all (S := fun _ => False) hB5) (fun h => h)).alloc _).not_own hown5 e)
            · exact ((hB.trans (hB5.mono (by omega))).alloc (by omega) _).trans hB6
          case measure => simp [intOf]
        | succ l' =>
          have HR1 : Hid (leastI rs m p q ((l' : Int) + 1 + 1) t = (⟨rc, rk⟩, kk)) := by
            show _ = _
            have e := HR.out
            simpa using e
          obtain ⟨hre, hhit⟩ := HPQ.out.2.2 (by omega)
          have HRE := Lib.hid hre
          obtain ⟨i, x, y, keep, k, pp, hlf, hxi, hyi, hzp, htg⟩ := least_found rs (left := (((l' + 1 : Nat) : Int) + 1)) (t := t) (by omega) 0 (by rw [← HT.out]; exact hhit)
          obtain ⟨hrc, hkk⟩ : rc = (i : Int) ∧ kk = k := by
            have e1 := HR.out
            unfold leastI at e1
            have e2 : leastL rs (((l' + 1 : Nat) : Int) + 1) t 0 (m.getD p []) (m.getD q []) = (⟨((0 + i : Nat) : Int), keep⟩, k) := hlf
            rw [e2] at e1
            injection e1 with e3 e4
            injection e3 with e5 _
            exact ⟨by rw [← e5]; simp, e4.symm⟩
          subst hrc hkk
          obtain ⟨r1, E1, f1, b1, o1, hr1, hb1, hix1, hc1, ha1⟩ := mach_at (c := d) HM2.out hp
          obtain ⟨r2, E2, f2, b2, o2, hr2, hb2, hix2, hc2, ha2⟩ := mach_at (c := d) HM2.out hq
          have hrx : rowM m p = r1 := by simp [rowM, List.getD, hr1]
          have hry : rowM m q = r2 := by simp [rowM, List.getD, hr2]
          rw [hrx] at hxi
          rw [hry] at hyi
          have hil : i < r1.length := (List.getElem?_eq_some_iff.1 hxi).1
          have hil2 : i < r2.length := (List.getElem?_eq_some_iff.1 hyi).1
          obtain ⟨x', D1, p1, c1, q1, hx1, hcb1, hjx1, _, hnx1, hnx⟩ := acts_at (c := f1) ha1 hil
          obtain ⟨y', D2, p2, c2, q2, hy1, hcb2, hjx2, _, hny1, hny⟩ := acts_at (c := f2) ha2 hil2
          obtain rfl : x = x' := by rw [hxi] at hx1; injection hx1
          obtain rfl : y = y' := by rw [hyi] at hy1; injection hy1
          obtain ⟨px, py⟩ := pp
          rw [List.getElem?_zip_eq_some] at hzp
          obtain ⟨hzx, hzy⟩ := hzp
          obtain ⟨xv, b3, o3, hxv, hb3, hix3, hc3⟩ := ints_at (c := p1) hnx Try.underlying22 szInt (List.getElem?_eq_some_iff.1 hzx).1
          obtain ⟨yv, b4, o4, hyv, hb4, hix4, hc4⟩ := ints_at (c := p2) hny Try.underlying22 szInt (List.getElem?_eq_some_iff.1 hzy).1
          obtain rfl : px = xv := by rw [hzx] at hxv; injection hxv
          obtain rfl : py = yv := by rw [hzy] at hyv; injection hyv
          obtain ⟨r1', hr1', _, hxa'⟩ := row_of HF.out hp
          obtain rfl : r1 = r1' := by rw [hr1] at hr1'; injection hr1'
          obtain ⟨r2', hr2', _, hya'⟩ := row_of HF.out hq
          obtain rfl : r2 = r2' := by rw [hr2] at hr2'; injection hr2'
          have hpx := next_mem (allTo_at hxa' hxi hil) (List.mem_of_getElem? hzx)
          have hpy := next_mem (allTo_at hya' hyi hil2) (List.mem_of_getElem? hzy)
          obtain ⟨pn, rfl⟩ := Int.eq_ofNat_of_zero_le hpx.1
          obtain ⟨qn, rfl⟩ := Int.eq_ofNat_of_zero_le hpy.1
          have HSP : Hid (stepS m p (⟨(i : Int), rk⟩, kk) = pn) := by
            show _ = _
            unfold stepS
            rw [hrx]
            simp [List.getD, hxi, hzx]
          have HSQ : Hid (stepS m q (⟨(i : Int), rk⟩, kk) = qn) := by
            show _ = _
            unfold stepS
            rw [hry]
            simp [List.getD, hyi, hzy]
          have HTG := Lib.hid htg
          rw [gbox_size] at hb1 hb2 hcb1 hcb2 hb3 hb4
          clear hr1 hr2 hrx hry hxi hyi hx1 hy1 hzx hzy hxv hyv hr1' hr2' hxa' hya' htg hlf hre hhit hil hil2
          go_wp2_with (first
            | (go_at_call 86; go_must (refine (least_any n A c rs B d m p q ((l' : Int) + 1 + 1) bt t wr HAr.out HMr.out HF.out hp hq (by omega) (by omega) HTR.out (fun _ c x y hx hy => HRE.out c x y hx hy)).mono ?_); rintro e w5 ⟨rfl, hB5⟩; rw [HR1.out]; have hown5 := (own_frame hown (Frame.of_all (S := fun _ => False) hB5) (fun _ _ h => h)).alloc (.cells #[.int .i64 (i : Int), .int .i64 rk] 118); have hsz5 := hB5.size; have bx5 := Blk.new w5 (.cells #[.int .i64 (i : Int), .int .i64 rk] 118))
            | (at_builtin; go_must (refine wpList_app1' rLt _ rfl _ _ rfl hown5 rfl [_, _] 1 (by simp [Act.eval]) rfl (by simp [Value.oneCell']) (by omega) (by simp <;> omega) ?_); intro v6 w6 hown6 hB6 hg6 hloc6; have hB06 : Below (w.heap.size + 2) (gbox w n A rs.length c B m.length d) w6 := ((hB.trans (hB5.mono (by omega))).alloc (by omega) _).trans hB6; have t0 := cell_chain (b := w.heap.size + 1) (i := 0) (v := .slice B m.length d) hB06 (by omega) (by go_simp); have t1 := cell_chain hB06 hb1 hc1; have t2 := cell_chain hB06 hb2 hc2; have t3 := cell_chain hB06 hcb1 hnx1; have t4 := cell_chain hB06 hcb2 hny1; have t5 := cell_chain hB06 hb3 hc3; have t6 := cell_chain hB06 hb4 hc4))
          have bx6 := bx5.grown hg6 (fun e => by have := (hown.lt _ e).2; omega)
          have HT6 : Hid (TblAt w6 bt t) := ((HTR.out.frame (Frame.of_all (S := fun _ => False) hB5) (fun h => h)).alloc _).frame (Frame.of_grown hg6) (fun e => ((HTR.out.frame (Frame.of_all (S := fun _ => False) hB5) (fun h => h)).alloc _).not_own hown5 e)
          have HO6 : Hid (w6.drew.ownsRow (w.heap.size + 2) 118 2 v6 (pre.length + 1) (lts pre ++ [.int .i64 (i : Int), .int .i64 rk])) := hown6
          have t7 := bx6.cell 0 (v := .int .i64 (i : Int)) rfl
          clear g0 g1 g2
          refine sall (by kernel_rfl) (by kernel_rfl) (fun Kq hKq => ?_)
          repeat still_step
          refine wpStill_nil (hKq _ ?_)
          clear hKq Kq
          go_wp2
          go_roundw
          case rel =>
            refine ⟨l' + 1, pn, qn, pre ++ [⟨(i : Int), rk⟩], rfl, rfl, by go_num, by omega, by omega, ?_, fun _ => ?_, ?_, ?_, ?_⟩
            · rw [HW1.out, HSP.out, HSQ.out]
            · rw [HTG.out]; congr 1; omega
            · have e := HO6.out
              simpa [lts, ltCells] using e
            · exact HT6.out
            · exact hB06.drew
          case measure => simp [intOf]; omega

theorem Apart_any (n : Int) (A : Option Addr) (c : Nat) (rs : List Int) (B : Option Addr) (d : Nat) (m : Mach) (a b : Int) (w : World) (hA : Cells w A (ints rs)) (hM : MachAt w B m) :
    Calls Try.prog 33 #[.agg #[.int .i64 n, .slice A rs.length c], .agg #[.slice B m.length d], .int .i64 a, .int .i64 b] w fun e w' => ∃ A' c', e = .returned (.tuple #[.slice A' (apartA n rs m a b).1.length c', .bool (apartA n rs m a b).2.1, .int .i64 (apartA n rs m a b).2.2]) ∧ Cells w' A' (lts (apartA n rs m a b).1) ∧ Below w.heap.size w w' := by
  by_cases h : (isStateA n rs m a && isStateA n rs m b) = true
  · have h' := h
    simp only [Bool.and_eq_true] at h'
    obtain ⟨ha, hb⟩ := h'
    have ha0 : 0 ≤ a ∧ 0 ≤ b := by
      simp only [isStateA, stateB, Bool.and_eq_true, decide_eq_true_eq] at ha hb
      exact ⟨ha.2.1, hb.2.1⟩
    obtain ⟨x, rfl⟩ := Int.eq_ofNat_of_zero_le ha0.1
    obtain ⟨y, rfl⟩ := Int.eq_ofNat_of_zero_le ha0.2
    exact Apart_yes n A c rs B d m x y w hA hM ha hb
  · simp only [Bool.not_eq_true] at h
    have e : apartA n rs m a b = ([], false, 2) := by unfold apartA; rw [h]; rfl
    rw [e]
    exact (Apart_no n A c rs B d m a b w hA hM h).mono fun e w' h => ⟨none, 0, h.1, Cells.nil _ _, h.2⟩
end Go.Proofs.Ytlnonadkdonhmaa

/- Contracts: come and what it calls. -/
namespace Go.Proofs.Ytlnonadkdonhmaa
open Go.RowKit Go.Maps

def badC (n x : Int) : Bool := decide (x < 0) || decide (n ≤ x)

set_option maxRecDepth 100000 in
set_option maxHeartbeats 1000000 in
theorem come1_any (n x : Int) (b : Nat) (w : World) (hc : w.cell? ⟨b, 0, none⟩ = some (.int .i64 n)) :
    Calls Try.prog 118 #[.int .i64 x, .pointer (some ⟨b, 0, none⟩)] w fun e w' => e = .returned (.bool (badC n x)) ∧ w = w' := by
  by_cases h : x < 0
  · have HB : Hid (badC n x = true) := by show _ = _; simp [badC, h]
    rw [HB.out]
    go_enter Try.func118, Try.ntmps118
    go_wp2
    go_ret
    exact ⟨rfl, rfl⟩
  · by_cases h2 : n ≤ x
    · have HB : Hid (badC n x = true) := by show _ = _; simp [badC, h2]
      have hd : decide (x < 0) = false := by simp <;> omega
      rw [HB.out]
      go_enter Try.func118, Try.ntmps118
      go_wp2
      go_ret
      exact ⟨rfl, rfl⟩
    · have HB : Hid (badC n x = false) := by show _ = _; simp [badC, h, h2]
      have hd : decide (x < 0) = false := by simp <;> omega
      have hd2 : decide (n ≤ x) = false := by simp <;> omega
      rw [HB.out]
      go_enter Try.func118, Try.ntmps118
      go_wp2
      go_ret
      exact ⟨rfl, rfl⟩

/-- The first place of a channel that is none; -1: there is none. -/
def idxBad (n : Int) (l : List Int) : Int := match l.findIdx? (badC n) with | some k => k | none => -1

set_option maxRecDepth 100000 in
set_option maxHeartbeats 2000000 in
theorem indexFunc_any (n : Int) (b : Nat) (l : List Int) (A : Option Addr) (c : Nat) (w : World) (hA : Cells w A (ints l)) (hc : w.cell? ⟨b, 0, none⟩ = some (.int .i64 n)) :
    Calls Try.prog 119 #[.slice A l.length c, .func (.func 118) #[] #[.pointer (some ⟨b, 0, none⟩)]] w fun e w' => e = .returned (.int .i64 (idxBad n l)) ∧ w = w' := by
  have hll : l.length ≤ 17592186043904 := by simpa [ints] using hA.1
  go_enter Try.func119, Try.ntmps119
  go_wp2
  go_loop [8] (fun i => ∃ k : Nat, k ≤ l.length ∧ i = .int .i64 k ∧ (l.take k).any (badC n) = false) (fun i => l.length - (intOf i).toNat)
  case atStart => exact ⟨0, Nat.zero_le _, rfl, rfl⟩
  case round =>
    obtain ⟨k, hk, rfl, hany⟩ := hrel
    have HAN := Lib.hid hany
    clear hany
    by_cases hlt : k < l.length
    · obtain ⟨x, bb, o, hx, hb, hix, hcx⟩ := ints_at (c := c) hA Try.underlying22 szInt hlt
      have HX := Lib.hid hx
      clear hx
      cases hbad : badC n x with
      | true =>
        have HI : Hid (idxBad n l = k) := by show _ = _; unfold idxBad; rw [findIdx_hit HAN.out HX.out hbad]
        go_wp2_with (go_at_call 118; go_must (refine (come1_any n x b w hc).mono ?_); rintro e w1 ⟨rfl, rfl⟩; rw [hbad])
        go_ret
        exact ⟨by rw [HI.out]; rfl, rfl⟩
      | false =>
        go_wp2_with (go_at_call 118; go_must (refine (come1_any n x b w hc).mono ?_); rintro e w1 ⟨rfl, rfl⟩; rw [hbad])
        go_round
        case rel => exact ⟨k + 1, by omega, by go_num, any_drop HAN.out HX.out hbad⟩
        case measure => simp [intOf]; omega
    · obtain rfl : k = l.length := by omega
      have HI : Hid (idxBad n l = -1) := by
        show _ = _
        unfold idxBad
        have e := HAN.out
        rw [List.take_length] at e
        rw [findIdx_no e]
      go_wp2
      go_ret
      exact ⟨by rw [HI.out]; rfl, rfl⟩

theorem idxBad_ge (n : Int) (l : List Int) : decide (0 ≤ idxBad n l) = l.any (badC n) := by
  unfold idxBad
  cases h : l.findIdx? (badC n) with
  | some k =>
    rw [List.findIdx?_eq_some_iff_getElem] at h
    obtain ⟨hk, hp, _⟩ := h
    rw [List.any_eq_true.2 ⟨_, List.getElem_mem hk, hp⟩]
    simp
  | none =>
    have e : l.any (badC n) = false := by
      rw [List.any_eq_false]
      intro x hx
      have := List.findIdx?_eq_none_iff.1 h x hx
      simp [this]
    rw [e]
    rfl

set_option maxRecDepth 100000 in
set_option maxHeartbeats 1000000 in
theorem containsFunc_any (n : Int) (b : Nat) (l : List Int) (A : Option Addr) (c : Nat) (w : World) (hA : Cells w A (ints l)) (hc : w.cell? ⟨b, 0, none⟩ = some (.int .i64 n)) :
    Calls Try.prog 97 #[.slice A l.length c, .func (.func 118) #[] #[.pointer (some ⟨b, 0, none⟩)]] w fun e w' => e = .returned (.bool (l.any (badC n))) ∧ w = w' := by
  go_enter Try.func97, Try.ntmps97
  go_wp2_with (go_at_call 119; go_must (refine (indexFunc_any n b l A c w hA hc).mono ?_); rintro e w1 ⟨rfl, rfl⟩)
  go_ret
  exact ⟨by rw [← idxBad_ge]; rfl, rfl⟩

def comeI (n : Int) (rs l : List Int) : Bool := grpOk n rs && decide (l.length ≤ 60) && !(l.any (badC n))

set_option maxRecDepth 100000 in
set_option maxHeartbeats 2000000 in
theorem come_any (n : Int) (A : Option Addr) (c : Nat) (rs : List Int) (D : Option Addr) (f : Nat) (l : List Int) (w : World) (hA : Cells w A (ints rs)) (hD : Cells w D (ints l)) :
    Calls Try.prog 89 #[.agg #[.int .i64 n, .slice A rs.length c], .slice D l.length f] w fun e w' => e = .returned (.bool (comeI n rs l)) ∧ Below w.heap.size w w' := by
  have HA1 := Lib.hid (hA.box0 (.cells #[.int .i64 n, .slice A rs.length c] 24))
  have HD1 := Lib.hid (hD.box0 (.cells #[.int .i64 n, .slice A rs.length c] 24))
  by_cases hg : grpOk n rs = true
  · have HG : Hid (errI (grpOk n rs) = 0) := by show _ = _; rw [hg]; rfl
    by_cases hl : 60 < l.length
    · have HI : Hid (comeI n rs l = false) := by show _ = _; simp [comeI]; omega
      have hd : decide ((60 : Int) < (l.length : Int)) = true := by simp <;> omega
      clear hg
      rw [HI.out]
      go_enter Try.func89, Try.ntmps89
      go_wp2_with (go_at_call 48; go_must (refine (check_any n A c rs _ HA1.out).mono ?_); rintro e w1 ⟨rfl, hB1⟩; rw [HG.out])
      go_ret
      exact ⟨rfl, ((Below.refl _ _).alloc (Nat.le_refl _) _).trans (hB1.mono (by simp))⟩
    · have HI : Hid (comeI n rs l = !(l.any (badC n))) := by show _ = _; simp [comeI, hg]; omega
      have hd : decide ((60 : Int) < (l.length : Int)) = false := by simp <;> omega
      clear hg
      rw [HI.out]
      go_enter Try.func89, Try.ntmps89
      go_wp2_with (first
        | (go_at_call 48; go_must (refine (check_any n A c rs _ HA1.out).mono ?_); rintro e w1 ⟨rfl, hB1⟩; rw [HG.out]; have g0 := cell_chain (b := w.heap.size) (i := 0) (v := .int .i64 n) hB1 (by simp) (by go_simp))
        | (go_at_call 97; go_must (refine (containsFunc_any n w.heap.size l D f w1 (HD1.out.below hB1 (Nat.le_refl _)) g0).mono ?_); rintro e w2 ⟨rfl, rfl⟩))
      go_ret
      exact ⟨rfl, ((Below.refl _ _).alloc (Nat.le_refl _) _).trans (hB1.mono (by simp))⟩
  · simp only [Bool.not_eq_true] at hg
    have HG : Hid (errI (grpOk n rs) = 2) := by show _ = _; rw [hg]; rfl
    have HI : Hid (comeI n rs l = false) := by show _ = _; simp [comeI, hg]
    clear hg
    rw [HI.out]
    go_enter Try.func89, Try.ntmps89
    go_wp2_with (go_at_call 48; go_must (refine (check_any n A c rs _ HA1.out).mono ?_); rintro e w1 ⟨rfl, hB1⟩; rw [HG.out])
    go_ret
    exact ⟨rfl, ((Below.refl _ _).alloc (Nat.le_refl _) _).trans (hB1.mono (by simp))⟩
end Go.Proofs.Ytlnonadkdonhmaa

/- Contracts: the queues: set, take. -/
namespace Go.Proofs.Ytlnonadkdonhmaa
open Go.RowKit Go.Maps Go.Shelf

attribute [local go_sem] Oper.semAt_some

/-- Index k of a slice that begins its block. -/
theorem ix_own {P : Program} {t e : TypeId} {b n c k : Nat} (ht : P.underlying t = some (.slice e)) (hs : (P.info? e).map (·.size) = some 1) (hk : k < n) (w' : World) :
    (Instr.indexAt t (.slice (some ⟨b, 0, none⟩) n c) (.int .i64 (k : Int))).run P w' = .ok (.pointer (some ⟨b, k, none⟩)) w' := by
  obtain ⟨i, hi, hie⟩ : ∃ i, P.info? e = some i ∧ i.size = 1 := by
    cases hx : P.info? e with
    | none => rw [hx] at hs; cases hs
    | some i => rw [hx] at hs; exact ⟨i, rfl, by simpa using hs⟩
  have hin : (0 : Int) ≤ (k : Int) ∧ (k : Int) < (n : Int) := by omega
  simp [Instr.indexAt, run_underlying ht, asIntOf, hin, sizeOf, typeInfo, hi, hie, hk]
  by_cases h0 : k = 0
  · simp [Addr.add, h0]
  · simp [Addr.add, h0]

theorem ints_get {xs : List Int} {k : Nat} {x : Int} (h : xs[k]? = some x) : (ints xs).toArray[k]? = some (.int .i64 x) := by simp [ints, h]
theorem ints_set {xs : List Int} {k : Nat} {x : Int} : (ints xs).toArray.setIfInBounds k (.int .i64 x) = (ints (xs.set k x)).toArray := by simp [ints, List.map_set]

/-- The queues in memory. -/
structure Qs (w : World) (bq bD : Nat) (n : Int) (A : Option Addr) (c : Nat) (rs many : List Int) (fv : Value) : Prop where
  q : Blk w bq (.cells #[.int .i64 n, .slice A rs.length c, .slice (some ⟨bD, 0, none⟩) many.length many.length, fv] 136)
  m : Blk w bD (.cells (ints many).toArray 3)
  r : Cells w A (ints rs)

/-- The set of the queues, the first k of them. -/
def setTo (many : List Int) : Nat → Int
  | 0 => 0
  | k + 1 => if 0 < many.getD k 0 then bits BinOp.or .i64 (setTo many k) (2 ^ k) else setTo many k
def setQ (many : List Int) : Int := setTo many many.length
theorem setTo_hit {many : List Int} {k : Nat} {x : Int} (h : many[k]? = some x) (hx : 0 < x) : setTo many (k + 1) = bits BinOp.or .i64 (setTo many k) (2 ^ k) := by
  rw [setTo, if_pos (by simp [List.getD, h, hx])]
theorem setTo_miss {many : List Int} {k : Nat} {x : Int} (h : many[k]? = some x) (hx : ¬ 0 < x) : setTo many (k + 1) = setTo many k := by
  rw [setTo, if_neg (by simp [List.getD, h]; omega)]

theorem p2_nat {k : Nat} (h : k ≤ 62) : wrap64 (2 ^ k) = 2 ^ k := by
  have := p2_wrap (n := (k : Int)) (by omega) (by omega)
  simpa using this

set_option maxRecDepth 100000 in
set_option maxHeartbeats 2000000 in
theorem set_any102 (bq bD : Nat) (n : Int) (A : Option Addr) (c : Nat) (rs many : List Int) (fv : Value) (w : World) (h : Qs w bq bD n A c rs many fv) (hl : many.length ≤ 60) :
    Calls Try.prog 102 #[.pointer (some ⟨bq, 0, none⟩)] w fun e w' => e = .returned (.int .i64 (setQ many)) ∧ w = w' := by
  have q2 := h.q.cell 2 rfl
  have HM := Lib.hid h.m
  clear h
  go_enter Try.func102, Try.ntmps102
  go_wp2
  go_loop [3, 11] (fun s i => ∃ k : Nat, k ≤ many.length ∧ i = .int .i64 k ∧ s = .int .i64 (setTo many k)) (fun _ i => many.length - (intOf i).toNat)
  case atStart => exact ⟨0, Nat.zero_le _, rfl, rfl⟩
  case round =>
    obtain ⟨k, hk, rfl, rfl⟩ := hrel
    by_cases hlt : k < many.length
    · obtain ⟨x, hx⟩ : ∃ x, Hid (many[k]? = some x) := ⟨_, List.getElem?_eq_getElem hlt⟩
      have hix := ix_own (b := bD) (n := many.length) (c := many.length) Try.underlying22 szInt hlt
      have hcx := HM.out.cell k (ints_get hx.out)
      have hp := p2_nat (k := k) (by omega)
      by_cases hpos : 0 < x
      · have HS := Lib.hid (setTo_hit hx.out hpos)
        go_wp2
        go_round
        case rel => exact ⟨k + 1, by omega, by go_num, by rw [HS.out]⟩
        case measure => simp [intOf]; omega
      · have HS := Lib.hid (setTo_miss hx.out hpos)
        go_wp2
        go_round
        case rel => exact ⟨k + 1, by omega, by go_num, by rw [HS.out]⟩
        case measure => simp [intOf]; omega
    · obtain rfl : k = many.length := by omega
      go_wp2
      go_ret
      exact ⟨rfl, rfl⟩

def decAt (m : List Int) (c : Int) : List Int := m.set c.toNat (m.getD c.toNat 0 - 1)
def takeQ (r : Int) (m : List Int) : List Int := (memL r).foldl decAt m
theorem decAt_len (m : List Int) (c : Int) : (decAt m c).length = m.length := by simp [decAt]

/-! ### take -/
/-- What a round of take keeps: the box of the set. -/
def KpB (Bn : Nat) (W W' : World) : Prop := ∀ o, Blk W Bn o → Blk W' Bn o
theorem kpB_t {Bn : Nat} {A B C : World} (h : KpB Bn A B) (k : KpB Bn B C) : KpB Bn A C := fun o ho => k o (h o ho)
theorem kpB_b {Bn : Nat} {w : World} (hn : Bn < w.heap.size) (W : World) (l : Nat) (o o' : Obj) (hl : w.heap.size ≤ l) (_ : W.heap[l]? = some o) (_ : o.isCells = false) (_ : o.isWalk = false) : KpB Bn W (W.putObj l o') := by
  intro o1 h1
  exact (World.putObj_heap_other (by omega)).trans h1

set_option maxRecDepth 100000 in
set_option maxHeartbeats 1000000 in
theorem members1_inK (n : Nat) (hn : 1 ≤ n) (l Bn : Nat) (s : Int) (J Jx : List (Mem s) → World → Prop)
    (hY : ∀ pre x W, J pre W → pre.length < 6 → YieldAt Fence.wide (n - 1) Try.prog l #[.int .i64 x.1] W fun e W' =>
      (e = .returned (.bool true) ∧ J (pre ++ [x]) W' ∧ KpB Bn W W') ∨ (e = .returned (.bool false) ∧ Jx (pre ++ [x]) W'))
    (W : World) (hBn : Blk W Bn (.cells #[.int .i64 s] 3)) (h0 : J [] W) :
    CallsIn Fence.wide n Try.prog 125 #[.func (.yield l) #[] #[], .pointer (some ⟨Bn, 0, none⟩)] W fun e W' => (∃ v, e = .returned v) ∧
      ((∃ ys, ys.map (·.1) = memL s ∧ J ys W') ∨ (∃ pre, pre.map (·.1) <+: memL s ∧ Jx pre W')) := by
  refine callsIn_of_wp Try.func125 rfl trivial ?_ rfl
  simp only [Try.ntmps125, List.size_toArray, List.length_cons, List.length_nil, Nat.reduceAdd, Nat.reduceSub, Array.replicate_succ, Array.replicate_zero, List.push_toArray, List.append_toArray, List.nil_append, List.cons_append]
  gi_wp2
  gi_loopw [4] (fun p wr => ∃ (k : Nat) (pre : List (Mem s)), k ≤ 6 ∧ p = .int .i64 k ∧ pre.map (·.1) = pickTo (fun i => inI s i) k ∧ J pre wr ∧ Blk wr Bn (.cells #[.int .i64 s] 3))
    (fun p _ => 6 - (intOf p).toNat)
  case atStart => exact ⟨0, [], by omega, rfl, rfl, h0, hBn⟩
  case round =>
    obtain ⟨k, pre, hk, rfl, hpre, hJ, hblk⟩ := hrel
    have hc := hblk.cell 0 (v := .int .i64 s) rfl
    have HB := Lib.hid hblk
    have HP := Lib.hid hpre
    have hlen : pre.length ≤ k := by
      have h1 := congrArg List.length hpre
      rw [List.length_map] at h1
      rw [h1]; exact pickTo_len _ k
    clear hpre hblk
    by_cases hlt : k < 6
    · by_cases hin : inI s k = true
      · have HI := Lib.hid hin
        obtain ⟨x, hx⟩ : ∃ x : Mem s, x.1 = k := ⟨⟨k, by omega, by omega, hin⟩, rfl⟩
        obtain ⟨fn, tmps, assign, body, hy, hR⟩ := hY pre x wr hJ (by omega)
        rw [hx] at hy
        have HX := Lib.hid hx
        have HJ := Lib.hid hJ
        clear hin hx hJ
        gi_wp2_with (refine ⟨trivial, ?_⟩; gi_at_call 107; refine (callsIn_wide.2 (in_any s k _ (by omega) (by omega))).mono ?_; rintro e w1 ⟨rfl, rfl⟩; rw [HI.out])
        refine hR.mono ?_
        rintro e W3 (⟨rfl, hJ3, hk3⟩ | ⟨rfl, hJx3⟩)
        · have HJ3 := Lib.hid hJ3
          have HB3 := Lib.hid (hk3 _ HB.out)
          clear hJ3
          gi_wp2
          go_roundw
          case rel => exact ⟨k + 1, pre ++ [x], by omega, by go_num, by rw [List.map_append, HP.out, pickTo_hit HI.out]; simp [HX.out], HJ3.out, HB3.out⟩
          case measure => simp [intOf]; omega
        · have HJ3 := Lib.hid hJx3
          clear hJx3
          gi_wp2
          refine bodyPost_ret (results_none rfl _ _ _) rfl ?_
          refine ⟨⟨_, rfl⟩, .inr ⟨pre ++ [x], ?_, HJ3.out⟩⟩
          rw [List.map_append, HP.out]
          have e : pickTo (fun i => inI s i) k ++ [x].map (·.1) = pickTo (fun i => inI s i) (k + 1) := by rw [pickTo_hit HI.out]; simp [HX.out]
          rw [e]
          exact pickTo_prefix _ (by omega)
      · simp only [Bool.not_eq_true] at hin
        have HI := Lib.hid hin
        have HJ := Lib.hid hJ
        clear hin hJ
        gi_wp2_with (refine ⟨trivial, ?_⟩; gi_at_call 107; refine (callsIn_wide.2 (in_any s k _ (by omega) (by omega))).mono ?_; rintro e w1 ⟨rfl, rfl⟩; rw [HI.out])
        refine ⟨fun _ h => (by cases h), ?_⟩
        gi_wp2
        go_roundw
        case rel => exact ⟨k + 1, pre, by omega, by go_num, by rw [pickTo_miss HI.out]; exact HP.out, HJ.out, HB.out⟩
        case measure => simp [intOf]; omega
    · obtain rfl : k = 6 := by omega
      gi_wp2
      go_end0
      exact ⟨⟨_, rfl⟩, .inl ⟨pre, HP.out, hJ⟩⟩

theorem members_stopsK (n : Nat) (hn : 1 ≤ n) (Bn : Nat) (s : Int) (w : World) (hB : Blk w Bn (.cells #[.int .i64 s] 3)) :
    SeqStopsK Fence.wide n Try.prog 125 #[.pointer (some ⟨Bn, 0, none⟩)] (fun x : Mem s => #[Value.int .i64 x.1]) (KpB Bn) (fun ys => ys.map (·.1) = memL s) (fun pre => pre.map (·.1) <+: memL s) 6 w := fun l J Jx W hW _ _ hY h0 =>
  members1_inK n hn l Bn s J Jx hY W (hB.below hW hB.lt) h0

theorem ownFrom_frame {β : Type} {S : Nat → Prop} {B : Nat} {w₀ : World} (hB : w₀.heap.size ≤ B) : OwnFrom B (fun (_ : β) W => Frame S w₀ W) := by
  intro s W W' row hs hg hr
  exact hs.trans (T := fun k => row = some k) (Frame.of_grown hg) (fun b hb e => by have := (hr b e).1; omega)
theorem ownFrom_blk {β : Type} {b B : Nat} {f : β → Array Value} {t : TypeId} : OwnFrom B (fun (s : β) W => Blk W b (.cells (f s) t)) := by
  intro s W W' row hs hg hr
  refine Blk.grown hs hg (fun e => ?_)
  obtain ⟨_, o, ho, hc⟩ := hr b e
  unfold Blk at hs
  rw [hs] at ho
  cases ho
  cases hc

theorem foldl_len (l : List Int) (m : List Int) : (l.foldl decAt m).length = m.length := by
  induction l generalizing m with
  | nil => rfl
  | cons x l ih => rw [List.foldl_cons, ih, decAt_len]

theorem memL_mem {s : Int} {j : Nat} (h : inI s j = true) (hj : j < 6) : (j : Int) ∈ memL s := by
  unfold memL pickTo
  exact List.mem_map.2 ⟨j, List.mem_filter.2 ⟨List.mem_range.2 hj, h⟩, rfl⟩
theorem foldl_bd (l : List Int) {m : List Int} (h : ∀ x ∈ m, -1000 ≤ x ∧ x ≤ 1000) : ∀ y ∈ l.foldl decAt m, -1000 - (l.length : Int) ≤ y ∧ y ≤ 1000 := by
  have gen : ∀ (l m : List Int) (K : Int), (∀ x ∈ m, -1000 - K ≤ x ∧ x ≤ 1000) → ∀ y ∈ l.foldl decAt m, -1000 - K - (l.length : Int) ≤ y ∧ y ≤ 1000 := by
    intro l
    induction l with
    | nil => intro m K h y hy; have := h y hy; simp; omega
    | cons a l ih =>
      intro m K h y hy
      have := ih (decAt m a) (K + 1) (fun x hx => ?_) y hy
      · simp only [List.length_cons]; omega
      · unfold decAt at hx
        rcases List.mem_or_eq_of_mem_set hx with h1 | h1
        · have := h x h1; omega
        · by_cases hl : a.toNat < m.length
          · have e : m.getD a.toNat 0 = m[a.toNat] := by simp [List.getD, hl]
            have := h _ (List.getElem_mem hl)
            rw [e] at h1; omega
          · have e : m.getD a.toNat 0 = 0 := by simp [List.getD, List.getElem?_eq_none (Nat.le_of_not_lt hl)]
            rw [List.set_eq_of_length_le (Nat.le_of_not_lt hl)] at hx
            have := h x hx; omega
  have := gen l m 0 (by intro x hx; have := h x hx; omega)
  intro y hy
  have := this y hy
  omega

set_option maxRecDepth 100000 in
set_option maxHeartbeats 2000000 in
theorem take_in (n bq bD : Nat) (hn : 3 ≤ n) (N : Int) (A : Option Addr) (c : Nat) (rs many : List Int) (fv : Value) (k : Nat) (r : Int) (w : World) (h : Qs w bq bD N A c rs many fv) (hr : Hid (rs[k]? = some r)) (_hm : many.length ≤ 60)
    (hlm : Hid (∀ x ∈ memL r, x.toNat < many.length)) (hbd : Hid (∀ x ∈ many, -1000 ≤ x ∧ x ≤ 1000)) :
    CallsIn Fence.wide n Try.prog 103 #[.pointer (some ⟨bq, 0, none⟩), .int .i64 k] w fun e W' =>
      (∃ v, e = .returned v) ∧ Blk W' bD (.cells (ints (takeQ r many)).toArray 3) ∧ Frame (fun b => b = bD) w W' := by
  have h1 : 1 ≤ n := by omega
  have hk : k < rs.length := (List.getElem?_eq_some_iff.1 hr.out).1
  obtain ⟨x0, b0, o0, hx0, hb0, hix0, hcx0⟩ := ints_at (c := c) h.r Try.underlying22 szInt hk
  obtain rfl : r = x0 := by rw [hr.out] at hx0; injection hx0
  clear hx0
  have q1 := h.q.cell 1 (v := .slice A rs.length c) rfl
  have q2 := h.q.cell 2 rfl
  have hbq := h.q.lt
  have hbD := h.m.lt
  have HM := Lib.hid h.m
  have HQ := Lib.hid h.q
  clear h
  refine callsIn_of_wp_marks Try.func103 rfl trivial ?_ rfl
  simp only [Try.ntmps103, List.size_toArray, List.length_cons, List.length_nil, Nat.reduceAdd, Nat.reduceSub, Array.replicate_succ, Array.replicate_zero, List.push_toArray, List.append_toArray, List.nil_append, List.cons_append]
  gi_wp2_with (refine ⟨trivial, ?_⟩; gi_at_call 120; refine (callsIn_wide.2 (members_any r _)).mono ?_; rintro e w1 ⟨rfl, rfl⟩)
  have HF0 : Hid (Frame (fun b => b = bD) w ((w.alloc (.cells #[.pointer (some ⟨bq, 0, none⟩)] 133)).alloc (.cells #[.int .i64 r] 3))) := ((Frame.refl (fun b => b = bD) w).alloc _).alloc _
  have HBB : Hid (Blk ((w.alloc (.cells #[.pointer (some ⟨bq, 0, none⟩)] 133)).alloc (.cells #[.int .i64 r] 3)) (w.heap.size + 1) (.cells #[.int .i64 r] 3)) := (by
    have e := Blk.new (w.alloc (.cells #[.pointer (some ⟨bq, 0, none⟩)] 133)) (.cells #[.int .i64 r] 3)
    rw [World.size_alloc] at e
    exact e)
  refine wpIn_rangeFunc_ownG (F := Fence.wide) rfl h1 (gf := 125) (lb := #[.pointer (some ⟨w.heap.size + 1, 0, none⟩)]) rfl trivial (enters_of Try.func125 (by kernel_rfl) rfl)
    (members_stopsK (n - 1) (by omega) (w.heap.size + 1) r _ HBB.out) kpB_t (kpB_b (by simp)) (Below.refl _ _) (fun _ => rfl)
    (fun (pre : List (Mem r)) W => (Blk W bD (.cells (ints ((pre.map (·.1)).foldl decAt many)).toArray 3) ∧ Blk W bq (.cells #[.int .i64 N, .slice A rs.length c, .slice (some ⟨bD, 0, none⟩) many.length many.length, fv] 136) ∧ Blk W w.heap.size (.cells #[.pointer (some ⟨bq, 0, none⟩)] 133)) ∧ Frame (fun b => b = bD) w W)
    (fun _ _ _ => False)
    (OwnFrom.and (OwnFrom.and ownFrom_blk (OwnFrom.and ownFrom_blk ownFrom_blk)) (ownFrom_frame (by simp; omega)))
    (fun _ _ _ _ _ hs _ _ => hs)
    ⟨⟨(HM.out.alloc _).alloc _, (HQ.out.alloc _).alloc _, (Blk.new _ _).alloc _⟩, HF0.out⟩
    (fun x => { tmps := #[.pointer (some ⟨bq, 0, none⟩), .int .i64 k, .pointer (some ⟨w.heap.size, 0, none⟩), undef, .int .i64 x.1, .pointer (some ⟨bq, 0, none⟩), .pointer (some ⟨bq, 0, none⟩), .pointer (some ⟨bq, 0, none⟩), .pointer (some ⟨bq, 1, none⟩), .slice A rs.length c, .int .i64 k, .pointer (some ⟨b0, o0, none⟩), .int .i64 r, .func (.func 125) #[] #[.pointer (some ⟨w.heap.size + 1, 0, none⟩)], .int .i64 x.1, undef, undef, undef, undef, undef, undef, undef, undef, undef], defers := [] }) ?assign ?body ?done ?stop
  case assign =>
    intro l x W K hK
    gi_wp2
    exact hK
  case body =>
    rintro l pre ⟨x, hx0, hx6, hin⟩ W ⟨⟨hbD', hbq', hbw⟩, hF⟩ hlt
    obtain ⟨j, rfl⟩ := Int.eq_ofNat_of_zero_le hx0
    have hjm : j < many.length := by
      have := hlm.out (j : Int) (memL_mem hin (by omega))
      simpa using this
    obtain ⟨ms, hms⟩ : ∃ ms, (pre.map (·.1)).foldl decAt many = ms := ⟨_, rfl⟩
    have hml : ms.length = many.length := by rw [← hms]; exact foldl_len _ _
    rw [hms] at hbD'
    obtain ⟨y, hy⟩ : ∃ y, Hid (ms[j]? = some y) := ⟨_, List.getElem?_eq_getElem (by omega)⟩
    have hyb : -1000 - 6 ≤ y ∧ y ≤ 1000 := by
      have e := foldl_bd (pre.map (·.1)) hbd.out y (by rw [hms]; exact List.mem_of_getElem? hy.out)
      rw [List.length_map] at e
      omega
    have HMS := Lib.hid hms
    have HML := Lib.hid hml
    have hix := ix_own (b := bD) (n := many.length) (c := many.length) Try.underlying22 szInt hjm
    have hcx := hbD'.cell j (ints_get hy.out)
    have hfx := hbD'.free j
    have c0 := hbw.cell 0 (v := .pointer (some ⟨bq, 0, none⟩)) rfl
    have c2 := hbq'.cell 2 (v := .slice (some ⟨bD, 0, none⟩) many.length many.length) rfl
    have H1 := Lib.hid hbD'
    have H2 := Lib.hid hbq'
    have H3 := Lib.hid hbw
    clear hms hml hbD' hbq' hbw
    gi_wp2
    have hne : bq ≠ bD := blk_ne H2.out H1.out (by decide)
    have hnw : w.heap.size ≠ bD := by omega
    refine ⟨(KeepsOthers.setCell _ _ _).from _, ?_, ⟨?_, H2.out.far hne _, H3.out.far hnw _⟩, hF.setCell (.inl rfl) _⟩
    · intro o ho
      exact ho.far (by simp; omega) _
    · have e := H1.out.set j (.int .i64 (y - 1))
      rw [ints_set] at e
      rw [List.map_append, List.foldl_append, HMS.out]
      simp only [List.map_cons, List.map_nil, List.foldl_cons, List.foldl_nil, decAt]
      simp only [Int.toNat_natCast, List.getD, hy.out, Option.getD_some]
      exact e
  case done =>
    rintro D ys W hD hys ⟨⟨hb, hq, hw'⟩, hF⟩ hK
    have HY := Lib.hid hys
    have H1 := Lib.hid hb
    clear hys hb hq hw'
    gi_wp2
    refine ⟨by simp, .inl ⟨_, _, rfl, run_takeDeferred hK, ?_⟩⟩
    have hne : bD ≠ D := by simp at hD; omega
    have e1 := H1.out
    rw [HY.out] at e1
    refine ⟨_, results_none rfl _ _ _, ⟨_, rfl⟩, (World.putObj_heap_other hne).trans e1, ?_⟩
    exact hF.trans (Frame.of_grown (grownBy_putObj' _ D _)) (fun b hb e => by injection e with e; simp at hD; omega)
  case stop =>
    rintro D c pre W _ _ h _
    exact h.elim

end Go.Proofs.Ytlnonadkdonhmaa

/- Contracts: take; the fair choice. -/
namespace Go.Proofs.Ytlnonadkdonhmaa
open Go.RowKit Go.Maps

theorem take_any103 (bq bD : Nat) (N : Int) (A : Option Addr) (c : Nat) (rs many : List Int) (fv : Value) (k : Nat) (r : Int) (w : World) (h : Qs w bq bD N A c rs many fv) (hr : Hid (rs[k]? = some r)) (hm : many.length ≤ 60)
    (hlm : Hid (∀ x ∈ memL r, x.toNat < many.length)) (hbd : Hid (∀ x ∈ many, -1000 ≤ x ∧ x ≤ 1000)) :
    Calls Try.prog 103 #[.pointer (some ⟨bq, 0, none⟩), .int .i64 k] w fun e W' =>
      (∃ v, e = .returned v) ∧ Blk W' bD (.cells (ints (takeQ r many)).toArray 3) ∧ Frame (fun b => b = bD) w W' :=
  callsIn_wide.1 (take_in 3 bq bD (by omega) N A c rs many fv k r w h hr hm hlm hbd)

/-- The fair choice: the best of the first k. -/
def bestTo (last rd : List Int) : Nat → Int
  | 0 => rd.getD 0 0
  | k + 1 => if last.getD (rd.getD k 0).toNat 0 < last.getD (bestTo last rd k).toNat 0 then rd.getD k 0 else bestTo last rd k
def bestF (last rd : List Int) : Int := bestTo last rd rd.length
theorem bestTo_mem {last rd : List Int} (h : 0 < rd.length) : ∀ k, k ≤ rd.length → bestTo last rd k ∈ rd := by
  intro k
  induction k with
  | zero => intro _; simp [bestTo, List.getD, List.getElem?_eq_getElem h]
  | succ k ih =>
    intro hk
    rw [bestTo]
    split
    · simp [List.getD, List.getElem?_eq_getElem (show k < rd.length by omega)]
    · exact ih (by omega)
theorem bestTo_hit {last rd : List Int} {k : Nat} {x u b v : Int} (hx : rd[k]? = some x) (hb : bestTo last rd k = b) (hu : last[x.toNat]? = some u) (hv : last[b.toNat]? = some v) (h : u < v) : bestTo last rd (k + 1) = x := by
  rw [bestTo, hb]
  simp [List.getD, hx, hu, hv, h]
theorem bestTo_miss {last rd : List Int} {k : Nat} {x u b v : Int} (hx : rd[k]? = some x) (hb : bestTo last rd k = b) (hu : last[x.toNat]? = some u) (hv : last[b.toNat]? = some v) (h : ¬ u < v) : bestTo last rd (k + 1) = b := by
  rw [bestTo, hb]
  simp [List.getD, hx, hu, hv, h]

set_option maxRecDepth 100000 in
set_option maxHeartbeats 2000000 in
theorem fair1_any (i : Nat) (bb bL : Nat) (last rd : List Int) (R : Option Addr) (c : Nat) (w : World) (hR : Cells w R (ints rd)) (hn : 0 < rd.length) (hb : Blk w bb (.cells #[.slice (some ⟨bL, 0, none⟩) last.length last.length] 22)) (hL : Blk w bL (.cells (ints last).toArray 3))
    (hrd : Hid (∀ x ∈ rd, 0 ≤ x ∧ x < last.length)) (hi : i ≤ 1000) (_hll : last.length ≤ 1000) :
    Calls Try.prog 90 #[.int .i64 i, .slice R rd.length c, .pointer (some ⟨bb, 0, none⟩)] w fun e w' => e = .returned (.int .i64 (bestF last rd)) ∧ Blk w' bL (.cells (ints (last.set (bestF last rd).toNat ((i : Int) + 1))).toArray 3) ∧ Frame (fun b => b = bL) w w' := by
  have hlr : rd.length ≤ 17592186043904 := by simpa [ints] using hR.1
  have hb0 := hb.cell 0 (v := .slice (some ⟨bL, 0, none⟩) last.length last.length) rfl
  have HL := Lib.hid hL
  have HB := Lib.hid hb
  obtain ⟨x0, bx, o, hx0, hbx, hix, hcx⟩ := ints_at (c := c) (k := 0) hR Try.underlying22 szInt hn
  have HX0 : Hid (bestTo last rd 0 = x0) := by show _ = _; simp [bestTo, List.getD, hx0]
  simp only [Int.ofNat_zero] at hix
  have hx0b := hrd.out x0 (List.mem_of_getElem? hx0)
  clear hx0 hL hb
  go_enter Try.func90, Try.ntmps90
  go_wp2
  go_loopw [6, 14] (fun s i wr => ∃ (k : Nat) (b : Int), k ≤ rd.length ∧ i = .int .i64 k ∧ s = .int .i64 b ∧ bestTo last rd k = b ∧ 0 ≤ b ∧ b < last.length ∧ Frame (fun _ => False) w wr) (fun _ i _ => rd.length - (intOf i).toNat)
  case atStart => exact ⟨0, x0, Nat.zero_le _, rfl, rfl, HX0.out, hx0b.1, hx0b.2, Frame.refl _ _⟩
  case round =>
    obtain ⟨k, b, hk, rfl, rfl, hbt, hb1, hb2, hF⟩ := hrel
    obtain ⟨b, rfl⟩ := Int.eq_ofNat_of_zero_le hb1
    have HBT := Lib.hid hbt
    have HL' := HL.out.frame hF (fun h => h)
    have hb0' := (HB.out.frame hF (fun h => h)).cell 0 (v := .slice (some ⟨bL, 0, none⟩) last.length last.length) rfl
    have hbl : b < last.length := by omega
    obtain ⟨v, hv⟩ : ∃ v, Hid (last[b]? = some v) := ⟨_, List.getElem?_eq_getElem hbl⟩
    have hixb := ix_own (b := bL) (n := last.length) (c := last.length) Try.underlying22 szInt hbl
    have hcb := HL'.cell b (ints_get hv.out)
    have HL2 := Lib.hid HL'
    clear hbt HL'
    by_cases hlt : k < rd.length
    · obtain ⟨x, b2, o2, hx, hbx2, hix2, hcx2⟩ := ints_at (c := c) (hR.frame hF (fun _ _ _ h => h)) Try.underlying22 szInt hlt
      have hxb := hrd.out x (List.mem_of_getElem? hx)
      obtain ⟨x, rfl⟩ := Int.eq_ofNat_of_zero_le hxb.1
      have hxl : x < last.length := by omega
      obtain ⟨u, hu⟩ : ∃ u, Hid (last[x]? = some u) := ⟨_, List.getElem?_eq_getElem hxl⟩
      have hixx := ix_own (b := bL) (n := last.length) (c := last.length) Try.underlying22 szInt hxl
      have hcu := HL2.out.cell x (ints_get hu.out)
      have HX := Lib.hid hx
      clear hx
      by_cases huv : u < v
      · have HS : Hid (bestTo last rd (k + 1) = (x : Int)) := bestTo_hit HX.out HBT.out (by simpa using hu.out) (by simpa using hv.out) huv
        go_wp2
        refine sall (by kernel_rfl) (by kernel_rfl) (fun Kq hKq => ?_)
        repeat still_step
        refine wpStill_nil (hKq _ ?_)
        clear hKq Kq
        go_wp2
        go_roundw
        case rel => exact ⟨k + 1, (x : Int), by omega, by go_num, rfl, HS.out, by omega, by omega, hF.drew⟩
        case measure => simp [intOf]; omega
      · have HS : Hid (bestTo last rd (k + 1) = (b : Int)) := bestTo_miss HX.out HBT.out (by simpa using hu.out) (by simpa using hv.out) huv
        go_wp2
        refine sall (by kernel_rfl) (by kernel_rfl) (fun Kq hKq => ?_)
        repeat still_step
        refine wpStill_nil (hKq _ ?_)
        clear hKq Kq
        go_wp2
        go_roundw
        case rel => exact ⟨k + 1, (b : Int), by omega, by go_num, rfl, HS.out, by omega, by omega, hF.drew⟩
        case measure => simp [intOf]; omega
    · obtain rfl : k = rd.length := by omega
      have hfb := HL2.out.free b
      have HBF : Hid (bestF last rd = (b : Int)) := HBT.out
      go_wp2
      go_ret
      refine ⟨by rw [HBF.out]; rfl, ?_, (hF.mono (T := fun b => b = bL) (fun _ _ h => h.elim)).setCell (.inl rfl) _⟩
      rw [HBF.out, Int.toNat_natCast, ← ints_set]
      exact HL2.out.set b _
end Go.Proofs.Ytlnonadkdonhmaa

/- Contracts: run over queues, by any choice. -/
namespace Go.Proofs.Ytlnonadkdonhmaa
open Go.RowKit Go.Maps

/-- A row without room is its block. -/
theorem own_full {w : World} {base : Nat} {e : TypeId} {g n : Nat} {xs : List Value} (h : w.ownsRow base e 1 (.slice (some ⟨g, 0, none⟩) n n) n xs) : Blk w g (.cells xs.toArray e) := by
  obtain ⟨hlen, ⟨hv, _⟩ | ⟨g', cap, cur, hv, hg, hh, hnc, hcm, hcs, hcur⟩⟩ := h
  · cases hv
  · injection hv with h1 h2 h3
    injection h1 with h1
    injection h1 with h1 _ _
    subst h1 h3
    have e1 : xs.toArray = cur := by
      rw [← hcur, List.take_of_length_le (by simp; omega)]
    rw [e1]
    exact hh

section
variable {σ : Type}
/-- One message: it comes, and the rule that reacts takes. -/
def incAt (m : List Int) (c : Int) : List Int := m.set c.toNat (m.getD c.toNat 0 + 1)
structure QSt (σ : Type) where
  many : List Int
  st : σ
  out : List Int
def qStep (rs : List Int) (ch : σ → Nat → List Int → Int × σ) (q : QSt σ) (i : Nat) (c : Int) : QSt σ :=
  match readyL rs (setQ (incAt q.many c)) with
  | [] => ⟨incAt q.many c, q.st, q.out ++ [-1]⟩
  | r :: t => ⟨takeQ (rs.getD (ch q.st i (r :: t)).1.toNat 0) (incAt q.many c), (ch q.st i (r :: t)).2, q.out ++ [(ch q.st i (r :: t)).1]⟩
def qTo (rs : List Int) (ch : σ → Nat → List Int → Int × σ) (n : Nat) (s0 : σ) (l : List Int) : Nat → QSt σ
  | 0 => ⟨List.replicate n 0, s0, []⟩
  | k + 1 => qStep rs ch (qTo rs ch n s0 l k) k (l.getD k 0)
end

/-- A choice: the function F over what it captured. -/
structure ChoiceOk (F : Nat) (cap : Value) {σ : Type} (L : Nat) (S P : Nat → Prop) (Inv : σ → World → Prop) (ch : σ → Nat → List Int → Int × σ) : Prop where
  enter : ∀ args w, (callFunc F args).run Try.prog w = .ok (.enter F args) w
  keep : ∀ s (T : Nat → Prop) w w', Inv s w → Frame T w w' → (∀ b, P b → ¬ T b) → Inv s w'
  sub : ∀ b, S b → P b
  mem : ∀ (s : σ) (i : Nat) (rd : List Int), rd ≠ [] → (ch s i rd).1 ∈ rd
  calls : ∀ (s : σ) (i : Nat) (rd : List Int) (R : Option Addr) (c : Nat) (w : World), Inv s w → rd ≠ [] → (∀ x ∈ rd, 0 ≤ x ∧ x < L) → i < 100 → Cells w R (ints rd) →
    Calls Try.prog F #[.int .i64 (i : Int), .slice R rd.length c, cap] w fun e w' => e = .returned (.int .i64 (ch s i rd).1) ∧ Inv (ch s i rd).2 w' ∧ Frame S w w'

theorem readyL_bd {rs : List Int} {set x : Int} (h : x ∈ readyL rs set) : 0 ≤ x ∧ x < rs.length := by
  unfold readyL pickTo at h
  obtain ⟨i, hi, rfl⟩ := List.mem_map.1 h
  have := List.mem_range.1 (List.mem_filter.1 hi).1
  simp
  omega
theorem memL_bd {n r : Int} (_hn : n ≤ 6) (hg : goodR n r = true) {x : Int} (h : x ∈ memL r) : x.toNat < n.toNat := by
  unfold memL pickTo at h
  obtain ⟨i, hi, rfl⟩ := List.mem_map.1 h
  have hin := (List.mem_filter.1 hi).2
  simp only [goodR, setI, Bool.and_eq_true, decide_eq_true_eq] at hg
  obtain ⟨h1, h2, h3⟩ := hg
  rcases Nat.lt_or_ge i n.toNat with h | h
  · simpa using h
  · exfalso
    have e : r / 2 ^ i = 0 := by
      apply Int.ediv_eq_zero_of_lt h2
      refine Int.lt_of_lt_of_le h3 ?_
      exact_mod_cast Nat.pow_le_pow_right (by decide) h
    simp only [inI, Int.toNat_natCast, e] at hin
    revert hin
    decide
theorem incAt_len (m : List Int) (c : Int) : (incAt m c).length = m.length := by simp [incAt]
theorem takeQ_len (r : Int) (m : List Int) : (takeQ r m).length = m.length := foldl_len _ _
theorem incAt_bd {m : List Int} {c K : Int} (h : ∀ x ∈ m, -K ≤ x ∧ x ≤ K) (hK : 0 ≤ K) : ∀ x ∈ incAt m c, -K ≤ x ∧ x ≤ K + 1 := by
  intro x hx
  unfold incAt at hx
  rcases List.mem_or_eq_of_mem_set hx with h1 | h1
  · have := h x h1; omega
  · by_cases hl : c.toNat < m.length
    · have e : m.getD c.toNat 0 = m[c.toNat] := by simp [List.getD, hl]
      have := h _ (List.getElem_mem hl)
      rw [e] at h1; omega
    · have e : m.getD c.toNat 0 = 0 := by simp [List.getD, List.getElem?_eq_none (Nat.le_of_not_lt hl)]
      rw [e] at h1; omega

theorem foldl_bdK (l : List Int) {U : Int} (hU : 0 ≤ U) : ∀ (m : List Int) (K : Int), 0 ≤ K → (∀ x ∈ m, -K ≤ x ∧ x ≤ U) → ∀ y ∈ l.foldl decAt m, -K - (l.length : Int) ≤ y ∧ y ≤ U := by
  induction l with
  | nil => intro m K hK h y hy; have := h y hy; simp; omega
  | cons a l ih =>
    intro m K hK h y hy
    have := ih (decAt m a) (K + 1) (by omega) (fun x hx => ?_) y hy
    · simp only [List.length_cons]; omega
    · unfold decAt at hx
      rcases List.mem_or_eq_of_mem_set hx with h1 | h1
      · have := h x h1; omega
      · by_cases hl : a.toNat < m.length
        · have e : m.getD a.toNat 0 = m[a.toNat] := by simp [List.getD, hl]
          have := h _ (List.getElem_mem hl)
          rw [e] at h1; omega
        · have e : m.getD a.toNat 0 = 0 := by simp [List.getD, List.getElem?_eq_none (Nat.le_of_not_lt hl)]
          rw [e] at h1; omega
theorem incAt_bdK {m : List Int} {c K U : Int} (hK : 0 ≤ K) (hU : 0 ≤ U) (h : ∀ x ∈ m, -K ≤ x ∧ x ≤ U) : ∀ x ∈ incAt m c, -K ≤ x ∧ x ≤ U + 1 := by
  intro x hx
  unfold incAt at hx
  rcases List.mem_or_eq_of_mem_set hx with h1 | h1
  · have := h x h1; omega
  · by_cases hl : c.toNat < m.length
    · have e : m.getD c.toNat 0 = m[c.toNat] := by simp [List.getD, hl]
      have := h _ (List.getElem_mem hl)
      rw [e] at h1; omega
    · have e : m.getD c.toNat 0 = 0 := by simp [List.getD, List.getElem?_eq_none (Nat.le_of_not_lt hl)]
      rw [e] at h1; omega

/-- What is so of the queues behind k messages. -/
structure QOk (N k : Nat) (many : List Int) : Prop where
  len : many.length = N
  bd : ∀ x ∈ many, -(6 * (k : Int)) ≤ x ∧ x ≤ k
theorem QOk.inc {N k : Nat} {many : List Int} (h : QOk N k many) (c : Int) : QOk N (k + 1) (incAt many c) :=
  ⟨by rw [incAt_len, h.len], fun x hx => by have := incAt_bdK (by omega) (by omega) h.bd x hx; push_cast; omega⟩
theorem QOk.step {N k : Nat} {many : List Int} (h : QOk N k many) (c r : Int) : QOk N (k + 1) (takeQ r (incAt many c)) := by
  refine ⟨by rw [takeQ_len, incAt_len, h.len], fun x hx => ?_⟩
  have e := foldl_bdK (memL r) (U := k + 1) (by omega) (incAt many c) (6 * k) (by omega) (incAt_bdK (by omega) (by omega) h.bd) x hx
  have := memL_len r
  push_cast
  omega
section
variable {σ : Type} {rs : List Int} {ch : σ → Nat → List Int → Int × σ} {N : Nat} {s0 : σ} {l : List Int}
theorem qTo_none {k : Nat} {q : QSt σ} {x : Int} (hq : qTo rs ch N s0 l k = q) (hx : l[k]? = some x) (hr : readyL rs (setQ (incAt q.many x)) = []) :
    qTo rs ch N s0 l (k + 1) = ⟨incAt q.many x, q.st, q.out ++ [-1]⟩ := by
  have hx' : l.getD k 0 = x := by simp [List.getD, hx]
  rw [qTo, hq, hx', qStep, hr]
theorem qTo_some {k : Nat} {q : QSt σ} {x r : Int} {rd : List Int} (hq : qTo rs ch N s0 l k = q) (hx : l[k]? = some x) (hr : readyL rs (setQ (incAt q.many x)) = rd) (hn : rd ≠ []) (hg : rs[(ch q.st k rd).1.toNat]? = some r) :
    qTo rs ch N s0 l (k + 1) = ⟨takeQ r (incAt q.many x), (ch q.st k rd).2, q.out ++ [(ch q.st k rd).1]⟩ := by
  have hx' : l.getD k 0 = x := by simp [List.getD, hx]
  cases rd with
  | nil => exact absurd rfl hn
  | cons a t =>
    have e : rs.getD (ch q.st k (a :: t)).1.toNat 0 = r := by simp only [List.getD, hg, Option.getD_some]
    rw [qTo, hq, hx', qStep, hr]
    simp only [e]
theorem qTo_ok (_h : 0 < 1) : ∀ k, QOk N k (qTo rs ch N s0 l k).many ∧ (qTo rs ch N s0 l k).out.length = k := by
  intro k
  induction k with
  | zero => exact ⟨⟨by simp [qTo], fun x hx => by simp [qTo] at hx; omega⟩, rfl⟩
  | succ k ih =>
    rw [qTo, qStep]
    split
    · exact ⟨ih.1.inc _, by simp [ih.2]⟩
    · exact ⟨ih.1.step _ _, by simp [ih.2]⟩
end
end Go.Proofs.Ytlnonadkdonhmaa

/- Contract: run over queues, by any choice. -/
namespace Go.Proofs.Ytlnonadkdonhmaa
open Go.RowKit Go.Maps

theorem info3 : (Try.prog.info? 3).map (fun i => (i.zero, i.size, i.bytes)) = some (some (.int .i64 0), 1, 8) := by kernel_rfl
theorem made_ints (n : Nat) : (madeCells (Value.int .i64 0).cells (n * 1)).toList = ints (List.replicate n 0) := by
  unfold madeCells ints
  rw [Nat.mul_one, List.map_replicate]
  apply List.ext_getElem
  · simp
  · intro i h1 h2
    simp [Value.cells, Nat.mod_one]

theorem Qs.later {w w' : World} {bq bD : Nat} {n : Int} {A : Option Addr} {c : Nat} {rs many : List Int} {fv : Value} (h : Qs w bq bD n A c rs many fv) (hB : Below w.heap.size w w') : Qs w' bq bD n A c rs many fv :=
  ⟨h.q.below hB h.q.lt, h.m.below hB h.m.lt, h.r.below hB (Nat.le_refl _)⟩

/-- What run keeps: the queues, the choice's own, and what has come out. -/
structure RunSt (w0 : World) (bq bD : Nat) (n : Int) (A : Option Addr) (c : Nat) (rs many : List Int) (fv : Value) (S : Nat → Prop) (vo : Value) (out : List Int) (w : World) : Prop where
  q : Qs w bq bD n A c rs many fv
  o : w.ownsRow w0.heap.size 3 1 vo out.length (ints out)
  sep : vo.ownBlock ≠ some bD
  f : Frame (fun b => b = bq ∨ S b) w0 w
  d : w0.heap.size ≤ bD

set_option maxRecDepth 100000 in
set_option maxHeartbeats 4000000 in
theorem run_any {σ : Type} (F : Nat) (cap : Value) (S P : Nat → Prop) (Inv : σ → World → Prop) (ch : σ → Nat → List Int → Int × σ) (s0 : σ)
    (N bq : Nat) (A : Option Addr) (c : Nat) (rs : List Int) (mv : Value) (l : List Int) (D : Option Addr) (f : Nat) (w : World) (hC : ChoiceOk F cap rs.length S P Inv ch)
    (hq : Blk w bq (.cells #[.int .i64 (N : Int), .slice A rs.length c, mv, .func (.func F) #[] #[cap]] 136)) (hA : Cells w A (ints rs)) (hD : Cells w D (ints l)) (hI : Inv s0 w)
    (hP : ∀ b, P b → b < w.heap.size ∧ b ≠ bq) (hAP : ints rs ≠ [] → ∀ a, A = some a → a.block ≠ bq ∧ ¬ S a.block) (hDP : ints l ≠ [] → ∀ a, D = some a → a.block ≠ bq ∧ ¬ S a.block)
    (hN : 1 ≤ N ∧ N ≤ 6) (hg : grpOk N rs = true) (hl : Hid (∀ x ∈ l, 0 ≤ x ∧ x < N)) (hll : l.length ≤ 60) :
    Calls Try.prog 91 #[.pointer (some ⟨bq, 0, none⟩), .slice D l.length f] w fun e w' => ∃ A' c' bD, e = .returned (.slice A' l.length c') ∧ New w' w.heap.size A' (ints (qTo rs ch N s0 l l.length).out) ∧
      Qs w' bq bD N A c rs (qTo rs ch N s0 l l.length).many (.func (.func F) #[] #[cap]) ∧ Inv (qTo rs ch N s0 l l.length).st w' ∧ w.heap.size ≤ bD ∧ Frame (fun b => b = bq ∨ S b) w w' := by
  have q0 := hq.cell 0 (v := .int .i64 (N : Int)) rfl
  have f2 := hq.free 2
  have c2 := hq.cell 2 (v := mv) rfl
  have hbq := hq.lt
  have HQ := Lib.hid hq
  have HI := Lib.hid hI
  have HC := Lib.hid hC
  have HP := Lib.hid hP
  have HAP := Lib.hid hAP
  have HDP := Lib.hid hDP
  have HG := Lib.hid hg
  have hE := hC.enter
  obtain ⟨_, _, hrl, _⟩ := grpOk_true hg
  obtain ⟨i0, hi, hz0, hz1, hz2⟩ := info_parts info3
  clear hq hI hC hP hAP hDP hg
  go_enter Try.func91, Try.ntmps91
  go_wp2_with (at_make; go_must (refine wpList_make_full _ rfl _ _ 22 rfl w.heap.size 3 i0 (.int .i64 0) 1 Try.underlying22 hi hz0 hz1 .i64 .i64 N N N rfl rfl rfl rfl (by rw [hz2]; omega) (by unfold maxLen; omega) (Nat.le_refl _) ?_); intro w1 ho1 hg1; have HQ1 := Lib.hid (HQ.out.grown hg1 (by simp)); have f2' := HQ1.out.free 2; have c2' := HQ1.out.cell 2 (v := mv) rfl)
  rw [made_ints] at ho1
  have HB1 := Lib.hid (own_full ho1)
  have HF1 : Hid (Frame (fun b => b = bq ∨ S b) w w1) := (Frame.of_grown hg1).mono (fun b _ e => by cases e)
  obtain ⟨w2, hw2⟩ : ∃ w2, w1.setCell ⟨bq, 2, none⟩ (.slice (some ⟨w.heap.size, 0, none⟩) N N) = w2 := ⟨_, rfl⟩
  have hszw1 := hg1.size
  have HF12 : Hid (Frame (fun b => b = bq) w1 w2) := by
    rw [← hw2]
    exact (Frame.refl (fun b => b = bq) w1).setCell (p := ⟨bq, 2, none⟩) (.inl rfl) _
  have HF2 : Hid (Frame (fun b => b = bq ∨ S b) w w2) := HF1.out.trans HF12.out (fun b _ e => .inl e)
  have HQS : Hid (Qs w2 bq w.heap.size N A c rs (List.replicate N 0) (.func (.func F) #[] #[cap])) := by
    refine ⟨?_, HB1.out.frame HF12.out (by omega), hA.frame HF2.out (fun hn a ha hs => ?_)⟩
    · have e := HQ1.out.set 2 (.slice (some ⟨w.heap.size, 0, none⟩) N N)
      rw [hw2] at e
      simpa using e
    · rcases hs with e | e
      · exact (HAP.out hn a ha).1 e
      · exact (HAP.out hn a ha).2 e
  have HI2 : Hid (Inv s0 w2) := HC.out.keep s0 (fun b => b = bq ∨ w.heap.size ≤ b) w w2 HI.out (((Frame.of_grown hg1).mono (fun b _ e => by cases e)).trans HF12.out (fun b _ e => .inl e)) (fun b hb e => by have := HP.out b hb; rcases e with e | e <;> omega)
  have hDw2 := hD.frame HF2.out (fun hn a ha hs => by
      rcases hs with e | e
      · exact (HDP.out hn a ha).1 e
      · exact (HDP.out hn a ha).2 e)
  rw [hw2]
  clear hw2 c2' f2' c2 f2 q0 ho1 hg1
  go_wp2
  go_loopw [5, 21] (fun vo i wr => ∃ k : Nat, k ≤ l.length ∧ i = .int .i64 k ∧ Inv (qTo rs ch N s0 l k).st wr ∧ RunSt w bq w.heap.size N A c rs (qTo rs ch N s0 l k).many (.func (.func F) #[] #[cap]) S vo (qTo rs ch N s0 l k).out wr)
    (fun _ i _ => l.length - (intOf i).toNat)
  case atStart => exact ⟨0, Nat.zero_le _, rfl, HI2.out, HQS.out, World.ownsRow_nil _ _ _ _, by simp [Value.ownBlock], HF2.out, Nat.le_refl _⟩
  case round =>
    obtain ⟨k, hk, rfl, hIk, hR⟩ := hrel
    obtain ⟨q, HQT⟩ : ∃ q, Hid (qTo rs ch N s0 l k = q) := ⟨_, rfl⟩
    obtain ⟨hok, hol⟩ := qTo_ok (rs := rs) (ch := ch) (N := N) (s0 := s0) (l := l) (by decide) k
    rw [HQT.out] at hIk hR hok hol
    have HIK := Lib.hid hIk
    have HR := Lib.hid hR
    have HOL := Lib.hid hol
    have HLEN := Lib.hid hok.len
    have HOK := Lib.hid hok
    have hszr := hR.f.size
    have hDr := hD.frame hR.f (fun hn a ha hs => by
      rcases hs with e | e
      · exact (HDP.out hn a ha).1 e
      · exact (HDP.out hn a ha).2 e)
    have hqs := hR.q
    clear hIk hR hok hol
    by_cases hlt : k < l.length
    · obtain ⟨x, bx, ox, hx, hbx, hix, hcx⟩ := ints_at (c := f) hDr Try.underlying22 szInt hlt
      have hxb := hl.out x (List.mem_of_getElem? hx)
      obtain ⟨x, rfl⟩ := Int.eq_ofNat_of_zero_le hxb.1
      have hxl : x < q.many.length := by rw [HLEN.out]; omega
      obtain ⟨y, hy⟩ : ∃ y, Hid (q.many[x]? = some y) := ⟨_, List.getElem?_eq_getElem hxl⟩
      have hyb := HOK.out.bd y (List.mem_of_getElem? hy.out)
      have HX := Lib.hid hx
      have c2 := hqs.q.cell 2 (v := .slice (some ⟨w.heap.size, 0, none⟩) q.many.length q.many.length) rfl
      have hixq := ix_own (b := w.heap.size) (n := q.many.length) (c := q.many.length) Try.underlying22 szInt hxl
      have hcq := hqs.m.cell x (ints_get hy.out)
      have hfq := hqs.m.free x
      have hmlt := hqs.m.lt
      have hinc : Hid (incAt q.many x = q.many.set x (y + 1)) := by show _ = _; simp [incAt, List.getD, hy.out]
      obtain ⟨m1, HM1⟩ : ∃ m1, Hid (incAt q.many x = m1) := ⟨_, rfl⟩
      obtain ⟨W, HW⟩ : ∃ W, Hid (wr.setCell ⟨w.heap.size, x, none⟩ (.int .i64 (y + 1)) = W) := ⟨_, rfl⟩
      have HFW : Hid (Frame (fun b => b = w.heap.size) wr W) := by
        rw [← HW.out]; exact (Frame.refl (fun b => b = w.heap.size) wr).setCell (p := ⟨w.heap.size, x, none⟩) (.inl rfl) _
      have HOK1 : Hid (QOk N (k + 1) m1) := by rw [← HM1.out]; exact HOK.out.inc x
      have HQW : Hid (Qs W bq w.heap.size N A c rs m1 (.func (.func F) #[] #[cap])) := by
        have hml : q.many.length = m1.length := by rw [HOK1.out.len, HLEN.out]
        refine ⟨?_, ?_, hqs.r.frame HFW.out (fun hn a ha e => ?_)⟩
        · rw [← hml]; exact hqs.q.frame HFW.out (by omega)
        · have e := hqs.m.set x (.int .i64 (y + 1))
          rw [ints_set, HW.out, ← hinc.out, HM1.out] at e
          exact e
        · have := hA.lt hn ha; omega
      have HIW : Hid (Inv q.st W) := HC.out.keep _ _ _ _ HIK.out HFW.out (fun b hb e => by have := HP.out b hb; omega)
      have HFR : Hid (Frame (fun b => b = bq ∨ S b) w W) := HR.out.f.trans HFW.out (fun b hb e => by omega)
      have HOW : Hid (W.ownsRow w.heap.size 3 1 u5 q.out.length (ints q.out)) := own_frame HR.out.o HFW.out (fun g hg e => HR.out.sep (by rw [hg, e]))
      have hszW := HFW.out.size
      clear hx hqs hDr
      go_wp2
      rw [HW.out]
      clear hcq hfq hixq hix hcx c2
      obtain ⟨rd, HRD⟩ : ∃ rd, Hid (readyL rs (setQ m1) = rd) := ⟨_, rfl⟩
      have hbqW := HQW.out.q.lt
      have c0 := HQW.out.q.cell 0 (v := .int .i64 (N : Int)) rfl
      have c1 := HQW.out.q.cell 1 (v := .slice A rs.length c) rfl
      have hm60 : m1.length ≤ 60 := by rw [HOK1.out.len]; omega
      refine draw (fun w' => Below W.heap.size W w') 8 rfl (by kernel_rfl) (fun Qd hQd => ?_)
      apply anyI_step 0 rfl (by kernel_rfl)
      focus (intro wI hI Kv hKv; have t0 := cell_chain hI hbqW c0; have t1 := cell_chain hI hbqW c1; go_simp; exact hKv)
      intro Kd hKd
      go_simp
      refine hKd _ ?_
      clear hKd Kd
      apply anyI_step 1 rfl (by kernel_rfl)
      focus (intro wI hI Kv hKv; have t0 := cell_chain hI hbqW c0; have t1 := cell_chain hI hbqW c1; go_simp; exact hKv)
      intro Kd hKd
      go_simp
      refine hKd _ ?_
      clear hKd Kd
      apply anyI_step 2 rfl (by kernel_rfl)
      focus (intro wI hI Kv hKv; have t0 := cell_chain hI hbqW c0; have t1 := cell_chain hI hbqW c1; go_simp; exact hKv)
      intro Kd hKd
      go_simp
      refine hKd _ ?_
      clear hKd Kd
      apply anyI_step 3 rfl (by kernel_rfl)
      focus (intro wI hI Kv hKv; have t0 := cell_chain hI hbqW c0; have t1 := cell_chain hI hbqW c1; go_simp; exact hKv)
      intro Kd hKd
      go_simp
      refine hKd _ ?_
      clear hKd Kd
      apply anyI_step 4 rfl (by kernel_rfl)
      focus (intro wI hI Kv hKv; have t0 := cell_chain hI hbqW c0; have t1 := cell_chain hI hbqW c1; go_simp; exact hKv)
      intro Kd hKd
      go_simp
      refine hKd _ ?_
      clear hKd Kd
      apply anyI_step 5 rfl (by kernel_rfl)
      focus (intro wI hI Kv hKv; go_simp; exact ⟨_, (set_any102 bq w.heap.size N A c rs m1 _ _ (HQW.out.later hI) hm60).mono (fun _ _ h => ⟨h.1, h.2.symm⟩), hKv⟩)
      intro Kd hKd
      go_simp
      refine hKd _ ?_
      clear hKd Kd
      refine anyI_one' 6 rfl (by kernel_rfl) ((Below.refl _ _).drew) (fun Kd hKd => ?_)
      go_wp2_with (go_at_call 100; go_must (refine (ready_any N (setQ m1) A c rs _ (by exact HQW.out.r.drew)).mono ?_); rintro e w4 ⟨R, cR, rfl, hcs, hB4⟩; rw [HRD.out] at hcs; rw [HRD.out])
      have hB4' : Below W.heap.size W w4 := (Below.refl _ W).drew.trans hB4
      apply anyI_step 7 rfl (by kernel_rfl)
      focus (intro wI hI Kv hKv; go_simp; exact hKv)
      intro Kd hKd
      go_simp
      refine hKd _ ?_
      clear hKd Kd
      refine anyI_end (by kernel_rfl) (hB4') (hQd _ _ ?_)
      clear hQd Qd
      have HQ4 := Lib.hid (HQW.out.later hB4')
      have hsz4 := hB4'.size
      have HI4 : Hid (Inv q.st w4) := HC.out.keep _ _ _ _ HIW.out (Frame.of_all (S := fun _ => False) hB4') (fun _ _ h => h)
      have HF4 : Hid (Frame (fun b => b = bq ∨ S b) w w4) := HFR.out.trans (Frame.of_all (S := fun _ => False) hB4') (fun _ _ h => h.elim)
      have HO4 : Hid (w4.ownsRow w.heap.size 3 1 u5 q.out.length (ints q.out)) := own_frame HOW.out (Frame.of_all (S := fun _ => False) hB4') (fun _ _ h => h)
      have HB4 := Lib.hid hB4'
      clear hB4 hB4'
      have hxx : l[k]? = some (x : Int) := HX.out
      by_cases hne : rd = []
      · subst hne
        have HT : Hid (qTo rs ch N s0 l (k + 1) = ⟨m1, q.st, q.out ++ [-1]⟩) := by
          have e := qTo_none HQT.out HX.out (by rw [HM1.out]; exact HRD.out)
          rw [HM1.out] at e
          exact e
        have hol : q.out.length ≤ 60 := by rw [HOL.out]; omega
        clear hcs hxx
        go_wp2_with (at_builtin; go_must (refine wpList_app1' rInt _ rfl _ _ rfl HO4.out rfl [_] 1 rfl rfl (by simp [Value.oneCell']) (by omega) (by omega) ?_); intro vo' w6 ho6 hB6 hg6 hloc6)
        go_roundw
        case rel =>
          have hs6 : vo'.ownBlock ≠ some w.heap.size := by
            intro e
            rcases hloc6 _ e with h1 | h1
            · exact HR.out.sep h1
            · omega
          have hF6 := Frame.of_grown hg6
          have hn6 : ¬ u5.ownBlock = some w.heap.size := HR.out.sep
          have hn7 : ¬ u5.ownBlock = some bq := fun e => by have := (HO4.out.lt _ e).1; omega
          refine ⟨k + 1, by omega, by go_num, ?_, ?_⟩
          · rw [HT.out]
            exact HC.out.keep _ _ _ _ HI4.out hF6 (fun b hb e => by have := (HO4.out.lt _ e).1; have := HP.out b hb; omega)
          · rw [HT.out]
            refine ⟨⟨HQ4.out.q.frame hF6 hn7, HQ4.out.m.frame hF6 hn6, HQ4.out.r.frame hF6 (fun hn a ha e => by have := (HO4.out.lt _ e).1; have := hA.lt hn ha; omega)⟩, by simpa [ints] using ho6, hs6, HF4.out.trans hF6 (fun b hb e => by have := (HO4.out.lt _ e).1; omega), Nat.le_refl _⟩
        case measure => simp [intOf]; omega
      · have hpos : 0 < rd.length := List.length_pos_iff.2 hne
        have c3 := HQ4.out.q.cell 3 (v := .func (.func F) #[] #[cap]) rfl
        have hrdb : ∀ z ∈ rd, 0 ≤ z ∧ z < rs.length := by rw [← HRD.out]; exact fun z hz => readyL_bd hz
        obtain ⟨p, HP1⟩ : ∃ p, Hid (ch q.st k rd = p) := ⟨_, rfl⟩
        have hpm : p.1 ∈ rd := by rw [← HP1.out]; exact HC.out.mem _ _ _ hne
        obtain ⟨hp1, hp2⟩ := hrdb _ hpm
        obtain ⟨j, hj⟩ := Int.eq_ofNat_of_zero_le hp1
        have hjl : j < rs.length := by omega
        obtain ⟨r, hr⟩ : ∃ r, Hid (rs[j]? = some r) := ⟨_, List.getElem?_eq_getElem hjl⟩
        have hgr : goodR N r = true := by
          have := (grpOk_true HG.out).2.2.2
          rw [List.all_eq_true] at this
          exact this r (List.mem_of_getElem? hr.out)
        have HT : Hid (qTo rs ch N s0 l (k + 1) = ⟨takeQ r m1, p.2, q.out ++ [(j : Int)]⟩) := by
          have e := qTo_some (r := r) HQT.out HX.out (by rw [HM1.out]; exact HRD.out) hne (by rw [HP1.out, hj]; exact hr.out)
          rw [HM1.out, HP1.out, hj] at e
          exact e
        have hol : q.out.length ≤ 60 := by rw [HOL.out]; omega
        have HRB := Lib.hid hrdb
        have HJ := Lib.hid hj
        have HNE := Lib.hid hne
        have HLM : Hid (∀ z ∈ memL r, z.toNat < m1.length) := by
          intro z hz
          have := memL_bd (n := N) (by omega) hgr hz
          rw [HOK1.out.len]
          simpa using this
        have HBD : Hid (∀ z ∈ m1, -1000 ≤ z ∧ z ≤ 1000) := by
          intro z hz
          have := HOK1.out.bd z hz
          push_cast at this
          omega
        clear hne hrdb hpm hp1 hp2 hj hgr hxx
        go_wp2_with fail
        refine (HC.out.calls q.st k rd R cR w4 HI4.out HNE.out HRB.out (by omega) hcs).mono ?_
        rintro e w5 ⟨rfl, hI5, hF5⟩
        rw [HP1.out] at hI5
        rw [HP1.out, HJ.out]
        have hnS : ∀ b, S b → b < w.heap.size ∧ b ≠ bq := fun b hb => HP.out b (HC.out.sub b hb)
        have HQ5 : Hid (Qs w5 bq w.heap.size N A c rs m1 (.func (.func F) #[] #[cap])) := ⟨HQ4.out.q.frame hF5 (fun e => (hnS _ e).2 rfl), HQ4.out.m.frame hF5 (fun e => by have := (hnS _ e).1; omega), HQ4.out.r.frame hF5 (fun hn a ha e => (HAP.out hn a ha).2 e)⟩
        have HI5 := Lib.hid hI5
        have HF5 : Hid (Frame (fun b => b = bq ∨ S b) w w5) := HF4.out.trans hF5 (fun b hb e => .inr e)
        have HO5 : Hid (w5.ownsRow w.heap.size 3 1 u5 q.out.length (ints q.out)) := own_frame HO4.out hF5 (fun g hg e => by have := (hnS _ e).1; have := (HO4.out.lt _ hg).1; omega)
        have hsz5 := hF5.size
        clear hI5 hF5 hnS c3
        go_wp2_with fail
        refine (take_any103 bq w.heap.size N A c rs m1 _ j r w5 HQ5.out hr hm60 HLM HBD).mono ?_
        rintro e w6 ⟨⟨ve, rfl⟩, hB6, hF6⟩
        have HB6 := Lib.hid hB6
        have HF6 := Lib.hid hF6
        have HI6 : Hid (Inv p.2 w6) := HC.out.keep _ _ _ _ HI5.out hF6 (fun b hb e => by have := HP.out b hb; omega)
        have HO6 : Hid (w6.ownsRow w.heap.size 3 1 u5 q.out.length (ints q.out)) := own_frame HO5.out hF6 (fun g hg e => HR.out.sep (by rw [hg, e]))
        have hsz6 := hF6.size
        clear hB6 hF6
        go_wp2_with (at_builtin; go_must (refine wpList_app1' rInt _ rfl _ _ rfl HO6.out rfl [_] 1 rfl rfl (by simp [Value.oneCell']) (by omega) (by omega) ?_); intro vo' w7 ho7 hB7 hg7 hloc7)
        go_roundw
        case rel =>
          have hs7 : vo'.ownBlock ≠ some w.heap.size := by
            intro e
            rcases hloc7 _ e with h1 | h1
            · exact HR.out.sep h1
            · omega
          have hF7 := Frame.of_grown hg7
          have hn6 : ¬ u5.ownBlock = some w.heap.size := HR.out.sep
          have hn7 : ¬ u5.ownBlock = some bq := fun e => by have := (HO6.out.lt _ e).1; omega
          refine ⟨k + 1, by omega, by go_num, ?_, ?_⟩
          · rw [HT.out]
            exact HC.out.keep _ _ _ _ HI6.out hF7 (fun b hb e => by have := (HO6.out.lt _ e).1; have := HP.out b hb; omega)
          · rw [HT.out]
            have htl : (takeQ r m1).length = m1.length := takeQ_len _ _
            refine ⟨⟨?_, HB6.out.frame hF7 hn6, (HQ5.out.r.frame HF6.out (fun hn a ha e => by have := hA.lt hn ha; omega)).frame hF7 (fun hn a ha e => by have := (HO6.out.lt _ e).1; have := hA.lt hn ha; omega)⟩, by simpa [ints] using ho7, hs7, (HF5.out.trans HF6.out (fun b hb e => by omega)).trans hF7 (fun b hb e => by have := (HO6.out.lt _ e).1; omega), Nat.le_refl _⟩
            simp only [htl]
            exact (HQ5.out.q.frame HF6.out (by omega)).frame hF7 hn7
        case measure => simp [intOf]; omega
    · obtain rfl : k = l.length := by omega
      go_wp2
      obtain ⟨A', c', hv, hnew⟩ := own_new HR.out.o (by have := HOL.out; simp [ints]; omega)
      rw [HOL.out] at hv
      subst hv
      go_ret
      rw [HQT.out]
      exact ⟨A', c', w.heap.size, rfl, hnew, HR.out.q, HIK.out, Nat.le_refl _, HR.out.f⟩
end Go.Proofs.Ytlnonadkdonhmaa

/- Contract: auto.Fair. -/
namespace Go.Proofs.Ytlnonadkdonhmaa
open Go.RowKit Go.Maps

def chFair (last : List Int) (i : Nat) (rd : List Int) : Int × List Int := (bestF last rd, last.set (bestF last rd).toNat ((i : Int) + 1))
def fairInv (bb bL L : Nat) (last : List Int) (w : World) : Prop := Blk w bb (.cells #[.slice (some ⟨bL, 0, none⟩) L L] 22) ∧ Blk w bL (.cells (ints last).toArray 3) ∧ last.length = L
theorem fair_choice (bb bL L : Nat) (hL : L ≤ 1000) : ChoiceOk 90 (.pointer (some ⟨bb, 0, none⟩)) L (fun b => b = bL) (fun b => b = bL ∨ b = bb) (fairInv bb bL L) chFair where
  enter := enters_of Try.func90 (by kernel_rfl) rfl
  keep := fun s T w w' h hF hn => ⟨h.1.frame hF (hn _ (.inr rfl)), h.2.1.frame hF (hn _ (.inl rfl)), h.2.2⟩
  sub := fun b h => .inl h
  mem := fun s i rd h => bestTo_mem (List.length_pos_iff.2 h) _ (Nat.le_refl _)
  calls := by
    rintro s i rd R c w ⟨h1, h2, h3⟩ hne hrd hi hR
    subst h3
    refine (fair1_any i bb bL s rd R c w hR (List.length_pos_iff.2 hne) h1 h2 hrd (by omega) hL).mono ?_
    rintro e w' ⟨rfl, hb, hF⟩
    refine ⟨rfl, ⟨h1.frame hF (fun e => blk_ne h1 h2 (by decide) e), hb, by simp [chFair]⟩, hF⟩

def fairQ (n : Int) (rs l : List Int) : QSt (List Int) := qTo rs chFair n.toNat (List.replicate rs.length 0) l l.length
def fairR (n : Int) (rs l : List Int) : List Int := if comeI n rs l then (fairQ n rs l).out else []
def fairL (n : Int) (rs l : List Int) : List Int := if comeI n rs l then (fairQ n rs l).many else []
theorem blk_cells {w : World} {b : Nat} {xs : List Value} {t : TypeId} (h : Blk w b (.cells xs.toArray t)) (hl : xs.length ≤ 17592186043904) : Cells w (some ⟨b, 0, none⟩) xs :=
  ⟨hl, b, 0, by have := h.lt; omega, fun _ => ⟨rfl, h.lt⟩, fun k v hk => by rw [Nat.zero_add]; exact h.cell k (by simpa using hk)⟩

set_option maxRecDepth 100000 in
set_option maxHeartbeats 4000000 in
theorem Fair_yes (N : Nat) (A : Option Addr) (c : Nat) (rs : List Int) (D : Option Addr) (f : Nat) (l : List Int) (w : World) (hA : Cells w A (ints rs)) (hD : Cells w D (ints l)) (hc : comeI N rs l = true) :
    Calls Try.prog 36 #[.agg #[.int .i64 (N : Int), .slice A rs.length c], .slice D l.length f] w fun e w' => ∃ A' c' B' d', e = .returned (.tuple #[.slice A' (fairR N rs l).length c', .slice B' (fairL N rs l).length d', .int .i64 0]) ∧
      Cells w' A' (ints (fairR N rs l)) ∧ Cells w' B' (ints (fairL N rs l)) ∧ Below w.heap.size w w' := by
  have HC := Lib.hid hc
  have hg : grpOk N rs = true := by
    have h := hc
    simp only [comeI, Bool.and_eq_true] at h
    exact h.1.1
  have hll : l.length ≤ 60 := by
    have h := hc
    simp only [comeI, Bool.and_eq_true, decide_eq_true_eq] at h
    exact h.1.2
  have HL : Hid (∀ x ∈ l, 0 ≤ x ∧ x < (N : Int)) := by
    intro x hx
    have h := hc
    simp only [comeI, Bool.and_eq_true, Bool.not_eq_true', List.any_eq_false] at h
    have := h.2 x hx
    simp [badC] at this
    omega
  obtain ⟨hn1, hn2, hrl, _⟩ := grpOk_true hg
  have HG := Lib.hid hg
  have HA1 := Lib.hid (hA.box0 (.cells #[.int .i64 (N : Int), .slice A rs.length c] 24))
  have HD1 := Lib.hid (hD.box0 (.cells #[.int .i64 (N : Int), .slice A rs.length c] 24))
  obtain ⟨i0, hi, hz0, hz1, hz2⟩ := info_parts info3
  clear hc hg
  go_enter Try.func36, Try.ntmps36
  go_wp2_with (first
    | (go_at_call 89; go_must (refine (come_any N A c rs D f l _ HA1.out HD1.out).mono ?_); rintro e w1 ⟨rfl, hB1⟩; rw [HC.out]; have g0 := cell_chain (b := w.heap.size) (i := 0) (v := .int .i64 (N : Int)) hB1 (by simp) (by go_simp); have g1 := cell_chain (b := w.heap.size) (i := 1) (v := .slice A rs.length c) hB1 (by simp) (by go_simp))
    | (at_make; go_must (refine wpList_make_full _ rfl _ _ 22 rfl w1.heap.size 3 i0 (.int .i64 0) 1 Try.underlying22 hi hz0 hz1 .i64 .i64 rs.length rs.length rs.length rfl rfl rfl rfl (by rw [hz2]; omega) (by unfold maxLen; omega) (Nat.le_refl _) ?_); intro w2 ho2 hg2; have hs1 := hB1.size; simp only [World.size_alloc] at hs1; have hs2 := hg2.size; have k0 := hg2.cell g0 (by simp); have k1 := hg2.cell g1 (by simp); have hlt2 : w.heap.size < w2.heap.size := by omega)
    | fail)
  obtain ⟨w3, hw3⟩ : ∃ w3, (w2.alloc (.cells #[.slice (some ⟨w1.heap.size, 0, none⟩) rs.length rs.length] 22)).alloc (.cells #[.int .i64 (N : Int), .slice A rs.length c, .slice none 0 0, .func (.func 90) #[] #[.pointer (some ⟨w2.heap.size, 0, none⟩)]] 136) = w3 := ⟨_, rfl⟩
  rw [hw3]
  have hb3 : Blk w3 w2.heap.size (.cells #[.slice (some ⟨w1.heap.size, 0, none⟩) rs.length rs.length] 22) := by
    rw [← hw3]; exact (Blk.new _ _).alloc _
  have hq3 : Blk w3 (w2.heap.size + 1) (.cells #[.int .i64 (N : Int), .slice A rs.length c, .slice none 0 0, .func (.func 90) #[] #[.pointer (some ⟨w2.heap.size, 0, none⟩)]] 136) := by
    rw [← hw3]
    have e := Blk.new (w2.alloc (.cells #[.slice (some ⟨w1.heap.size, 0, none⟩) rs.length rs.length] 22)) (.cells #[.int .i64 (N : Int), .slice A rs.length c, .slice none 0 0, .func (.func 90) #[] #[.pointer (some ⟨w2.heap.size, 0, none⟩)]] 136)
    rw [World.size_alloc] at e
    exact e
  rw [made_ints] at ho2
  have hL3 : Blk w3 w1.heap.size (.cells (ints (List.replicate rs.length 0)).toArray 3) := by
    rw [← hw3]; exact ((own_full ho2).alloc _).alloc _
  have hB3 : Below w1.heap.size w1 w3 := by
    rw [← hw3]
    exact (((Below.refl _ w1).grown hg2 (Nat.le_refl _) (fun k e => by cases e)).alloc (by omega) _).alloc (by simp <;> omega) _
  have hs3 : w3.heap.size = w2.heap.size + 2 := by rw [← hw3]; simp
  have HA3 := (HA1.out.below hB1 (Nat.le_refl _)).below hB3 (Nat.le_refl _)
  have HD3 := (HD1.out.below hB1 (Nat.le_refl _)).below hB3 (Nat.le_refl _)
  clear hw3 ho2 hg2 k0 k1 g0 g1
  refine (run_any 90 (.pointer (some ⟨w2.heap.size, 0, none⟩)) _ _ _ chFair (List.replicate rs.length 0) N (w2.heap.size + 1) A c rs (.slice none 0 0) l D f w3 (fair_choice w2.heap.size w1.heap.size rs.length (by omega)) hq3 HA3 HD3 ⟨hb3, hL3, by simp⟩
    (fun b hb => by omega) (fun hn a ha => by have := hA.lt hn ha; omega) (fun hn a ha => by have := hD.lt hn ha; omega) ⟨by omega, by omega⟩ HG.out HL hll).mono ?_
  rintro e w4 ⟨A', c', bD, rfl, hnew, hQ, hI, hbD, hF⟩
  obtain ⟨q, HQ⟩ : ∃ q, Hid (fairQ N rs l = q) := ⟨_, rfl⟩
  have hq : qTo rs chFair N (List.replicate rs.length 0) l l.length = q := HQ.out
  have hol : q.out.length = l.length := by rw [← hq]; exact (qTo_ok (by decide) _).2
  have hml : q.many.length = N := by rw [← hq]; exact (qTo_ok (by decide) _).1.len
  rw [hq] at hnew hQ hI
  have m2 := hQ.q.cell 2 (v := .slice (some ⟨bD, 0, none⟩) q.many.length q.many.length) rfl
  have HM := Lib.hid hQ.m
  have HN := Lib.hid hnew
  have HOL := Lib.hid hol
  have HML := Lib.hid hml
  have HQ4 := Lib.hid hq
  clear hQ hI hnew hq hol hml hb3 hq3 hL3
  go_wp2
  refine sall (by kernel_rfl) (by kernel_rfl) (fun Kq hKq => ?_)
  repeat still_step
  refine wpStill_nil (hKq _ ?_)
  clear hKq Kq
  go_wp2
  refine bodyPost_ret (v := .tuple #[.slice A' l.length c', .slice (some ⟨bD, 0, none⟩) q.many.length q.many.length, .int .i64 0]) (results_ttt rfl rfl rfl rfl) rfl ?_
  have eR : fairR N rs l = q.out := by unfold fairR; rw [HC.out, if_pos rfl, HQ.out]
  have eL : fairL N rs l = q.many := by unfold fairL; rw [HC.out, if_pos rfl, HQ.out]
  rw [eR, eL]
  refine ⟨A', c', some ⟨bD, 0, none⟩, q.many.length, by rw [HOL.out], HN.out.1.drew, (blk_cells HM.out (by rw [show (ints q.many).length = q.many.length by simp [ints], HML.out]; omega)).drew, ?_⟩
  have e1 : Below w.heap.size w w1 := ((Below.refl _ w).alloc (Nat.le_refl _) _).trans (hB1.mono (by simp))
  exact ((e1.trans (hB3.mono (by omega))).trans (hF.below (B := w.heap.size) (fun b hb => by omega) (by omega))).drew

set_option maxRecDepth 100000 in
set_option maxHeartbeats 1000000 in
theorem Fair_no (n : Int) (A : Option Addr) (c : Nat) (rs : List Int) (D : Option Addr) (f : Nat) (l : List Int) (w : World) (hA : Cells w A (ints rs)) (hD : Cells w D (ints l)) (hc : comeI n rs l = false) :
    Calls Try.prog 36 #[.agg #[.int .i64 n, .slice A rs.length c], .slice D l.length f] w fun e w' => e = .returned (.tuple #[.slice none 0 0, .slice none 0 0, .int .i64 2]) ∧ Below w.heap.size w w' := by
  have HC := Lib.hid hc
  have HA1 := Lib.hid (hA.box0 (.cells #[.int .i64 n, .slice A rs.length c] 24))
  have HD1 := Lib.hid (hD.box0 (.cells #[.int .i64 n, .slice A rs.length c] 24))
  clear hc
  go_enter Try.func36, Try.ntmps36
  go_wp2_with (go_at_call 89; go_must (refine (come_any n A c rs D f l _ HA1.out HD1.out).mono ?_); rintro e w1 ⟨rfl, hB1⟩; rw [HC.out])
  exact bodyPost_ret (v := .tuple #[.slice none 0 0, .slice none 0 0, .int .i64 2]) (results_ttt rfl rfl rfl rfl) rfl ⟨rfl, ((Below.refl _ w).alloc (Nat.le_refl _) _).trans (hB1.mono (by simp))⟩

theorem Fair_any (n : Int) (A : Option Addr) (c : Nat) (rs : List Int) (D : Option Addr) (f : Nat) (l : List Int) (w : World) (hA : Cells w A (ints rs)) (hD : Cells w D (ints l)) :
    Calls Try.prog 36 #[.agg #[.int .i64 n, .slice A rs.length c], .slice D l.length f] w fun e w' => ∃ A' c' B' d', e = .returned (.tuple #[.slice A' (fairR n rs l).length c', .slice B' (fairL n rs l).length d', .int .i64 (errI (comeI n rs l))]) ∧
      Cells w' A' (ints (fairR n rs l)) ∧ Cells w' B' (ints (fairL n rs l)) ∧ Below w.heap.size w w' := by
  by_cases hc : comeI n rs l = true
  · have hg : grpOk n rs = true := by
      have h := hc
      simp only [comeI, Bool.and_eq_true] at h
      exact h.1.1
    obtain ⟨hn1, _⟩ := grpOk_true hg
    obtain ⟨N, rfl⟩ := Int.eq_ofNat_of_zero_le (a := n) (by omega)
    have e : errI (comeI (N : Int) rs l) = 0 := by rw [hc]; rfl
    rw [e]
    exact Fair_yes N A c rs D f l w hA hD hc
  · simp only [Bool.not_eq_true] at hc
    have e : errI (comeI n rs l) = 2 := by rw [hc]; rfl
    have eR : fairR n rs l = [] := by unfold fairR; rw [hc]; rfl
    have eL : fairL n rs l = [] := by unfold fairL; rw [hc]; rfl
    rw [e, eR, eL]
    exact (Fair_no n A c rs D f l w hA hD hc).mono fun _ _ h => ⟨none, 0, none, 0, h.1, Cells.nil _ _, Cells.nil _ _, h.2⟩
end Go.Proofs.Ytlnonadkdonhmaa
