/- Contracts and lemmas that a claim of this seat uses. -/
import Derived.Test.YtlnonadkdonhmaaL6
import Derived.Test.YtlnonadkdonhmaaL10
import Derived.Test.YtlnonadkdonhmaaL14
import Derived.Test.YtlnonadkdonhmaaL7
import Derived.Test.YtlnonadkdonhmaaL11
import Derived.Deep.LoopGhost

/- What the reference's table of far says, in plain words: the same as the table of rounds. -/
namespace Go.Proofs.Ytlnonadkdonhmaa
open Go.RowKit Go.Maps

/-- What the table says of two states; 0: nothing. -/
def tv (t : Tbl) (i k : Nat) : Int := (tget t (bothI i k)).getD 0
/-- Whether some act has another rule. -/
def neRules (xs ys : List AAct) : Bool := (xs.zip ys).any fun p => p.1.rule != p.2.rule
/-- Whether some pair of next states has one less. -/
def hitT (t : Tbl) (v : Int) (xs ys : List AAct) : Bool := (xs.zip ys).any fun p => (p.1.next.zip p.2.next).any fun q => tget t (bothI q.1 q.2) == some (v - 1)

theorem tv_swap (t : Tbl) (i k : Nat) : tv t i k = tv t k i := by unfold tv; rw [bothI_swap]
theorem bothI_lt {a b : Nat} (h : a < b) : bothI a b = ((a : Int), (b : Int)) := by unfold bothI; congr 1 <;> omega

theorem tget_diag {len : Nat} {t : Tbl} (h : TblOk len t) (x : Int) : tget t (x, x) = none := by
  rw [tget_none]
  intro hm
  obtain ⟨p, hp, e⟩ := List.mem_map.1 hm
  obtain ⟨a, b, h1, h2, _⟩ := h.all p hp
  rw [e] at h1
  injection h1 with e1 e2
  omega
theorem hitP_eq {len : Nat} {t : Tbl} (h : TblOk len t) (n : Int) (p : Int × Int) : hitP n t p = (tget t (bothI p.1 p.2) == some (n - 1)) := by
  unfold hitP
  simp only
  by_cases he : (bothI p.1 p.2).1 = (bothI p.1 p.2).2
  · have e : tget t (bothI p.1 p.2) = none := by
      have := tget_diag h (bothI p.1 p.2).1
      rwa [show ((bothI p.1 p.2).1, (bothI p.1 p.2).1) = bothI p.1 p.2 from Prod.ext rfl he] at this
    rw [e]
    simp
  · have e : ((bothI p.1 p.2).1 != (bothI p.1 p.2).2) = true := by simpa using he
    rw [e]
    cases tget t (bothI p.1 p.2) <;> simp

theorem rulesEq_ne {xs ys : List AAct} : rulesEq xs ys ↔ neRules xs ys = false := by
  unfold neRules
  rw [List.any_eq_false]
  constructor
  · intro h p hp
    obtain ⟨c, hc⟩ := List.getElem?_of_mem hp
    obtain ⟨x, y⟩ := p
    rw [List.getElem?_zip_eq_some] at hc
    simpa using h c x y hc.1 hc.2
  · intro h c x y hx hy
    have hz : (xs.zip ys)[c]? = some (x, y) := by rw [List.getElem?_zip_eq_some]; exact ⟨hx, hy⟩
    simpa using h _ (List.mem_of_getElem? hz)
theorem rulesEq.tail {x y : AAct} {xs ys : List AAct} (h : rulesEq (x :: xs) (y :: ys)) : x.rule = y.rule ∧ rulesEq xs ys :=
  ⟨h 0 x y rfl rfl, fun c a b ha hb => h (c + 1) a b (by simpa using ha) (by simpa using hb)⟩
theorem toldL_eq {n : Int} {t : Tbl} : ∀ {xs ys : List AAct}, rulesEq xs ys → toldL n t xs ys = (xs.zip ys).any fun p => (p.1.next.zip p.2.next).any (hitP n t)
  | [], _, _ => by simp [toldL]
  | _ :: _, [], _ => by simp [toldL]
  | a :: xs, b :: ys, h => by
    obtain ⟨h1, h2⟩ := h.tail
    rw [toldL, if_pos h1, toldL_eq h2, List.zip_cons_cons, List.any_cons]
    cases (a.next.zip b.next).any (hitP n t) <;> simp
theorem told_hit {len : Nat} {n : Int} {t : Tbl} {xs ys : List AAct} (hok : TblOk len t) (h : rulesEq xs ys) : toldL n t xs ys = hitT t n xs ys := by
  rw [toldL_eq h]
  unfold hitT
  congr 1
  funext p
  congr 1
  funext q
  exact hitP_eq hok n q
theorem told_one : ∀ {xs ys : List AAct}, toldL 1 [] xs ys = neRules xs ys
  | [], _ => by simp [toldL, neRules]
  | _ :: _, [] => by simp [toldL, neRules]
  | a :: xs, b :: ys => by
    have hn : (a.next.zip b.next).any (hitP 1 []) = false := by
      rw [List.any_eq_false]
      intro p _
      simp [hitP, tget]
    have ih := told_one (xs := xs) (ys := ys)
    unfold neRules at ih ⊢
    rw [toldL, List.zip_cons_cons, List.any_cons, hn, ih]
    by_cases h : a.rule = b.rule
    · simp [h]
    · simp [h]
theorem hitT_iff {t : Tbl} {v : Int} {xs ys : List AAct} : hitT t v xs ys = true ↔ hitAt t v xs ys := by
  unfold hitT hitAt
  rw [List.any_eq_true]
  constructor
  · rintro ⟨⟨x, y⟩, hp, h⟩
    obtain ⟨c, hc⟩ := List.getElem?_of_mem hp
    rw [List.getElem?_zip_eq_some] at hc
    obtain ⟨q, hq, h2⟩ := List.any_eq_true.1 h
    obtain ⟨k, hk⟩ := List.getElem?_of_mem hq
    exact ⟨c, x, y, k, q, hc.1, hc.2, hk, by simpa using h2⟩
  · rintro ⟨c, x, y, k, q, hx, hy, hk, h⟩
    refine ⟨(x, y), List.mem_of_getElem? (i := c) (by rw [List.getElem?_zip_eq_some]; exact ⟨hx, hy⟩), ?_⟩
    exact List.any_eq_true.2 ⟨q, List.mem_of_getElem? hk, by simpa using h⟩
theorem hitT_swap (t : Tbl) (v : Int) (xs ys : List AAct) : hitT t v xs ys = hitT t v ys xs := by
  rw [Bool.eq_iff_iff, hitT_iff, hitT_iff]
  exact ⟨hitAt.swap, hitAt.swap⟩
theorem neRules_swap (xs ys : List AAct) : neRules xs ys = neRules ys xs := by
  have h : neRules xs ys = false ↔ neRules ys xs = false := by
    rw [← rulesEq_ne, ← rulesEq_ne]
    exact ⟨rulesEq.swap, rulesEq.swap⟩
  cases h1 : neRules xs ys <;> cases h2 : neRules ys xs <;> simp [h1, h2] at h ⊢
theorem neRules_refl (xs : List AAct) : neRules xs xs = false := by
  rw [← rulesEq_ne]
  intro c x y hx hy
  rw [hx] at hy
  injection hy with e
  rw [e]

/-! ### one round -/
def nextT (m : Mach) (r : Int) (t : Tbl) : Tbl := t ++ (foundTo m t r m.length).map fun q => (q, r)
theorem TblInv.tv_none {m : Mach} {r : Int} {t : Tbl} (h : TblInv m r t) (i k : Nat) : tv t i k = 0 ↔ tget t (bothI i k) = none := by
  unfold tv
  cases e : tget t (bothI i k) with
  | none => simp
  | some v =>
    have := (h.low _ _ e).1
    simp
    omega
theorem tget_next {m : Mach} {r : Int} {t : Tbl} {a b : Nat} (hab : a < b) (hb : b < m.length) (hn : tget t ((a : Int), (b : Int)) = none) :
    tget (nextT m r t) ((a : Int), (b : Int)) = if toldI m a b r t then some r else none := by
  unfold nextT
  rw [tget_app, hn]
  have hnp : newP m t r b a = toldI m a b r t := by unfold newP; rw [hn]; rfl
  by_cases h : toldI m a b r t = true
  · rw [if_pos h]
    have hm := found_of (t := t) hab hb (hnp.trans h)
    cases e : tget ((foundTo m t r m.length).map fun q => (q, r)) ((a : Int), (b : Int)) with
    | none =>
      rw [tget_none, fst_map] at e
      exact absurd hm e
    | some v => rw [(tget_map e).1]; rfl
  · rw [if_neg h]
    cases e : tget ((foundTo m t r m.length).map fun q => (q, r)) ((a : Int), (b : Int)) with
    | none => rfl
    | some v =>
      have h2 := found_new (tget_map e).2
      rw [hnp] at h2
      exact absurd h2 h
theorem tget_keep {m : Mach} {r : Int} {t : Tbl} {p : Int × Int} {v : Int} (h : tget t p = some v) : tget (nextT m r t) p = some v := by
  unfold nextT; rw [tget_app, h]; rfl
theorem nextT_ok {m : Mach} {r : Int} {t : Tbl} (h : TblOk m.length t) : TblOk m.length (nextT m r t) := h.add (List.prefix_refl _)

/-- What the reference writes for a pair in a round. -/
theorem tv_next {m : Mach} {r : Int} {t : Tbl} (hok : TblOk m.length t) (hinv : TblInv m r t) (hr : 2 ≤ r) {i k : Nat} (hi : i < m.length) (hk : k < m.length) :
    tv (nextT m r t) i k = if tv t i k = 0 then (if hitT t r (rowM m i) (rowM m k) then r else 0) else tv t i k := by
  have key : ∀ a b : Nat, a < b → b < m.length → tv (nextT m r t) a b = if tv t a b = 0 then (if hitT t r (rowM m a) (rowM m b) then r else 0) else tv t a b := by
    intro a b hab hb
    by_cases h0 : tv t a b = 0
    · rw [if_pos h0]
      rw [hinv.tv_none, bothI_lt hab] at h0
      have heq := hinv.eq hr a b hab hb h0
      unfold tv
      rw [bothI_lt hab, tget_next hab hb h0]
      have e : toldI m a b r t = hitT t r (rowM m a) (rowM m b) := told_hit hok heq
      rw [e]
      cases hitT t r (rowM m a) (rowM m b) <;> simp
    · rw [if_neg h0]
      unfold tv at h0 ⊢
      cases e : tget t (bothI a b) with
      | none => rw [e] at h0; exact absurd rfl h0
      | some v => rw [tget_keep e]
  rcases Nat.lt_trichotomy i k with h | h | h
  · exact key i k h hk
  · subst h
    have e0 : tv t i i = 0 := by
      unfold tv
      rw [show bothI (i : Int) i = ((i : Int), (i : Int)) by unfold bothI; congr 1 <;> omega, tget_diag hok]; rfl
    have e1 : tv (nextT m r t) i i = 0 := by
      unfold tv
      rw [show bothI (i : Int) i = ((i : Int), (i : Int)) by unfold bothI; congr 1 <;> omega, tget_diag (nextT_ok hok)]; rfl
    have e2 : hitT t r (rowM m i) (rowM m i) = false := by
      cases hh : hitT t r (rowM m i) (rowM m i) with
      | false => rfl
      | true =>
        obtain ⟨c, x, y, j, p, hx, hy, hp, ht⟩ := hitT_iff.1 hh
        rw [hx] at hy
        injection hy with hy
        subst hy
        obtain ⟨p1, p2⟩ := p
        rw [List.getElem?_zip_eq_some] at hp
        have e : p1 = p2 := by
          have := hp.1.symm.trans hp.2
          injection this
        subst e
        rw [show bothI p1 p1 = (p1, p1) by unfold bothI; congr 1 <;> omega, tget_diag hok] at ht
        cases ht
    rw [e0, e1, e2]
    rfl
  · rw [tv_swap, key k i h hi, tv_swap t k i, hitT_swap]
theorem tv_one {m : Mach} {i k : Nat} (hi : i < m.length) (hk : k < m.length) : tv (nextT m 1 []) i k = if neRules (rowM m i) (rowM m k) then 1 else 0 := by
  have key : ∀ a b : Nat, a < b → b < m.length → tv (nextT m 1 []) a b = if neRules (rowM m a) (rowM m b) then 1 else 0 := by
    intro a b hab hb
    unfold tv
    rw [bothI_lt hab, tget_next hab hb rfl]
    have e : toldI m a b 1 [] = neRules (rowM m a) (rowM m b) := told_one
    rw [e]
    cases neRules (rowM m a) (rowM m b) <;> simp
  rcases Nat.lt_trichotomy i k with h | h | h
  · exact key i k h hk
  · subst h
    rw [neRules_refl]
    unfold tv
    rw [show bothI (i : Int) i = ((i : Int), (i : Int)) by unfold bothI; congr 1 <;> omega, tget_diag (nextT_ok (TblOk.nil _))]; rfl
  · rw [tv_swap, key k i h hi, neRules_swap]
theorem hit_same {m : Mach} {r : Int} {t : Tbl} (_hinv : TblInv m r t) (hr : 2 ≤ r) (x y : Int) : (tget t (bothI x y) == some (r - 1)) = ((tget t (bothI x y)).getD 0 == r - 1) := by
  cases tget t (bothI x y) with
  | none => simp; omega
  | some v => simp

/-! ### all rounds -/
/-- Ahead of round r the table is t. -/
structure FarSt (m : Mach) (r : Int) (f : Nat) (t : Tbl) : Prop where
  ok : TblOk m.length t
  inv : TblInv m r t
  go : roundsGo m f r t = roundsA m
  sum : r + f = 4201
  two : 2 ≤ r
  len : r - 1 ≤ t.length ∨ (r = 2 ∧ t = [])
theorem tblInv0 (m : Mach) : TblInv m 1 [] := ⟨fun h => by omega, fun p v h => by simp [tget] at h, fun a b v _ _ h => by simp [tget] at h⟩
theorem found_two (m : Mach) : foundTo m [] 2 m.length = [] := by
  cases h : foundTo m [] 2 m.length with
  | nil => rfl
  | cons p ps =>
    obtain ⟨a, b, rfl, _, _, _⟩ := foundTo_mem (m := m) (t := []) (n := 2) (k := m.length) (p := p) (by rw [h]; simp)
    have h2 := found_new (m := m) (t := []) (n := 2) (a := a) (b := b) (by rw [h]; simp)
    unfold newP at h2
    simp only [Bool.and_eq_true] at h2
    obtain ⟨c, x, y, k, q, _, _, _, ht⟩ := toldL_hit (by decide) h2.2
    simp [tget] at ht
theorem roundsGo_cons {m : Mach} {f : Nat} {r : Int} {t : Tbl} (h : foundTo m t r m.length ≠ []) : roundsGo m (f + 1) r t = roundsGo m f (r + 1) (nextT m r t) := by
  unfold nextT
  cases e : foundTo m t r m.length with
  | nil => exact absurd e h
  | cons p ps => rw [roundsGo, e]
theorem roundsGo_nil {m : Mach} {f : Nat} {r : Int} {t : Tbl} (h : foundTo m t r m.length = []) : roundsGo m f r t = t := by
  cases f with
  | zero => rfl
  | succ f => rw [roundsGo, h]
theorem far_start (m : Mach) : FarSt m 2 4199 (nextT m 1 []) := by
  have hi := (tblInv0 m).step (by omega) (fun _ => rfl)
  refine ⟨nextT_ok (TblOk.nil _), hi, ?_, by omega, by omega, ?_⟩
  · by_cases h : foundTo m [] 1 m.length = []
    · have e : nextT m 1 [] = [] := by unfold nextT; rw [h]; rfl
      rw [e, roundsGo_nil (found_two m)]
      exact (roundsGo_nil (f := 4200) h).symm
    · exact (roundsGo_cons (f := 4199) h).symm
  · by_cases h : foundTo m [] 1 m.length = []
    · right
      exact ⟨rfl, by unfold nextT; rw [h]; rfl⟩
    · left
      unfold nextT
      have := List.length_pos_iff.2 h
      simp
      omega
theorem FarSt.done {m : Mach} {r : Int} {f : Nat} {t : Tbl} (h : FarSt m r f t) (hn : foundTo m t r m.length = []) : roundsA m = t := by
  rw [← h.go, roundsGo_nil hn]
theorem FarSt.next {m : Mach} {r : Int} {f : Nat} {t : Tbl} (h : FarSt m r f t) (hm : m.length ≤ 64) (hn : foundTo m t r m.length ≠ []) : ∃ f', f = f' + 1 ∧ FarSt m (r + 1) f' (nextT m r t) := by
  have hl := h.ok.len hm
  have hr : r ≤ 4200 := by
    rcases h.len with h1 | ⟨h1, _⟩ <;> omega
  have := h.sum
  obtain ⟨f', rfl⟩ : ∃ f', f = f' + 1 := ⟨f - 1, by omega⟩
  have hi := h.inv.step (by have := h.two; omega) (fun e => by have := h.two; omega)
  refine ⟨f', rfl, nextT_ok h.ok, hi, ?_, by push_cast at this; omega, by have := h.two; omega, ?_⟩
  · rw [← h.go, roundsGo_cons hn]
  · left
    have hp := List.length_pos_iff.2 hn
    unfold nextT
    rcases h.len with h1 | ⟨h1, h2⟩
    · simp; omega
    · exfalso
      subst h1 h2
      exact hn (found_two m)
/-- Whether a round finds something: there is a pair that was not known and is hit. -/
theorem found_iff {m : Mach} {r : Int} {f : Nat} {t : Tbl} (h : FarSt m r f t) : foundTo m t r m.length ≠ [] ↔ ∃ i k, i < m.length ∧ k < m.length ∧ tv t i k = 0 ∧ hitT t r (rowM m i) (rowM m k) = true := by
  constructor
  · intro hn
    obtain ⟨p, hp⟩ := List.exists_mem_of_ne_nil _ hn
    obtain ⟨a, b, rfl, hab, hb, hno⟩ := foundTo_mem hp
    have h2 := found_new hp
    unfold newP at h2
    simp only [Bool.and_eq_true] at h2
    refine ⟨a, b, by omega, hb, ?_, ?_⟩
    · rw [h.inv.tv_none, bothI_lt hab]; exact hno
    · rw [← told_hit h.ok (h.inv.eq h.two a b hab hb hno)]; exact h2.2
  · rintro ⟨i, k, hi, hk, h0, hh⟩ hnil
    have e := tv_next h.ok h.inv h.two hi hk
    rw [if_pos h0, if_pos hh] at e
    have e2 : nextT m r t = t := by unfold nextT; rw [hnil]; simp
    rw [e2, h0] at e
    have := h.two
    omega

/-! ### pairs that one letter tells apart -/
theorem one_known {m : Mach} {p q : Nat} (hp : p < m.length) (hq : q < m.length) (h : tget (roundsA m) (bothI p q) = some 1) : neRules (rowM m p) (rowM m q) = true := by
  have gen : ∀ (f : Nat) (n : Int) (t : Tbl), 1 ≤ n → (n = 1 → t = []) → (∀ a b : Nat, a < b → b < m.length → tget t ((a : Int), (b : Int)) = some 1 → neRules (rowM m a) (rowM m b) = true) →
      ∀ a b : Nat, a < b → b < m.length → tget (roundsGo m f n t) ((a : Int), (b : Int)) = some 1 → neRules (rowM m a) (rowM m b) = true := by
    intro f
    induction f with
    | zero => intro n t _ _ h; exact h
    | succ f ih =>
      intro n t hn h1 ht a b hab hb he
      by_cases hf : foundTo m t n m.length = []
      · rw [roundsGo_nil hf] at he
        exact ht a b hab hb he
      · rw [roundsGo_cons hf] at he
        refine ih (n + 1) _ (by omega) (by omega) ?_ a b hab hb he
        intro a b hab hb he
        cases hx : tget t ((a : Int), (b : Int)) with
        | some v =>
          rw [tget_keep hx] at he
          exact ht a b hab hb (hx.trans he)
        | none =>
          rw [tget_next hab hb hx] at he
          split at he
          · rename_i hto
            injection he with he
            subst he
            have e := h1 rfl
            subst e
            rw [← told_one]
            exact hto
          · cases he
  have key : ∀ a b : Nat, a < b → b < m.length → tget (roundsA m) ((a : Int), (b : Int)) = some 1 → neRules (rowM m a) (rowM m b) = true :=
    gen 4200 1 [] (by omega) (fun _ => rfl) (fun a b _ _ h => by simp [tget] at h)
  rcases Nat.lt_trichotomy p q with hlt | he | hlt
  · rw [bothI_lt hlt] at h; exact key p q hlt hq h
  · subst he
    rw [show bothI (p : Int) p = ((p : Int), (p : Int)) by unfold bothI; congr 1 <;> omega, tget_diag (roundsA_ok m)] at h
    cases h
  · rw [bothI_swap, bothI_lt hlt] at h; rw [neRules_swap]; exact key q p hlt hp h

set_option maxRecDepth 100000 in
theorem keep_all : ((List.range 64).all fun r => (List.range (2 ^ (memL (r : Int)).length)).all fun k => decide (keepO (memL (r : Int)) (k : Int) (memL (r : Int)).length = keepsI (memL (r : Int)) (k : Int))) = true := by kernel_rfl
theorem keep_eq {r c : Int} (hr : isB r) {k : Nat} (hk : k < 2 ^ (othersA r c).length) : keepO (othersA r c) k (othersA r c).length = keepsI (othersA r c) k := by
  obtain ⟨x, hx, hx64⟩ := nat_of (andNot_isB (b := 2 ^ c.toNat) hr)
  unfold othersA at hk ⊢
  rw [hx] at hk ⊢
  have h := keep_all
  rw [List.all_eq_true] at h
  have h2 := h x (List.mem_range.2 hx64)
  rw [List.all_eq_true] at h2
  exact of_decide_eq_true (h2 k (List.mem_range.2 hk))
end Go.Proofs.Ytlnonadkdonhmaa

/- A matrix of numbers in memory. -/
namespace Go.Proofs.Ytlnonadkdonhmaa
open Go.RowKit Go.Maps

def rowV (n b : Nat) : Value := .slice (some ⟨b, 0, none⟩) n n
def noRow : Value := .slice none 0 0
/-- Rows that are made so far, and what they hold. -/
structure MatAt (w : World) (bo n : Nat) (bs : List Nat) (M : Nat → Nat → Int) : Prop where
  out : Blk w bo (.cells (bs.map (rowV n) ++ List.replicate (n - bs.length) noRow).toArray 22)
  nodup : bs.Nodup
  len : bs.length ≤ n
  row : ∀ (i : Nat) (b : Nat), bs[i]? = some b → Blk w b (.cells (ints ((List.range n).map fun k => M i k)).toArray 3)

def upd (M : Nat → Nat → Int) (i k : Nat) (v : Int) : Nat → Nat → Int := fun x y => if x = i ∧ y = k then v else M x y
theorem info22 : (Try.prog.info? 22).map (fun i => (i.zero, i.size, i.bytes)) = some (some (.slice none 0 0), 1, 24) := by kernel_rfl
theorem sz22 : (Try.prog.info? 22).map (·.size) = some 1 := by kernel_rfl

section
variable {w w' : World} {bo n : Nat} {bs : List Nat} {M M' : Nat → Nat → Int} {S : Nat → Prop}
theorem MatAt.lt (h : MatAt w bo n bs M) : bo < w.heap.size := h.out.lt
theorem MatAt.rlt (h : MatAt w bo n bs M) {b : Nat} (hb : b ∈ bs) : b < w.heap.size := by
  obtain ⟨i, hi⟩ := List.getElem?_of_mem hb
  exact (h.row i b hi).lt
theorem MatAt.frame (h : MatAt w bo n bs M) (hF : Frame S w w') (h1 : ¬ S bo) (h2 : ∀ b ∈ bs, ¬ S b) : MatAt w' bo n bs M :=
  ⟨h.out.frame hF h1, h.nodup, h.len, fun i b hi => (h.row i b hi).frame hF (h2 b (List.mem_of_getElem? hi))⟩
theorem MatAt.below (h : MatAt w bo n bs M) (hB : Below w.heap.size w w') : MatAt w' bo n bs M :=
  h.frame (S := fun _ => False) (Frame.of_all hB) (fun h => h) (fun _ _ h => h)
theorem MatAt.congr (h : MatAt w bo n bs M) (hM : ∀ i k, i < bs.length → k < n → M i k = M' i k) : MatAt w bo n bs M' := by
  refine ⟨h.out, h.nodup, h.len, fun i b hi => ?_⟩
  have hlt := (List.getElem?_eq_some_iff.1 hi).1
  have e : (List.range n).map (fun k => M i k) = (List.range n).map fun k => M' i k := List.map_congr_left fun k hk => hM i k hlt (List.mem_range.1 hk)
  rw [← e]
  exact h.row i b hi
theorem MatAt.ne (h : MatAt w bo n bs M) {b : Nat} (hb : b ∈ bs) : bo ≠ b := by
  obtain ⟨i, hi⟩ := List.getElem?_of_mem hb
  exact blk_ne h.out (h.row i b hi) (by decide)
/-- Row i: where it lies. -/
theorem MatAt.at_ (h : MatAt w bo n bs M) {i : Nat} (hi : i < bs.length) : ∃ b, bs[i]? = some b ∧ b < w.heap.size ∧ w.cell? ⟨bo, i, none⟩ = some (.slice (some ⟨b, 0, none⟩) n n) ∧
    (∀ k, k < n → w.cell? ⟨b, k, none⟩ = some (.int .i64 (M i k))) ∧ ∀ k, w.frozen? ⟨b, k, none⟩ = false := by
  refine ⟨bs[i], List.getElem?_eq_getElem hi, (h.row i _ (List.getElem?_eq_getElem hi)).lt, ?_, fun k hk => ?_, fun k => (h.row i _ (List.getElem?_eq_getElem hi)).free k⟩
  · refine h.out.cell i ?_
    rw [List.getElem?_toArray, List.getElem?_append_left (by simpa using hi), List.getElem?_map, List.getElem?_eq_getElem hi]
    rfl
  · refine (h.row i _ (List.getElem?_eq_getElem hi)).cell k ?_
    simp [ints, hk]
theorem MatAt.set (h : MatAt w bo n bs M) {i k b : Nat} (hb : bs[i]? = some b) (hk : k < n) (v : Int) : MatAt (w.setCell ⟨b, k, none⟩ (.int .i64 v)) bo n bs (upd M i k v) := by
  have hi := (List.getElem?_eq_some_iff.1 hb).1
  refine ⟨h.out.far (h.ne (List.mem_of_getElem? hb)) _, h.nodup, h.len, fun x b' hx => ?_⟩
  by_cases e : x = i
  · subst e
    have eb : b = b' := by rw [hb] at hx; injection hx
    subst eb
    have e2 := (h.row x b hb).set k (.int .i64 v)
    rw [ints_set] at e2
    have e3 : ((List.range n).map fun y => M x y).set k v = (List.range n).map fun y => upd M x k v x y := by
      apply List.ext_getElem?
      intro y
      rw [List.getElem?_set]
      by_cases hy : k = y
      · subst hy
        simp [hk, upd]
      · rw [if_neg hy, List.getElem?_map, List.getElem?_map]
        have : ¬ y = k := fun e => hy e.symm
        by_cases hyn : y < n
        · simp [upd, this, hyn]
        · simp [upd, hyn]
    rw [← e3]
    exact e2
  · have hne : b' ≠ b := by
      rintro rfl
      exact e (nodup_at h.nodup hx hb)
    have e3 : (List.range n).map (fun y => upd M i k v x y) = (List.range n).map fun y => M x y := by
      refine List.map_congr_left fun y _ => ?_
      simp [upd, e]
    rw [e3]
    exact (h.row x b' hx).far hne _
/-- One more row, of zeros. -/
theorem MatAt.push (h : MatAt w bo n bs M) (hl : bs.length < n) {b : Nat} (hb : Blk w b (.cells (ints (List.replicate n 0)).toArray 3)) (hnew : b ∉ bs) : MatAt (w.setCell ⟨bo, bs.length, none⟩ (.slice (some ⟨b, 0, none⟩) n n)) bo n (bs ++ [b]) (fun x y => if x = bs.length then 0 else M x y) := by
  have hne : b ≠ bo := blk_ne hb h.out (by decide)
  refine ⟨?_, ?_, by simp; omega, fun i b' hi => ?_⟩
  · have e := h.out.set bs.length (.slice (some ⟨b, 0, none⟩) n n)
    have e2 : (bs.map (rowV n) ++ List.replicate (n - bs.length) noRow).toArray.setIfInBounds bs.length (.slice (some ⟨b, 0, none⟩) n n) = ((bs ++ [b]).map (rowV n) ++ List.replicate (n - (bs ++ [b]).length) noRow).toArray := by
      have hz : n - bs.length = (n - (bs ++ [b]).length) + 1 := by simp; omega
      rw [List.setIfInBounds_toArray, hz, List.replicate_succ, List.set_append_right _ _ (by simp)]
      simp [rowV]
    rw [e2] at e
    exact e
  · rw [List.nodup_append]
    refine ⟨h.nodup, by simp, ?_⟩
    intro x hx y hy e
    simp at hy
    subst hy e
    exact hnew hx
  · by_cases hlt : i < bs.length
    · rw [List.getElem?_append_left hlt] at hi
      have hne2 : b' ≠ bo := fun e => (h.ne (List.mem_of_getElem? hi)) e.symm
      have e3 : (List.range n).map (fun k => if i = bs.length then 0 else M i k) = (List.range n).map fun k => M i k := by
        refine List.map_congr_left fun y _ => ?_
        rw [if_neg (by omega)]
      rw [e3]
      exact (h.row i b' hi).far hne2 _
    · have hlen := (List.getElem?_eq_some_iff.1 hi).1
      simp at hlen
      have e1 : i = bs.length := by omega
      subst e1
      rw [List.getElem?_append_right (Nat.le_refl _)] at hi
      simp at hi
      subst hi
      have e3 : (List.range n).map (fun k => if bs.length = bs.length then 0 else M bs.length k) = List.replicate n 0 := by
        apply List.ext_getElem?
        intro y
        rw [List.getElem?_map, List.getElem?_replicate]
        by_cases hy : y < n
        · simp [hy]
        · simp [hy]
      rw [e3]
      exact hb.far hne _
theorem MatAt.start {bo : Nat} (h : Blk w bo (.cells (List.replicate n noRow).toArray 22)) (M : Nat → Nat → Int) : MatAt w bo n [] M :=
  ⟨by simpa using h, by simp, by simp, fun i b hi => by simp at hi⟩
theorem made_rows (n : Nat) : (madeCells (Value.slice none 0 0).cells (n * 1)).toList = List.replicate n noRow := by
  unfold madeCells
  rw [Nat.mul_one]
  apply List.ext_getElem
  · simp
  · intro i h1 h2
    simp [Value.cells, Nat.mod_one, noRow]
end

/-! ### what far holds -/
/-- How far a round has come: all pairs ahead of (i, k) are new. -/
def mixM (t t' : Tbl) (i k : Nat) : Nat → Nat → Int := fun x y => if x < i ∨ (x = i ∧ y < k) then tv t' x y else tv t x y
theorem tv_nn {m : Mach} {r : Int} {t : Tbl} (h : TblInv m r t) (i k : Nat) : 0 ≤ tv t i k ∧ tv t i k < r ∨ (tv t i k = 0) := by
  unfold tv
  cases e : tget t (bothI i k) with
  | none => right; rfl
  | some v =>
    have := h.low _ _ e
    left
    simp
    omega
theorem mix_test {m : Mach} {r : Int} {f : Nat} {t : Tbl} (h : FarSt m r f t) {i k x y : Nat} (hx : x < m.length) (hy : y < m.length) (h0 : tv t i k = 0) {v : Int} (hv : v = 0 ∨ v = r) :
    (upd (mixM t (nextT m r t) i k) i k v x y == r - 1) = (tget t (bothI x y) == some (r - 1)) := by
  have h2 := h.two
  have hs := hit_same h.inv h2 (x : Int) (y : Int)
  have hz : ∀ {a b : Nat}, tv t a b = 0 → (tget t (bothI a b) == some (r - 1)) = false := by
    intro a b hab
    rw [h.inv.tv_none] at hab
    rw [hab]; rfl
  unfold upd mixM
  by_cases e : x = i ∧ y = k
  · rw [if_pos e, e.1, e.2, hz h0]
    rcases hv with hv | hv <;> (subst hv; simp; omega)
  · rw [if_neg e]
    by_cases e2 : x < i ∨ (x = i ∧ y < k)
    · rw [if_pos e2, tv_next h.ok h.inv h2 hx hy]
      by_cases e3 : tv t x y = 0
      · rw [if_pos e3, hz e3]
        split <;> simp <;> omega
      · rw [if_neg e3, hs]; rfl
    · rw [if_neg e2, hs]; rfl
theorem mix_step {m : Mach} {r : Int} {f : Nat} {t : Tbl} (h : FarSt m r f t) {i k : Nat} (hi : i < m.length) (hk : k < m.length) (h0 : tv t i k = 0) : ∀ x y, upd (mixM t (nextT m r t) i k) i k (if hitT t r (rowM m i) (rowM m k) then r else 0) x y = mixM t (nextT m r t) i (k + 1) x y := by
  intro x y
  unfold upd mixM
  by_cases e : x = i ∧ y = k
  · obtain ⟨rfl, rfl⟩ := e
    rw [if_pos ⟨rfl, rfl⟩, if_pos (show x < x ∨ x = x ∧ y < y + 1 from .inr ⟨rfl, Nat.lt_succ_self _⟩), tv_next h.ok h.inv h.two hi hk, if_pos h0]
  · rw [if_neg e]
    have e2 : (x < i ∨ (x = i ∧ y < k)) ↔ (x < i ∨ (x = i ∧ y < k + 1)) := by
      constructor
      · rintro (h1 | ⟨h1, h2⟩)
        · exact .inl h1
        · exact .inr ⟨h1, by omega⟩
      · rintro (h1 | ⟨h1, h2⟩)
        · exact .inl h1
        · refine .inr ⟨h1, ?_⟩
          have : y ≠ k := fun e3 => e ⟨h1, e3⟩
          omega
    simp only [e2]
theorem mix_keep {m : Mach} {r : Int} {f : Nat} {t : Tbl} (h : FarSt m r f t) {i k : Nat} (hi : i < m.length) (hk : k < m.length) (h0 : tv t i k ≠ 0) : ∀ x y, mixM t (nextT m r t) i k x y = mixM t (nextT m r t) i (k + 1) x y := by
  intro x y
  unfold mixM
  by_cases e : x = i ∧ y = k
  · obtain ⟨rfl, rfl⟩ := e
    rw [if_neg (by omega), if_pos (show x < x ∨ x = x ∧ y < y + 1 from .inr ⟨rfl, Nat.lt_succ_self _⟩), tv_next h.ok h.inv h.two hi hk, if_neg h0]
  · have e2 : (x < i ∨ (x = i ∧ y < k)) ↔ (x < i ∨ (x = i ∧ y < k + 1)) := by
      constructor
      · rintro (h1 | ⟨h1, h2⟩)
        · exact .inl h1
        · exact .inr ⟨h1, by omega⟩
      · rintro (h1 | ⟨h1, h2⟩)
        · exact .inl h1
        · refine .inr ⟨h1, ?_⟩
          have : y ≠ k := fun e3 => e ⟨h1, e3⟩
          omega
    simp only [e2]
/-- Whether a pair ahead of (i, k) was found in this round. -/
def moreP (m : Mach) (r : Int) (t : Tbl) (i k : Nat) : Prop := ∃ x y, x < m.length ∧ y < m.length ∧ (x < i ∨ (x = i ∧ y < k)) ∧ tv t x y = 0 ∧ hitT t r (rowM m x) (rowM m y) = true
theorem more_row {m : Mach} {r : Int} {t : Tbl} {i : Nat} : moreP m r t i m.length ↔ moreP m r t (i + 1) 0 := by
  constructor
  · rintro ⟨x, y, hx, hy, h1, h2⟩
    exact ⟨x, y, hx, hy, .inl (by omega), h2⟩
  · rintro ⟨x, y, hx, hy, h1, h2⟩
    refine ⟨x, y, hx, hy, ?_, h2⟩
    rcases Nat.lt_or_ge x i with h | h
    · exact .inl h
    · exact .inr ⟨by omega, hy⟩
theorem more_step {m : Mach} {r : Int} {t : Tbl} {i k : Nat} (hi : i < m.length) (hk : k < m.length) (h0 : tv t i k = 0) : moreP m r t i (k + 1) ↔ (moreP m r t i k ∨ hitT t r (rowM m i) (rowM m k) = true) := by
  constructor
  · rintro ⟨x, y, hx, hy, h1, h2⟩
    by_cases e : x = i ∧ y = k
    · obtain ⟨rfl, rfl⟩ := e
      exact .inr h2.2
    · refine .inl ⟨x, y, hx, hy, ?_, h2⟩
      rcases h1 with h1 | ⟨h1, h3⟩
      · exact .inl h1
      · refine .inr ⟨h1, ?_⟩
        have : y ≠ k := fun e3 => e ⟨h1, e3⟩
        omega
  · rintro (⟨x, y, hx, hy, h1, h2⟩ | h)
    · refine ⟨x, y, hx, hy, ?_, h2⟩
      rcases h1 with h1 | ⟨h1, h3⟩
      · exact .inl h1
      · exact .inr ⟨h1, by omega⟩
    · exact ⟨i, k, hi, hk, .inr ⟨rfl, Nat.lt_succ_self _⟩, h0, h⟩
theorem more_keep {m : Mach} {r : Int} {t : Tbl} {i k : Nat} (h0 : tv t i k ≠ 0) : moreP m r t i (k + 1) ↔ moreP m r t i k := by
  constructor
  · rintro ⟨x, y, hx, hy, h1, h2⟩
    refine ⟨x, y, hx, hy, ?_, h2⟩
    rcases h1 with h1 | ⟨h1, h3⟩
    · exact .inl h1
    · refine .inr ⟨h1, ?_⟩
      have : y ≠ k := by
        rintro rfl
        subst h1
        exact h0 h2.1
      omega
  · rintro ⟨x, y, hx, hy, h1, h2⟩
    refine ⟨x, y, hx, hy, ?_, h2⟩
    rcases h1 with h1 | ⟨h1, h3⟩
    · exact .inl h1
    · exact .inr ⟨h1, by omega⟩
theorem more_done {m : Mach} {r : Int} {f : Nat} {t : Tbl} (h : FarSt m r f t) : moreP m r t m.length 0 ↔ foundTo m t r m.length ≠ [] := by
  rw [found_iff h]
  constructor
  · rintro ⟨x, y, hx, hy, _, h2⟩
    exact ⟨x, y, hx, hy, h2⟩
  · rintro ⟨x, y, hx, hy, h2⟩
    exact ⟨x, y, hx, hy, .inl hx, h2⟩
theorem far_rulesEq {m : Mach} {r : Int} {f : Nat} {t : Tbl} (h : FarSt m r f t) {i k : Nat} (hi : i < m.length) (hk : k < m.length) (h0 : tv t i k = 0) : rulesEq (rowM m i) (rowM m k) := by
  rw [h.inv.tv_none] at h0
  rcases Nat.lt_trichotomy i k with hlt | he | hlt
  · rw [bothI_lt hlt] at h0; exact h.inv.eq h.two i k hlt hk h0
  · subst he
    intro c x y hx hy
    rw [hx] at hy
    injection hy with e
    rw [e]
  · rw [bothI_swap, bothI_lt hlt] at h0; exact (h.inv.eq h.two k i hlt hi h0).swap
theorem MatAt.drew {w : World} {bo n : Nat} {bs : List Nat} {M : Nat → Nat → Int} (h : MatAt w bo n bs M) : MatAt w.drew bo n bs M := h.frame (S := fun _ => False) (Frame.refl _ w).drew (fun h => h) (fun _ _ h => h)
theorem MatAt.hole {w : World} {bo n : Nat} {bs : List Nat} {M : Nat → Nat → Int} (h : MatAt w bo n bs M) (hl : bs.length < n) : w.cell? ⟨bo, bs.length, none⟩ = some (.slice none 0 0) ∧ w.frozen? ⟨bo, bs.length, none⟩ = false := by
  refine ⟨h.out.cell _ ?_, h.out.free _⟩
  have e : n - bs.length = (n - bs.length - 1) + 1 := by omega
  rw [List.getElem?_toArray, List.getElem?_append_right (by simp), List.length_map, Nat.sub_self, e, List.replicate_succ]
  rfl

/-! ### the loops' tests -/
def neTo (xs ys : List AAct) (c : Nat) : Bool := ((xs.zip ys).take c).any fun p => p.1.rule != p.2.rule
def hitQ (t : Tbl) (v : Int) (q : Int × Int) : Bool := tget t (bothI q.1 q.2) == some (v - 1)
def hitC (t : Tbl) (v : Int) (p : AAct × AAct) : Bool := (p.1.next.zip p.2.next).any (hitQ t v)
def hitTo (t : Tbl) (v : Int) (xs ys : List AAct) (c : Nat) : Bool := ((xs.zip ys).take c).any (hitC t v)
def hitIn (t : Tbl) (v : Int) (a b : AAct) (q : Nat) : Bool := ((a.next.zip b.next).take q).any (hitQ t v)
theorem any_take_succ {α : Type} {p : α → Bool} {xs : List α} {k : Nat} {x : α} (h : xs[k]? = some x) : (xs.take (k + 1)).any p = ((xs.take k).any p || p x) := by
  rw [take_succ_of h, List.any_append]; simp
theorem zip_at {α β : Type} {xs : List α} {ys : List β} {c : Nat} {a : α} {b : β} (ha : xs[c]? = some a) (hb : ys[c]? = some b) : (xs.zip ys)[c]? = some (a, b) := by
  rw [List.getElem?_zip_eq_some]; exact ⟨ha, hb⟩
theorem neTo_step {xs ys : List AAct} {c : Nat} {a b : AAct} (ha : xs[c]? = some a) (hb : ys[c]? = some b) : neTo xs ys (c + 1) = (neTo xs ys c || (a.rule != b.rule)) := any_take_succ (zip_at ha hb)
theorem neTo_all {xs ys : List AAct} (h : xs.length = ys.length) : neTo xs ys xs.length = neRules xs ys := by
  unfold neTo neRules
  rw [List.take_of_length_le (by rw [List.length_zip]; omega)]
theorem hitTo_step {t : Tbl} {v : Int} {xs ys : List AAct} {c : Nat} {a b : AAct} (ha : xs[c]? = some a) (hb : ys[c]? = some b) : hitTo t v xs ys (c + 1) = (hitTo t v xs ys c || hitC t v (a, b)) := any_take_succ (zip_at ha hb)
theorem hitTo_all {t : Tbl} {v : Int} {xs ys : List AAct} (h : xs.length = ys.length) : hitTo t v xs ys xs.length = hitT t v xs ys := by
  unfold hitTo
  rw [List.take_of_length_le (by rw [List.length_zip]; omega)]
  rfl
theorem hitIn_step {t : Tbl} {v : Int} {a b : AAct} {q : Nat} {x y : Int} (ha : a.next[q]? = some x) (hb : b.next[q]? = some y) : hitIn t v a b (q + 1) = (hitIn t v a b q || hitQ t v (x, y)) := any_take_succ (zip_at ha hb)
theorem hitIn_all {t : Tbl} {v : Int} {a b : AAct} (h : a.next.length = b.next.length) : hitIn t v a b a.next.length = hitC t v (a, b) := by
  unfold hitIn
  rw [List.take_of_length_le (by rw [List.length_zip]; omega)]
  rfl
/-- A row of the machine: where it lies. -/
theorem row_at {n0 : Int} {rs : List Int} {w : World} {B : Option Addr} {m : Mach} {d i : Nat} (hM : MachAt w B m) (hf : formedA n0 rs m = true) (hi : i < m.length) :
    ∃ E f b o, b < w.heap.size ∧ (∀ w', (Instr.indexAt 25 (.slice B m.length d) (.int .i64 (i : Int))).run Try.prog w' = .ok (.pointer (some ⟨b, o, none⟩)) w') ∧ w.cell? ⟨b, o, none⟩ = some (.slice E (rowM m i).length f) ∧ ActsAt w E (rowM m i) ∧
      ((rowM m i).length : Int) = n0 ∧ allTo (fun c a => actOkA rs m.length c a) (rowM m i) (rowM m i).length = true := by
  obtain ⟨xs, E, f, b, o, hx, hb, hix, hc, ha⟩ := mach_at (c := d) (k := i) hM hi
  obtain ⟨ys, hy, hyl, hya⟩ := row_of hf hi
  have e : xs = ys := by rw [hx] at hy; injection hy
  subst e
  have e : rowM m i = xs := by unfold rowM; simp [List.getD, hx]
  rw [e]
  exact ⟨E, f, b, o, hb, hix, hc, ha, hyl, hya⟩
end Go.Proofs.Ytlnonadkdonhmaa

/- Contract: far of the reference. -/
namespace Go.Proofs.Ytlnonadkdonhmaa
open Go.RowKit Go.Maps


set_option maxRecDepth 100000 in
set_option maxHeartbeats 4000000 in
theorem far_any (n0 : Int) (rs : List Int) (B : Option Addr) (d : Nat) (m : Mach) (w : World) (hM : MachAt w B m) (hf : formedA n0 rs m = true) :
    Calls Try.prog 87 #[.agg #[.slice B m.length d]] w fun e w' => ∃ bo bs, e = .returned (.slice (some ⟨bo, 0, none⟩) m.length m.length) ∧ MatAt w' bo m.length bs (tv (roundsA m)) ∧ bs.length = m.length ∧ w.heap.size ≤ bo ∧ Below w.heap.size w w' := by
  have hml : m.length ≤ 64 := by
    simp only [formedA, Bool.and_eq_true, decide_eq_true_eq] at hf
    exact hf.1.2
  have HF := Lib.hid hf
  have HML := Lib.hid hml
  obtain ⟨i0, hi, hz0, hz1, hz2⟩ := info_parts info3
  obtain ⟨i2, hi2, hy0, hy1, hy2⟩ := info_parts info22
  obtain ⟨W, hW⟩ : ∃ W, w.alloc (.cells #[.slice B m.length d] 27) = W := ⟨_, rfl⟩
  have hg := Blk.new w (.cells #[.slice B m.length d] 27)
  have HB0 : Hid (Below w.heap.size w W) := by rw [← hW]; exact (Below.refl _ w).alloc (Nat.le_refl _) _
  have hsW : W.heap.size = w.heap.size + 1 := by rw [← hW]; simp
  rw [hW] at hg
  have G0 := Lib.hid (hg.cell 0 (v := .slice B m.length d) rfl)
  have c0 := hg.cell 0 (v := .slice B m.length d) rfl
  have lg := hg.lt
  clear hf
  go_enter Try.func87, Try.ntmps87
  clear hg
  go_wp2_with (at_make; go_must (refine wpList_make_full _ rfl _ _ 130 rfl W.heap.size 22 i2 (.slice none 0 0) 1 Try.underlying130 hi2 hy0 hy1 .i64 .i64 m.length m.length m.length rfl rfl rfl rfl (by rw [hy2]; omega) (by unfold maxLen; omega) (Nat.le_refl _) ?_); intro w1 ho1 hg1)
  clear hW
  rw [made_rows] at ho1
  have hs1 := hg1.size
  have HB1 : Hid (Below (w.heap.size + 1) W w1) := (Below.refl _ _).grown hg1 (by omega) (fun k e => by cases e)
  obtain ⟨bo, hbo⟩ : ∃ bo, w.heap.size + 1 = bo := ⟨_, rfl⟩
  rw [hsW, hbo] at ho1
  rw [hbo]
  have HM1 : Hid (MatAt w1 bo m.length [] (tv (nextT m 1 []))) := MatAt.start (own_full ho1) _
  have hboA : w.heap.size < bo := by omega
  have hboB : bo ≤ w.heap.size + 1 := by omega
  have hbo2 : bo < w1.heap.size := (own_full ho1).lt
  clear ho1 hg1 c0 hbo
  go_wp2
  go_loopw [24] (fun i wr => ∃ (k : Nat) (bs : List Nat), k ≤ m.length ∧ i = .int .i64 k ∧ bs.length = k ∧ MatAt wr bo m.length bs (tv (nextT m 1 [])) ∧ (∀ b ∈ bs, bo ≤ b) ∧ Below (w.heap.size + 1) W wr) (fun i _ => m.length - (intOf i).toNat)
  case atStart => exact ⟨0, [], Nat.zero_le _, rfl, rfl, HM1.out, by simp, HB1.out⟩
  case round =>
    obtain ⟨k, bs, hk, rfl, hbl, hmat, hbs, hB⟩ := hrel
    have HMAT := Lib.hid hmat
    have HBS := Lib.hid hbs
    have hBw : Below w.heap.size w wr := HB0.out.trans (hB.mono (Nat.le_succ _))
    have g0 := cell_chain hB (Nat.lt_succ_self _) G0.out
    have hsz : w.heap.size < wr.heap.size := by have := hB.size; omega
    have hbor := hmat.lt
    clear hmat hbs
    by_cases hlt : k < m.length
    · have hixo := ix_own (b := bo) (n := m.length) (c := m.length) Try.underlying130 sz22 hlt
      go_wp2_with (at_make; go_must (refine wpList_make_full _ rfl _ _ 22 rfl wr.heap.size 3 i0 (.int .i64 0) 1 Try.underlying22 hi hz0 hz1 .i64 .i64 m.length m.length m.length rfl rfl rfl rfl (by rw [hz2]; omega) (by unfold maxLen; omega) (Nat.le_refl _) ?_); intro w2 ho2 hg2; have HM2 : Hid (MatAt w2 bo m.length bs (tv (nextT m 1 []))) := HMAT.out.frame (Frame.of_grown hg2) (fun e => by cases e) (fun _ _ e => by cases e); have hh := HM2.out.hole (by omega); rw [hbl] at hh; have hh1 := hh.1; have hh2 := hh.2; clear hh; have hs2 := hg2.size; have hb2 : bo < w2.heap.size := Nat.lt_of_lt_of_le hbor hs2)
      obtain ⟨X, hX⟩ : ∃ X, w2.setCell ⟨bo, k, none⟩ (.slice (some ⟨wr.heap.size, 0, none⟩) m.length m.length) = X := ⟨_, rfl⟩
      rw [hX]
      rw [made_ints] at ho2
      have hbX : Blk w2 wr.heap.size (.cells (ints (List.replicate m.length 0)).toArray 3) := own_full ho2
      have HMX : Hid (MatAt X bo m.length (bs ++ [wr.heap.size]) (fun x y => if x = k then 0 else tv (nextT m 1 []) x y)) := by
        have e := HM2.out.push (by omega) hbX (fun hm => by have := HMAT.out.rlt hm; omega)
        rw [hbl, hX] at e
        exact e
      have HBX : Hid (Below (w.heap.size + 1) W X) := by
        rw [← hX]
        have e1 : Below (w.heap.size + 1) W w2 := hB.grown hg2 hsz (fun k e => by cases e)
        exact e1.setCell (p := ⟨bo, k, none⟩) (by show w.heap.size + 1 ≤ bo; omega) _
      obtain ⟨bs', hbs'⟩ : ∃ bs', bs ++ [wr.heap.size] = bs' := ⟨_, rfl⟩
      have hbl' : bs'.length = k + 1 := by rw [← hbs']; simp [hbl]
      have HBL := Lib.hid hbl'
      have HBS' : Hid (∀ b ∈ bs', bo ≤ b) := by
        intro b hb
        rw [← hbs'] at hb
        rcases List.mem_append.1 hb with hb | hb
        · exact HBS.out b hb
        · simp at hb; omega
      rw [hbs'] at HMX
      obtain ⟨E1, f1, b1, o1, hb1, hix1, hc1, ha1, hl1, hx1⟩ := row_at (d := d) (i := k) hM HF.out hlt
      obtain ⟨xs, hxs⟩ : ∃ xs, rowM m k = xs := ⟨_, rfl⟩
      rw [hxs] at hc1 ha1 hl1 hx1
      have HXS := Lib.hid hxs
      have HA1 := Lib.hid ha1
      have hxl := ha1.len
      have HC1 := Lib.hid hc1
      have HL1 := Lib.hid hl1
      clear hX ho2 hg2 hbX HM2 hh1 hh2 hs2 hb2 hixo hbs' hbl' hxs hx1 hl1 ha1 hc1 hB hBw g0 hsz HBS HMAT hbor
      go_wp2
      go_loopw [33] (fun i wr => ∃ j : Nat, j ≤ m.length ∧ i = .int .i64 j ∧ MatAt wr bo m.length bs' (fun x y => if x = k ∧ j ≤ y then 0 else tv (nextT m 1 []) x y) ∧ Below (w.heap.size + 1) W wr) (fun i _ => m.length - (intOf i).toNat)
      case atStart => exact ⟨0, Nat.zero_le _, rfl, HMX.out.congr (fun x y _ _ => by simp), HBX.out⟩
      case round =>
        obtain ⟨j, hj, rfl, hmat, hB⟩ := hrel
        have HMAT := Lib.hid hmat
        have hBw : Below w.heap.size w wr := HB0.out.trans (hB.mono (Nat.le_succ _))
        have g0 := cell_chain hB (Nat.lt_succ_self _) G0.out
        have hsz : w.heap.size < wr.heap.size := by have := hB.size; omega
        clear hmat
        by_cases hjt : j < m.length
        · have hc1 := cell_chain hBw hb1 HC1.out
          have hb1' : b1 < wr.heap.size := by omega
          obtain ⟨E2, f2, b2, o2, hb2, hix2, hc2, ha2, hl2, hx2⟩ := row_at (d := d) (i := j) hM HF.out hjt
          obtain ⟨ys, hys⟩ : ∃ ys, rowM m j = ys := ⟨_, rfl⟩
          rw [hys] at hc2 ha2 hl2 hx2
          have HYS := Lib.hid hys
          have HA2 := Lib.hid ha2
          have HC2 := Lib.hid hc2
          have HXY : Hid (xs.length = ys.length) := by have := HL1.out; show _ = _; omega
          obtain ⟨wo, rfl⟩ : ∃ wo : World, wo = wr := ⟨_, rfl⟩
          have HBo := Lib.hid hB
          clear hys hx2 hl2 ha2 hc2
          go_wp2
          clear hc1 g0 hsz hB hBw hb1'
          go_loopw [42] (fun i wr => ∃ c : Nat, c ≤ xs.length ∧ i = .int .i64 c ∧ MatAt wr bo m.length bs' (fun x y => if x = k ∧ y = j then (if neTo xs ys c then 1 else 0) else if x = k ∧ j ≤ y then 0 else tv (nextT m 1 []) x y) ∧ Below (w.heap.size + 1) W wr) (fun i _ => xs.length - (intOf i).toNat)
          case atStart =>
            refine ⟨0, Nat.zero_le _, rfl, HMAT.out.congr (fun x y _ _ => ?_), HBo.out⟩
            by_cases e : x = k ∧ y = j
            · rw [if_pos e, if_pos ⟨e.1, by omega⟩]; simp [neTo]
            · rw [if_neg e]
          case round =>
            obtain ⟨c, hc, rfl, hmat, hB⟩ := hrel
            have HMAT := Lib.hid hmat
            clear hmat
            by_cases hct : c < xs.length
            · obtain ⟨a, D1, e1, b3, o3, hya, hb3, hix3, hr3, hn3, _⟩ := acts_at (c := f1) (k := c) HA1.out hct
              obtain ⟨a', D2, e2, b4, o4, hyb, hb4, hix4, hr4, hn4, _⟩ := acts_at (c := f2) (k := c) HA2.out (by rw [← HXY.out]; exact hct)
              have HNS := Lib.hid (neTo_step hya hyb)
              obtain ⟨ru, nx⟩ := a
              obtain ⟨ru', nx'⟩ := a'
              simp only at hr3 hn3 hr4 hn4
              have hBw : Below w.heap.size w wr := HB0.out.trans (hB.mono (Nat.le_succ _))
              have g0 := cell_chain hB (Nat.lt_succ_self _) G0.out
              have hsz : w.heap.size < wr.heap.size := by have := hB.size; omega
              have q3 := cell_chain hBw hb3 hr3
              have q4 := cell_chain hBw hb3 hn3
              have s3 : b3 < wr.heap.size := by omega
              clear hya hyb
              go_wp2
              obtain ⟨X3, hX3⟩ : ∃ X3, wr.alloc (.cells #[.int .i64 ru, .slice D1 nx.length e1] 103) = X3 := ⟨_, rfl⟩
              have hB3 : Below (w.heap.size + 1) W X3 := by rw [← hX3]; exact hB.alloc hsz _
              have hm3 : MatAt X3 bo m.length bs' (fun x y => if x = k ∧ y = j then (if neTo xs ys c then 1 else 0) else if x = k ∧ j ≤ y then 0 else tv (nextT m 1 []) x y) := by rw [← hX3]; exact HMAT.out.below ((Below.refl _ _).alloc (Nat.le_refl _) _)
              have ba : Blk X3 wr.heap.size (.cells #[.int .i64 ru, .slice D1 nx.length e1] 103) := by rw [← hX3]; exact Blk.new _ _
              rw [hX3]
              have HMAT := Lib.hid hm3
              obtain ⟨ba0, hba0⟩ : ∃ ba0, wr.heap.size = ba0 := ⟨_, rfl⟩
              rw [hba0] at ba ⊢
              have p0 := ba.cell 0 (v := .int .i64 ru) rfl
              have lba := ba.lt
              clear q3 q4 g0 hsz s3 hm3 hX3 hba0 hB hBw ba
              have hBw : Below w.heap.size w X3 := HB0.out.trans (hB3.mono (Nat.le_succ _))
              have g0 := cell_chain hB3 (Nat.lt_succ_self _) G0.out
              have hsz : w.heap.size < X3.heap.size := by have := hB3.size; omega
              have q2 := cell_chain hBw hb2 HC2.out
              have q4 := cell_chain hBw hb4 hr4
              have s2 : b2 < X3.heap.size := by omega
              have s4 : b4 < X3.heap.size := by omega
              obtain ⟨bk, hbk, hbkl, hcr, hcv, hfr⟩ := HMAT.out.at_ (i := k) (by have := HBL.out; omega)
              have hbkd := hcv j hjt
              have hfrd := hfr j
              have hixo := ix_own (b := bo) (n := m.length) (c := m.length) Try.underlying130 sz22 hlt
              have hixk := ix_own (b := bk) (n := m.length) (c := m.length) Try.underlying22 szInt hjt
              have lbo := HMAT.out.lt
              have HBK := Lib.hid hbk
              have hbkb := HBS'.out bk (List.mem_of_getElem? hbk)
              clear hcv hfr hbk
              cases hne : (ru != ru') with
              | true =>
                have HT : Hid (neTo xs ys (c + 1) = true) := by show _ = _; rw [HNS.out]; simp [hne]
                refine sall (by kernel_rfl) (by kernel_rfl) (fun Kq hKq => ?_)
                repeat still_step
                refine wpStill_nil (hKq _ ?_)
                clear hKq Kq
                go_wp2
                go_roundw
                case rel =>
                  refine ⟨c + 1, by omega, by go_num, ((HMAT.out.drew.set HBK.out hjt 1).congr (fun x y _ _ => ?_)), hB3.drew.setCell (p := ⟨bk, j, none⟩) (by show w.heap.size + 1 ≤ bk; omega) _⟩
                  unfold upd
                  by_cases e : x = k ∧ y = j
                  · rw [if_pos e, if_pos e, HT.out]; rfl
                  · simp only [if_neg e]
                case measure => simp [intOf]; omega
              | false =>
                have HT : Hid (neTo xs ys (c + 1) = neTo xs ys c) := by show _ = _; rw [HNS.out]; simp [hne]
                refine sall (by kernel_rfl) (by kernel_rfl) (fun Kq hKq => ?_)
                repeat still_step
                refine wpStill_nil (hKq _ ?_)
                clear hKq Kq
                go_wp2
                go_roundw
                case rel =>
                  refine ⟨c + 1, by omega, by go_num, HMAT.out.drew.congr (fun x y _ _ => ?_), hB3.drew⟩
                  rw [HT.out]
                case measure => simp [intOf]; omega
            · obtain rfl : c = xs.length := by omega
              go_wp2
              go_roundw
              case rel =>
                refine ⟨j + 1, by omega, by go_num, HMAT.out.congr (fun x y _ hy => ?_), hB⟩
                by_cases e : x = k ∧ y = j
                · obtain ⟨rfl, rfl⟩ := e
                  rw [if_pos ⟨rfl, rfl⟩, neTo_all HXY.out, if_neg (show ¬ (x = x ∧ y + 1 ≤ y) by omega), tv_one hlt hjt, HXS.out, HYS.out]
                · rw [if_neg e]
                  by_cases e2 : x = k ∧ j ≤ y
                  · rw [if_pos e2, if_pos ⟨e2.1, by have : y ≠ j := fun h => e ⟨e2.1, h⟩; omega⟩]
                  · rw [if_neg e2, if_neg (by omega)]
              case measure => simp [intOf]; omega
        · obtain rfl : j = m.length := by omega
          go_wp2
          go_roundw
          case rel => exact ⟨k + 1, bs', by omega, by go_num, HBL.out, HMAT.out.congr (fun x y _ hy => by rw [if_neg (by omega)]), HBS'.out, hB⟩
          case measure => simp [intOf]; omega
    · obtain rfl : k = m.length := by omega
      obtain ⟨w2, rfl⟩ : ∃ w2 : World, w2 = wr := ⟨_, rfl⟩
      have HB2 := Lib.hid hB
      go_wp2
      clear hB hBw g0 hsz hbor
      go_loopw [9] (fun v wr => ∃ (r : Int) (f : Nat) (t : Tbl), v = .int .i64 r ∧ FarSt m r f t ∧ MatAt wr bo m.length bs (tv t) ∧ Below (w.heap.size + 1) W wr) (fun v _ => 4300 - (intOf v).toNat)
      case atStart => exact ⟨2, 4199, _, rfl, far_start m, HMAT.out, HB2.out⟩
      case round =>
        obtain ⟨r, f, t, rfl, hfs, hmat, hB⟩ := hrel
        have HFS := Lib.hid hfs
        have HMAT := Lib.hid hmat
        have hr2 := hfs.two
        have hrs := hfs.sum
        have hrlt : r ≤ 4201 := by omega
        obtain ⟨t', ht'⟩ : ∃ t', nextT m r t = t' := ⟨_, rfl⟩
        have HT' := Lib.hid ht'
        clear hfs hmat hrs ht'
        go_wp2
        go_loopw [10, 71] (fun mb i wr => ∃ (k : Nat) (b : Bool), k ≤ m.length ∧ i = .int .i64 k ∧ mb = .bool b ∧ (b = true ↔ moreP m r t k 0) ∧ MatAt wr bo m.length bs (mixM t t' k 0) ∧ Below (w.heap.size + 1) W wr) (fun _ i _ => m.length - (intOf i).toNat)
        case atStart =>
          refine ⟨0, false, Nat.zero_le _, rfl, rfl, ⟨fun h => (by cases h), ?_⟩, HMAT.out.congr (fun x y _ _ => ?_), hB⟩
          · rintro ⟨x, y, _, _, h, _⟩
            omega
          · unfold mixM
            rw [if_neg (by omega)]
        case round =>
          obtain ⟨k, b, hk, rfl, rfl, hb, hmat, hB⟩ := hrel
          have HMAT := Lib.hid hmat
          have HBB := Lib.hid hb
          clear hmat hb
          by_cases hlt : k < m.length
          · obtain ⟨E1, f1, b1, o1, hb1, hix1, hc1, ha1, hl1, hx1⟩ := row_at (d := d) (i := k) hM HF.out hlt
            have HA1 := Lib.hid ha1
            have hxl := ha1.len
            have HC1 := Lib.hid hc1
            have HL1 := Lib.hid hl1
            have HX1 := Lib.hid hx1
            have HB := Lib.hid hB
            clear hl1 ha1 hc1 hx1 hB
            go_wp2
            go_loopw [10, 75] (fun mb i wr => ∃ (j : Nat) (b : Bool), j ≤ m.length ∧ i = .int .i64 j ∧ mb = .bool b ∧ (b = true ↔ moreP m r t k j) ∧ MatAt wr bo m.length bs (mixM t t' k j) ∧ Below (w.heap.size + 1) W wr) (fun _ i _ => m.length - (intOf i).toNat)
            case atStart => exact ⟨0, b, Nat.zero_le _, rfl, rfl, HBB.out, HMAT.out, HB.out⟩
            case round =>
              obtain ⟨j, b, hj, rfl, rfl, hb, hmat, hB⟩ := hrel
              have HMAT := Lib.hid hmat
              have HBB := Lib.hid hb
              clear hmat hb
              by_cases hjt : j < m.length
              · obtain ⟨bk, hbk, hbkl, hcr, hcv, hfr⟩ := HMAT.out.at_ (i := k) (by omega)
                have hmix : mixM t t' k j k j = tv t k j := by unfold mixM; rw [if_neg (by omega)]
                have hbkd := hcv j hjt
                rw [hmix] at hbkd
                have hixo := ix_own (b := bo) (n := m.length) (c := m.length) Try.underlying130 sz22 hlt
                have hixk := ix_own (b := bk) (n := m.length) (c := m.length) Try.underlying22 szInt hjt
                have lbo := HMAT.out.lt
                clear hcv hfr hmix
                by_cases hpos : 0 < tv t k j
                · have hne : tv t k j ≠ 0 := by omega
                  have HNE := Lib.hid hne
                  clear hne
                  go_wp2
                  go_roundw
                  case rel =>
                    refine ⟨j + 1, b, by omega, by go_num, rfl, HBB.out.trans (more_keep HNE.out).symm, HMAT.out.congr (fun x y _ _ => ?_), hB⟩
                    have e := mix_keep HFS.out hlt hjt HNE.out x y
                    rw [HT'.out] at e
                    exact e
                  case measure => simp [intOf]; omega
                · have h0 : tv t k j = 0 := by
                    rcases tv_nn HFS.out.inv k j with h | h
                    · omega
                    · exact h
                  have H0 := Lib.hid h0
                  have hc1 := cell_chain (HB0.out.trans (hB.mono (Nat.le_succ _))) hb1 HC1.out
                  have g0 := cell_chain hB (Nat.lt_succ_self _) G0.out
                  have hsz : w.heap.size < wr.heap.size := by have := hB.size; omega
                  have hb1' : b1 < wr.heap.size := by omega
                  rw [h0] at hbkd
                  obtain ⟨E2, f2, b2, o2, hb2, hix2, hc2, ha2, hl2, hx2⟩ := row_at (d := d) (i := j) hM HF.out hjt
                  have HA2 := Lib.hid ha2
                  have HC2 := Lib.hid hc2
                  have HX2 := Lib.hid hx2
                  have HXY : Hid ((rowM m k).length = (rowM m j).length) := by have := HL1.out; show _ = _; omega
                  have HRE := Lib.hid (far_rulesEq HFS.out hlt hjt h0)
                  have HBo := Lib.hid hB
                  obtain ⟨xs, hxs⟩ : ∃ xs, rowM m k = xs := ⟨_, rfl⟩
                  obtain ⟨ys, hys⟩ : ∃ ys, rowM m j = ys := ⟨_, rfl⟩
                  have HMS : Hid (moreP m r t k (j + 1) ↔ (moreP m r t k j ∨ hitT t r xs ys = true)) := by rw [← hxs, ← hys]; exact more_step hlt hjt h0
                  have HMX : Hid (∀ x y, upd (mixM t t' k j) k j (if hitT t r xs ys then r else 0) x y = mixM t t' k (j + 1) x y) := by
                    rw [← hxs, ← hys, ← HT'.out]; exact mix_step HFS.out hlt hjt h0
                  rw [hxs] at hc1 HA1 HC1 HXY HRE HX1 hxl
                  rw [hys] at HA2 HC2 HXY HRE HX2
                  clear hpos h0 hl2 ha2 hc2 hx2 hxs hys
                  have hd0 : decide ((0 : Int) < 0) = false := rfl
                  go_wp2
                  clear hc1 g0 hsz hb1' hcr hbkd hixo hixk lbo hB hbk hbkl
                  go_loopw [10, 92] (fun mb i wr => ∃ (c : Nat) (b : Bool), c ≤ xs.length ∧ i = .int .i64 c ∧ mb = .bool b ∧ (b = true ↔ (moreP m r t k j ∨ hitTo t r xs ys c = true)) ∧ MatAt wr bo m.length bs (upd (mixM t t' k j) k j (if hitTo t r xs ys c then r else 0)) ∧ Below (w.heap.size + 1) W wr) (fun _ i _ => xs.length - (intOf i).toNat)
                  case atStart =>
                    refine ⟨0, b, Nat.zero_le _, rfl, rfl, ?_, HMAT.out.congr (fun x y _ _ => ?_), HBo.out⟩
                    · rw [HBB.out]; simp [hitTo]
                    · unfold upd
                      by_cases e : x = k ∧ y = j
                      · rw [if_pos e, e.1, e.2]
                        have e2 : mixM t t' k j k j = tv t k j := by unfold mixM; rw [if_neg (by omega)]
                        rw [e2, H0.out]
                        simp [hitTo]
                      · rw [if_neg e]
                  case round =>
                    obtain ⟨c, b, hc, rfl, rfl, hb, hmat, hB⟩ := hrel
                    clear HMAT HBB
                    have HMAT := Lib.hid hmat
                    have HBB := Lib.hid hb
                    clear hmat hb
                    by_cases hct : c < xs.length
                    · obtain ⟨a, D1, e1, b3, o3, hya, hb3, hix3, hr3, hn3, hD1⟩ := acts_at (c := f1) (k := c) HA1.out hct
                      obtain ⟨a', D2, e2, b4, o4, hyb, hb4, hix4, hr4, hn4, hD2⟩ := acts_at (c := f2) (k := c) HA2.out (by rw [← HXY.out]; exact hct)
                      have HHS := Lib.hid (hitTo_step (t := t) (v := r) hya hyb)
                      have hok := allTo_at HX1.out hya hct
                      have hok' := allTo_at HX2.out hyb (by rw [← HXY.out]; exact hct)
                      have HNL := Lib.hid (next_len_eq hok hok' (HRE.out c a a' hya hyb))
                      have HNM1 : Hid (∀ x ∈ a.next, 0 ≤ x ∧ x < (m.length : Int)) := fun x hx => next_mem hok hx
                      have HNM2 : Hid (∀ x ∈ a'.next, 0 ≤ x ∧ x < (m.length : Int)) := fun x hx => next_mem hok' hx
                      have hnl := next_len hok
                      obtain ⟨ru, nx⟩ := a
                      obtain ⟨ru', nx'⟩ := a'
                      simp only at hr3 hn3 hr4 hn4 hnl hD1 hD2 HNL HNM1 HNM2
                      have hBw : Below w.heap.size w wr := HB0.out.trans (hB.mono (Nat.le_succ _))
                      have g0 := cell_chain hB (Nat.lt_succ_self _) G0.out
                      have hsz : w.heap.size < wr.heap.size := by have := hB.size; omega
                      have q3 := cell_chain hBw hb3 hr3
                      have q4 := cell_chain hBw hb3 hn3
                      have s3 : b3 < wr.heap.size := by omega
                      have HN4 := Lib.hid hn4
                      have HD1 := Lib.hid hD1
                      have HD2 := Lib.hid hD2
                      clear hya hyb hok hok' hn4 hr4 hD1 hD2
                      go_wp2
                      obtain ⟨X3, hX3⟩ : ∃ X3, wr.alloc (.cells #[.int .i64 ru, .slice D1 nx.length e1] 103) = X3 := ⟨_, rfl⟩
                      have HB3 : Hid (Below (w.heap.size + 1) W X3) := by rw [← hX3]; exact hB.alloc hsz _
                      have HM3 : Hid (MatAt X3 bo m.length bs (upd (mixM t t' k j) k j (if hitTo t r xs ys c then r else 0))) := by rw [← hX3]; exact HMAT.out.below ((Below.refl _ _).alloc (Nat.le_refl _) _)
                      rw [hX3]
                      clear q3 q4 g0 hsz s3 hX3 hB hBw hr3 hn3 hix3 hb3
                      go_loopw [10, 100] (fun mb i wr => ∃ (q : Nat) (b : Bool), q ≤ nx.length ∧ i = .int .i64 q ∧ mb = .bool b ∧ (b = true ↔ (moreP m r t k j ∨ hitTo t r xs ys c = true ∨ hitIn t r ⟨ru, nx⟩ ⟨ru', nx'⟩ q = true)) ∧
                        MatAt wr bo m.length bs (upd (mixM t t' k j) k j (if hitTo t r xs ys c || hitIn t r ⟨ru, nx⟩ ⟨ru', nx'⟩ q then r else 0)) ∧ Below (w.heap.size + 1) W wr) (fun _ i _ => nx.length - (intOf i).toNat)
                      case atStart =>
                        refine ⟨0, b, Nat.zero_le _, rfl, rfl, ?_, HM3.out.congr (fun x y _ _ => ?_), HB3.out⟩
                        · rw [HBB.out]; simp [hitIn]
                        · simp [hitIn]
                      case round =>
                        obtain ⟨q, b, hq, rfl, rfl, hb, hmat, hB⟩ := hrel
                        clear HMAT HBB HM3 HB3
                        have HMAT := Lib.hid hmat
                        have HBB := Lib.hid hb
                        clear hmat hb
                        by_cases hqt : q < nx.length
                        · obtain ⟨x1, b5, o5, hx5, hb5, hix5, hc5⟩ := ints_at (c := e1) (k := q) HD1.out Try.underlying22 szInt hqt
                          obtain ⟨y1, b6, o6, hx6, hb6, hix6, hc6⟩ := ints_at (c := e2) (k := q) HD2.out Try.underlying22 szInt (by rw [← HNL.out]; exact hqt)
                          have hxb := HNM1.out x1 (List.mem_of_getElem? hx5)
                          have hyb := HNM2.out y1 (List.mem_of_getElem? hx6)
                          have HIS := Lib.hid (hitIn_step (t := t) (v := r) (a := ⟨ru, nx⟩) (b := ⟨ru', nx'⟩) hx5 hx6)
                          obtain ⟨x1, rfl⟩ := Int.eq_ofNat_of_zero_le hxb.1
                          obtain ⟨y1, rfl⟩ := Int.eq_ofNat_of_zero_le hyb.1
                          have hx1 : x1 < m.length := by omega
                          have hy1 : y1 < m.length := by omega
                          obtain ⟨hv, HHV⟩ : ∃ hv : Int, Hid ((if hitTo t r xs ys c || hitIn t r ⟨ru, nx⟩ ⟨ru', nx'⟩ q then r else 0) = hv) := ⟨_, rfl⟩
                          have hvv : hv = 0 ∨ hv = r := by rw [← HHV.out]; split <;> simp
                          rw [HHV.out] at HMAT
                          obtain ⟨bX, hbX, hbXl, hcX, hcvX, _⟩ := HMAT.out.at_ (i := x1) (by omega)
                          obtain ⟨bk, hbk, hbkl, hck, hcvk, hfrk⟩ := HMAT.out.at_ (i := k) (by omega)
                          have hcx := hcvX y1 hy1
                          have hcj := hcvk j hjt
                          have hfr := hfrk j
                          have HTEST : Hid ((upd (mixM t t' k j) k j hv x1 y1 == r - 1) = hitQ t r ((x1 : Int), (y1 : Int))) := by
                            have e := mix_test HFS.out hx1 hy1 H0.out hvv
                            rw [HT'.out] at e
                            exact e
                          obtain ⟨V, hV⟩ : ∃ V, upd (mixM t t' k j) k j hv x1 y1 = V := ⟨_, rfl⟩
                          obtain ⟨V2, hV2⟩ : ∃ V2, upd (mixM t t' k j) k j hv k j = V2 := ⟨_, rfl⟩
                          rw [hV] at hcx HTEST
                          rw [hV2] at hcj
                          have hixo := ix_own (b := bo) (n := m.length) (c := m.length) Try.underlying130 sz22 hlt
                          have hixX := ix_own (b := bo) (n := m.length) (c := m.length) Try.underlying130 sz22 hx1
                          have hixY := ix_own (b := bX) (n := m.length) (c := m.length) Try.underlying22 szInt hy1
                          have hixk := ix_own (b := bk) (n := m.length) (c := m.length) Try.underlying22 szInt hjt
                          have lbo := HMAT.out.lt
                          have HBK := Lib.hid hbk
                          have hbkb : w.heap.size + 1 ≤ bk := by have := HBS.out bk (List.mem_of_getElem? hbk); omega
                          have hBw : Below w.heap.size w wr := HB0.out.trans (hB.mono (Nat.le_succ _))
                          have g0 := cell_chain hB (Nat.lt_succ_self _) G0.out
                          have hsz : w.heap.size < wr.heap.size := by have := hB.size; omega
                          have q2 := cell_chain hBw hb2 HC2.out
                          have q4 := cell_chain hBw hb4 HN4.out
                          have q5 := cell_chain hBw hb5 hc5
                          have q6 := cell_chain hBw hb6 hc6
                          have s2 : b2 < wr.heap.size := by omega
                          have s4 : b4 < wr.heap.size := by omega
                          have s5 : b5 < wr.heap.size := by omega
                          have s6 : b6 < wr.heap.size := by omega
                          have HB := Lib.hid hB
                          clear hx5 hx6 hxb hyb hvv hcvX hcvk hfrk hV hV2 hbX hbk hc5 hc6 hBw hB hb5 hb6
                          have hwr := wrap_small (n := r - 1) (by omega) (by omega)
                          cases hh : (V == r - 1) with
                          | true =>
                            have HQ : Hid (hitQ t r ((x1 : Int), (y1 : Int)) = true) := by rw [← HTEST.out]; exact hh
                            have HIT : Hid (hitIn t r ⟨ru, nx⟩ ⟨ru', nx'⟩ (q + 1) = true) := by show _ = _; rw [HIS.out, HQ.out, Bool.or_true]
                            go_wp2
                            refine sall (by kernel_rfl) (by kernel_rfl) (fun Kq hKq => ?_)
                            repeat still_step
                            refine wpStill_nil (hKq _ ?_)
                            clear hKq Kq
                            go_wp2
                            go_roundw
                            case rel =>
                              refine ⟨q + 1, true, by omega, by go_num, rfl, ?_, (HMAT.out.drew.set HBK.out hjt r).congr (fun x y _ _ => ?_), HB.out.drew.setCell (p := ⟨bk, j, none⟩) hbkb _⟩
                              · rw [HIT.out]; simp
                              · rw [HIT.out, Bool.or_true, if_pos rfl]
                                unfold upd
                                by_cases e : x = k ∧ y = j
                                · simp only [if_pos e]
                                · simp only [if_neg e]
                            case measure => simp [intOf]; omega
                          | false =>
                            have HQ : Hid (hitQ t r ((x1 : Int), (y1 : Int)) = false) := by rw [← HTEST.out]; exact hh
                            have HIT : Hid (hitIn t r ⟨ru, nx⟩ ⟨ru', nx'⟩ (q + 1) = hitIn t r ⟨ru, nx⟩ ⟨ru', nx'⟩ q) := by show _ = _; rw [HIS.out, HQ.out, Bool.or_false]
                            go_wp2
                            refine sall (by kernel_rfl) (by kernel_rfl) (fun Kq hKq => ?_)
                            repeat still_step
                            refine wpStill_nil (hKq _ ?_)
                            clear hKq Kq
                            go_wp2
                            go_roundw
                            case rel =>
                              refine ⟨q + 1, b, by omega, by go_num, rfl, ?_, HMAT.out.drew.congr (fun x y _ _ => ?_), HB.out.drew⟩
                              · rw [HIT.out]; exact HBB.out
                              · rw [HIT.out, HHV.out]
                            case measure => simp [intOf]; omega
                        · obtain rfl : q = nx.length := by omega
                          have HB := Lib.hid hB
                          have HIA : Hid (hitTo t r xs ys (c + 1) = (hitTo t r xs ys c || hitIn t r ⟨ru, nx⟩ ⟨ru', nx'⟩ nx.length)) := by
                            have e := hitIn_all (t := t) (v := r) (a := ⟨ru, nx⟩) (b := ⟨ru', nx'⟩) HNL.out
                            show _ = _
                            rw [HHS.out, ← e]
                          clear hB
                          go_wp2
                          go_roundw
                          case rel =>
                            refine ⟨c + 1, b, by omega, by go_num, rfl, ?_, HMAT.out.congr (fun x y _ _ => ?_), HB.out⟩
                            · rw [HIA.out, Bool.or_eq_true]; exact HBB.out
                            · rw [HIA.out]
                          case measure => simp [intOf]; omega
                    · obtain rfl : c = xs.length := by omega
                      have HB := Lib.hid hB
                      clear hB
                      go_wp2
                      go_roundw
                      case rel =>
                        refine ⟨j + 1, b, by omega, by go_num, rfl, ?_, HMAT.out.congr (fun x y _ _ => ?_), HB.out⟩
                        · rw [HMS.out, ← hitTo_all HXY.out]; exact HBB.out
                        · rw [← HMX.out x y, ← hitTo_all HXY.out]
                      case measure => simp [intOf]; omega
              · obtain rfl : j = m.length := by omega
                have HBr := Lib.hid hB
                clear hB
                go_wp2
                go_roundw
                case rel =>
                  refine ⟨k + 1, b, by omega, by go_num, rfl, HBB.out.trans more_row, HMAT.out.congr (fun x y _ hy => ?_), HBr.out⟩
                  unfold mixM
                  by_cases e : x < k ∨ (x = k ∧ y < m.length)
                  · rw [if_pos e, if_pos (.inl (by omega))]
                  · rw [if_neg e, if_neg (by omega)]
                case measure => simp [intOf]; omega
          · obtain rfl : k = m.length := by omega
            have hfound := more_done HFS.out
            cases b with
            | true =>
              have hne : foundTo m t r m.length ≠ [] := hfound.1 (HBB.out.1 rfl)
              obtain ⟨f', rfl, hnext⟩ := HFS.out.next HML.out hne
              have HNX := Lib.hid hnext
              rw [HT'.out] at HNX
              have HB := Lib.hid hB
              clear hfound hne hnext hB
              go_wp2
              go_roundw
              case rel =>
                refine ⟨r + 1, f', t', by go_num, HNX.out, HMAT.out.congr (fun x y hx _ => ?_), HB.out⟩
                unfold mixM
                rw [if_pos (.inl (by omega))]
              case measure => simp [intOf]; omega
            | false =>
              have hnil : foundTo m t r m.length = [] := by
                apply Classical.byContradiction
                intro hne
                have := HBB.out.2 (hfound.2 hne)
                cases this
              have hra := HFS.out.done hnil
              have htt : t' = t := by rw [← HT'.out]; unfold nextT; rw [hnil]; simp
              have HRA := Lib.hid hra
              have HTT := Lib.hid htt
              have hBw : Below w.heap.size w wr := HB0.out.trans (hB.mono (Nat.le_succ _))
              have HBW := Lib.hid hBw
              clear hfound hnil hra htt hB hBw
              go_wp2
              go_ret
              refine ⟨bo, bs, rfl, HMAT.out.congr (fun x y hx _ => ?_), hbl, by omega, HBW.out⟩
              unfold mixM
              rw [if_pos (.inl (by omega)), HRA.out, HTT.out]
end Go.Proofs.Ytlnonadkdonhmaa

/- Contract: Apart of the reference. -/
namespace Go.Proofs.Ytlnonadkdonhmaa
open Go.RowKit Go.Maps

def apW (rs : List Int) (m : Mach) (a b : Nat) : List Lt := match tget (roundsA m) (bothI a b) with | none => [] | some L => wordA rs m (roundsA m) L.toNat a b
def apB (m : Mach) (a b : Nat) : Bool := (tget (roundsA m) (bothI a b)).isSome

theorem hitL_Q {t : Tbl} {v : Int} : hitL v t = hitQ t v := by
  funext p
  unfold hitL hitQ
  cases tget t (bothI p.1 p.2) <;> simp
/-- What is known of a pair, by its number. -/
theorem known_one {m : Mach} {t : Tbl} (ht : roundsA m = t) {p q : Nat} (hp : p < m.length) (hq : q < m.length) (h : tget t (bothI p q) = some 1) : neRules (rowM m p) (rowM m q) = true := by
  subst ht; exact one_known hp hq h
theorem known_more {m : Mach} {t : Tbl} (ht : roundsA m = t) {p q : Nat} {v : Int} (hp : p < m.length) (hq : q < m.length) (h : tget t (bothI p q) = some v) :
    1 ≤ v ∧ v ≤ 4200 ∧ (v ≠ 1 → rulesEq (rowM m p) (rowM m q) ∧ hitT t v (rowM m p) (rowM m q) = true) := by
  subst ht
  obtain ⟨h1, h2, h3⟩ := pair_known hp hq (.inr trivial) h (roundsA_ok m)
  exact ⟨h1, h2, fun hv => ⟨(h3 hv).1, hitT_iff.2 (h3 hv).2⟩⟩
theorem least_skip1 {rs : List Int} {t : Tbl} {xs ys : List AAct} {c : Nat} {a b : AAct} (ha : xs[c]? = some a) (hb : ys[c]? = some b) (he : a.rule = b.rule) : leastL rs 1 t c (xs.drop c) (ys.drop c) = leastL rs 1 t (c + 1) (xs.drop (c + 1)) (ys.drop (c + 1)) := by
  rw [drop_cons ha, drop_cons hb, leastL, if_pos rfl, if_pos he]
theorem least_hit1 {rs : List Int} {t : Tbl} {xs ys : List AAct} {c : Nat} {a b : AAct} (ha : xs[c]? = some a) (hb : ys[c]? = some b) (he : a.rule ≠ b.rule) : leastL rs 1 t c (xs.drop c) (ys.drop c) = (⟨(c : Int), 0⟩, 0) := by
  rw [drop_cons ha, drop_cons hb, leastL, if_pos rfl, if_neg he]
theorem least_skip {rs : List Int} {t : Tbl} {D : Int} (hD : D ≠ 1) {xs ys : List AAct} {c : Nat} {a b : AAct} (ha : xs[c]? = some a) (hb : ys[c]? = some b) (h : hitC t D (a, b) = false) : leastL rs D t c (xs.drop c) (ys.drop c) = leastL rs D t (c + 1) (xs.drop (c + 1)) (ys.drop (c + 1)) := by
  have e : (a.next.zip b.next).findIdx? (hitL D t) = none := by
    rw [hitL_Q]
    exact findIdx_no h
  rw [drop_cons ha, drop_cons hb, leastL, if_neg hD, e]
theorem least_hit {rs : List Int} {t : Tbl} {D : Int} (hD : D ≠ 1) {xs ys : List AAct} {c k : Nat} {a b : AAct} {p : Int × Int} (ha : xs[c]? = some a) (hb : ys[c]? = some b) (hno : hitIn t D a b k = false) (hp : (a.next.zip b.next)[k]? = some p) (hh : hitQ t D p = true) :
    leastL rs D t c (xs.drop c) (ys.drop c) = (⟨(c : Int), keepX rs a c k⟩, k) := by
  have e : (a.next.zip b.next).findIdx? (hitL D t) = some k := by
    rw [hitL_Q]
    exact findIdx_hit hno hp hh
  rw [drop_cons ha, drop_cons hb, leastL, if_neg hD, e]
theorem keepX_eq {rs : List Int} (hb : bAll rs) {len c k : Nat} (hc : c < 6) {a : AAct} (ha : actOkA rs len c a = true) (hk : k < a.next.length) {r : Nat} (hr : a.rule = r) {rr : Int} (hrr : rs[r]? = some rr) : keepX rs a c k = keepsI (othersI rr c) k := by
  have hrb := hb rr (List.mem_of_getElem? hrr)
  have hg : rs.getD a.rule.toNat 0 = rr := by rw [hr, Int.toNat_natCast]; simp [List.getD, hrr]
  simp only [actOkA, Bool.and_eq_true, decide_eq_true_eq] at ha
  have hl := ha.1.2
  unfold manyA at hl
  rw [if_neg (by omega)] at hl
  have ho : othersA rr c = othersI rr c := othersA_eq hrb (by omega) (by omega)
  rw [hg] at hl
  unfold keepX
  rw [if_pos (by omega), hg, keep_eq hrb (by omega), ho]
theorem keepX_no {rs : List Int} {a : AAct} {c k : Nat} (h : ¬ 0 ≤ a.rule) : keepX rs a c k = 0 := by unfold keepX; rw [if_neg h]
theorem step_at {m : Mach} {p c k : Nat} {xs : List AAct} {a : AAct} {x : Nat} {keep : Int} (hx : rowM m p = xs) (ha : xs[c]? = some a) (hk : a.next[k]? = some (x : Int)) : stepS m p (⟨(c : Int), keep⟩, k) = x := by
  subst hx
  unfold stepS
  simp [List.getD, ha, hk]


set_option maxRecDepth 100000 in
set_option maxHeartbeats 2000000 in
theorem RefApart_any (n : Int) (A : Option Addr) (c : Nat) (rs : List Int) (B : Option Addr) (d : Nat) (m : Mach) (a b : Nat) (w : World) (hA : Cells w A (ints rs)) (hM : MachAt w B m) (hf : formedA n rs m = true) (hal : a < m.length) (hbl : b < m.length) :
    Calls Try.prog 34 #[.agg #[.int .i64 n, .slice A rs.length c], .agg #[.slice B m.length d], .int .i64 (a : Int), .int .i64 (b : Int)] w fun e w' => ∃ A' c', e = .returned (.tuple #[.slice A' (apW rs m a b).length c', .bool (apB m a b)]) ∧ Cells w' A' (lts (apW rs m a b)) ∧ Below w.heap.size w w' := by
  have hml : m.length ≤ 64 := by
    simp only [formedA, Bool.and_eq_true, decide_eq_true_eq] at hf
    exact hf.1.2
  have hg : grpOk n rs = true := by simp only [formedA, Bool.and_eq_true] at hf; exact hf.1.1.1
  obtain ⟨hn1, hn6, hrl, _⟩ := grpOk_true hg
  have HBA := Lib.hid (bAll_of hg)
  have HF := Lib.hid hf
  obtain ⟨t, HT⟩ : ∃ t, Hid (roundsA m = t) := ⟨_, rfl⟩
  have HB0 : Hid (Below w.heap.size w (gbox w n A rs.length c B m.length d)) := gbox_below w n A rs.length c B m.length d
  have HA0 := Lib.hid (hA.below HB0.out (Nat.le_refl _))
  have HM0 := Lib.hid (hM.below HB0.out (Nat.le_refl _))
  have hgm := gm_new w n A rs.length c B m.length d
  clear hf hg
  go_enter Try.func34, Try.ntmps34
  go_wp2_with fail
  obtain ⟨W0, hW⟩ : ∃ W0, gbox w n A rs.length c B m.length d = W0 := ⟨_, rfl⟩
  have hW' : (w.alloc (.cells #[.int .i64 n, .slice A rs.length c] 24)).alloc (.cells #[.slice B m.length d] 27) = W0 := hW
  rw [hW] at HB0 HA0 HM0 hgm
  rw [hW']
  have G1 := Lib.hid (hgm.g.cell 1 (v := .slice A rs.length c) rfl)
  have G2 := Lib.hid (hgm.m.cell 0 (v := .slice B m.length d) rfl)
  have hl0 := hgm.g.lt
  have hl1 := hgm.m.lt
  clear hW hW' hgm
  have c2 := G2.out
  go_step3
  go_wp2_with fail
  clear c2
  refine (far_any n rs B d m W0 HM0.out HF.out).mono ?_
  rintro e W ⟨bo, bs, rfl, hmat, hbsl, hbo, hBW⟩
  rw [HT.out] at hmat
  have HB03 : Hid (Below w.heap.size w W) := below_in HB0.out hBW
  have HG1 := Lib.hid (cell_chain hBW hl0 G1.out)
  have HG2 := Lib.hid (cell_chain hBW hl1 G2.out)
  have hlW0 : w.heap.size < W.heap.size := Nat.lt_of_lt_of_le hl0 hBW.size
  have hlW1 : w.heap.size + 1 < W.heap.size := Nat.lt_of_lt_of_le hl1 hBW.size
  have HMAT := Lib.hid hmat
  obtain ⟨ba, hba, hbal, hca, hcva, _⟩ := hmat.at_ (i := a) (by omega)
  have hcab := hcva b hbl
  have hixa := ix_own (b := bo) (n := m.length) (c := m.length) Try.underlying130 sz22 hal
  have hixb := ix_own (b := ba) (n := m.length) (c := m.length) Try.underlying22 szInt hbl
  have lbo := hmat.lt
  clear hmat hcva hba hBW hl0 hl1 G1 G2
  cases hget : tget t (bothI a b) with
  | none =>
    have h0 : tv t a b = 0 := by unfold tv; rw [hget]; rfl
    have HW : Hid (apW rs m a b = [] ∧ apB m a b = false) := by
      show _ ∧ _
      unfold apW apB
      rw [HT.out, hget]
      exact ⟨rfl, rfl⟩
    rw [h0] at hcab
    clear hget h0
    go_wp2
    first | rw [Exit.noGoto_ret] | skip
    refine bodyPost_ret (v := .tuple #[.slice none 0 0, .bool false]) (results_tt rfl rfl rfl) rfl ?_
    rw [HW.out.1, HW.out.2]
    exact ⟨none, 0, rfl, Cells.nil _ _, HB03.out⟩
  | some L =>
    obtain ⟨hL1, hL2, _⟩ := known_more HT.out hal hbl hget
    obtain ⟨L0, hL0⟩ : ∃ L0 : Nat, L = (L0 : Int) + 1 := ⟨(L - 1).toNat, by omega⟩
    have htv : tv t a b = (L0 : Int) + 1 := by unfold tv; rw [hget, hL0]; rfl
    have HW : Hid (apW rs m a b = wordA rs m t (L0 + 1) a b ∧ apB m a b = true) := by
      show _ ∧ _
      unfold apW apB
      rw [HT.out, hget, hL0]
      refine ⟨?_, rfl⟩
      show wordA rs m t ((L0 : Int) + 1).toNat a b = _
      congr 1
    rw [htv] at hcab
    have HGET : Hid (tget t (bothI a b) = some ((L0 : Int) + 1)) := by rw [← hL0]; exact hget
    have hd0 : ((L0 : Int) + 1 == 0) = false := by simp; omega
    have hL3 : L0 ≤ 4199 := by omega
    clear hget htv hL0 hL1 hL2
    go_wp2
    go_step3
    go_wp2
    clear hca hcab hixa hixb hbal hd0
    go_loopg [2, 3, 11] L0 (fun g pv qv v wr => ∃ (l p q : Nat) (pre : List Lt), l = g ∧ pv = .int .i64 (p : Int) ∧ qv = .int .i64 (q : Int) ∧ p < m.length ∧ q < m.length ∧ wordA rs m t (L0 + 1) a b = pre ++ wordA rs m t (l + 1) p q ∧ tget t (bothI p q) = some ((l : Int) + 1) ∧
        wr.ownsRow W.heap.size 118 2 v pre.length (lts pre) ∧ Below W.heap.size W wr)
    case atStart => exact ⟨L0, a, b, [], rfl, rfl, rfl, hal, hbl, rfl, HGET.out, World.ownsRow_nil _ _ _ _, Below.refl _ _⟩
    case round =>
      obtain ⟨l, p, q, pre, hlg, rfl, rfl, hp, hq, hword, hget, hown, hB⟩ := hrel
      have HLG := Lib.hid hlg
      clear hlg
      have HWD := Lib.hid hword
      have HKN := Lib.hid (known_more HT.out hp hq hget)
      have HK1 : Hid (l = 0 → neRules (rowM m p) (rowM m q) = true) := by
        rintro rfl
        exact known_one HT.out hp hq (by simpa using hget)
      have hlen : pre.length + l = L0 := by
        have e := congrArg List.length hword
        rw [wordA_len, List.length_append, wordA_len] at e
        omega
      have hl42 := HKN.out.2.1
      have htv : tv t p q = (l : Int) + 1 := by unfold tv; rw [hget]; rfl
      have HTV := Lib.hid htv
      have HOWN := Lib.hid hown
      have HBr := Lib.hid hB
      have hmat := HMAT.out.below hB
      obtain ⟨bp, hbp, hbpl, hcp, hcvp, _⟩ := hmat.at_ (i := p) (by omega)
      have hcpq := hcvp q hq
      rw [htv] at hcpq
      have hixp := ix_own (b := bo) (n := m.length) (c := m.length) Try.underlying130 sz22 hp
      have hixq := ix_own (b := bp) (n := m.length) (c := m.length) Try.underlying22 szInt hq
      have lbo2 := hmat.lt
      obtain ⟨E1, f1, b1, o1, hb1, hix1, hc1, ha1, hl1, hx1⟩ := row_at (d := d) (i := p) hM HF.out hp
      obtain ⟨E2, f2, b2, o2, hb2, hix2, hc2, ha2, hl2, hx2⟩ := row_at (d := d) (i := q) hM HF.out hq
      obtain ⟨xs, hxs⟩ : ∃ xs, rowM m p = xs := ⟨_, rfl⟩
      obtain ⟨ys, hys⟩ : ∃ ys, rowM m q = ys := ⟨_, rfl⟩
      rw [hxs] at hc1 ha1 hl1 hx1 HKN HK1
      rw [hys] at hc2 ha2 hl2 hx2 HKN HK1
      have HXS := Lib.hid hxs
      have HYS := Lib.hid hys
      have HA1 := Lib.hid ha1
      have HA2 := Lib.hid ha2
      have HC2 := Lib.hid hc2
      have HX1 := Lib.hid hx1
      have HX2 := Lib.hid hx2
      have hxl := ha1.len
      have hxl6 : xs.length ≤ 6 := by omega
      have HXY : Hid (xs.length = ys.length) := by show _ = _; omega
      have hBw : Below w.heap.size w wr := below_in HB03.out hB
      have k1 := cell_chain hBw hb1 hc1
      have g2 := cell_chain hB hlW1 HG2.out
      have hsz := hBw.size
      have hsz2 : w.heap.size + 1 < wr.heap.size := Nat.lt_of_lt_of_le hlW1 hB.size
      have s1 : b1 < wr.heap.size := by omega
      obtain ⟨D, hD⟩ : ∃ D : Int, (l : Int) + 1 = D := ⟨_, rfl⟩
      rw [hD] at hcpq HTV HKN hl42
      have HDD := Lib.hid hD
      have hD1 : 1 ≤ D := by omega
      have HLE : Hid (leastI rs m p q D t = leastL rs D t 0 xs ys) := by
        show leastL rs D t 0 (rowM m p) (rowM m q) = _
        rw [hxs, hys]
      obtain ⟨wo, rfl⟩ : ∃ wo : World, wo = wr := ⟨_, rfl⟩
      clear hword hget htv hown hmat hcvp hc1 hc2 ha1 ha2 hx1 hx2 hl1 hl2 hxs hys hD hbp hBw hB
      go_wp2
      clear hcp hcpq hixp hixq lbo2 k1 g2 hsz hsz2 s1 hbpl
      go_loopg [2, 3, 11, 41] xs.length (fun g pv qv v i wr => ∃ z : Nat, z + g = xs.length ∧ pv = .int .i64 (p : Int) ∧ qv = .int .i64 (q : Int) ∧ v = u11 ∧ i = .int .i64 z ∧ leastL rs D t 0 xs ys = leastL rs D t z (xs.drop z) (ys.drop z) ∧ (D = 1 → neTo xs ys z = false) ∧ (D ≠ 1 → hitTo t D xs ys z = false) ∧ Below wo.heap.size wo wr)
      case atStart => exact ⟨0, by omega, rfl, rfl, rfl, rfl, rfl, fun _ => rfl, fun _ => rfl, Below.refl _ _⟩
      case round =>
        obtain ⟨z, hc, rfl, rfl, rfl, rfl, hle, hne1, hno, hB2⟩ := hrel
        have HLC := Lib.hid hle
        have HN1 := Lib.hid hne1
        have HNO := Lib.hid hno
        have hB : Below W.heap.size W wr := below_on HBr.out hB2
        have hsz := hB.size
        clear hle hne1 hno
        by_cases hct : z < xs.length
        · obtain ⟨gz, hgz⟩ : ∃ gz, gk = gz + 1 := ⟨gk - 1, by omega⟩
          have HGG := Lib.hid hgz
          have hzg : z + 1 + gz = xs.length := by omega
          clear hgz
          obtain ⟨act, D1, e1, b3, o3, hya, hb3, hix3, hr3, hn3, hD1'⟩ := acts_at (c := f1) (k := z) HA1.out hct
          obtain ⟨act', D2, e2, b4, o4, hyb, hb4, hix4, hr4, hn4, hD2'⟩ := acts_at (c := f2) (k := z) HA2.out (by rw [← HXY.out]; exact hct)
          have HYA := Lib.hid hya
          have HYB := Lib.hid hyb
          have HOK1 := Lib.hid (allTo_at HX1.out hya hct)
          have HOK2 := Lib.hid (allTo_at HX2.out hyb (by rw [← HXY.out]; exact hct))
          have hnl := next_len HOK1.out
          obtain ⟨ru, nx⟩ := act
          obtain ⟨ru', nx'⟩ := act'
          simp only at hr3 hn3 hr4 hn4 hD1' hD2' hnl
          have HD1 := Lib.hid hD1'
          have HD2 := Lib.hid hD2'
          have hBw : Below w.heap.size w wr := below_in HB03.out hB
          have q2 := cell_chain hBw hb2 HC2.out
          have q3 := cell_chain hBw hb3 hr3
          have q3' := cell_chain hBw hb3 hn3
          have q4 := cell_chain hBw hb4 hr4
          have q4' := cell_chain hBw hb4 hn4
          have g2 := cell_chain hB hlW1 HG2.out
          have hszw := hBw.size
          have hsz2 : w.heap.size + 1 < wr.heap.size := Nat.lt_of_lt_of_le hlW1 hsz
          have s2 : b2 < wr.heap.size := by omega
          have s3 : b3 < wr.heap.size := by omega
          have s4 : b4 < wr.heap.size := by omega
          obtain ⟨X, HX⟩ : ∃ X, Hid ((wr.alloc (.cells #[.int .i64 ru, .slice D1 nx.length e1] 103)).alloc (.cells #[.int .i64 ru', .slice D2 nx'.length e2] 103) = X) := ⟨_, rfl⟩
          have HXS2 : Hid (wr.heap.size + 1 + 1 = X.heap.size) := by show _ = _; rw [← HX.out]; simp
          have hXr : Below wr.heap.size wr X := by rw [← HX.out]; exact ((Below.refl _ _).alloc (Nat.le_refl _) _).alloc (by simp) _
          have HBX : Hid (Below W.heap.size W X) := below_on hB hXr
          have HOX : Hid (X.ownsRow W.heap.size 118 2 u11 pre.length (lts pre)) := own_frame HOWN.out (Frame.of_all (S := fun _ => False) (below_on hB2 hXr)) (fun _ _ h => h)
          have hsX : wr.heap.size ≤ X.heap.size := hXr.size
          by_cases hD : D = 1
          · have HDE := Lib.hid hD
            have hd1 : (D == 1) = true := by simp [hD]
            have hd2 : decide (1 < D) = false := by simp [hD]
            cases hne : (ru != ru') with
            | true =>
              have HRES : Hid (wordA rs m t (L0 + 1) a b = pre ++ [⟨(z : Int), 0⟩]) := by
                show _ = _
                have hl0 : l = 0 := by have := HDD.out; omega
                have hneq : ru ≠ ru' := by simpa using hne
                rw [HWD.out, hl0]
                have e1 : leastI rs m p q ((0 : Nat) + 1 : Int) t = (⟨(z : Int), 0⟩, 0) := by
                  have e0 : ((0 : Nat) : Int) + 1 = D := by omega
                  rw [e0, HLE.out, HLC.out, hD]
                  exact least_hit1 HYA.out HYB.out hneq
                simp only [wordA, e1]
              have hlen2 : L0 = pre.length := by have := HDD.out; omega
              clear hD hXr hya hyb
              go_wp2_with (at_builtin; rw [HX.out]; go_must (refine wpList_app1' rLt _ rfl _ _ rfl HOX.out rfl [_, _] 1 (by rw [← HXS2.out]; simp [Act.eval]) rfl (by simp [Value.oneCell']) (by omega) (by omega) ?_); intro v6 w6 hown6 hB6 hg6 hloc6)
              have hown6' : w6.ownsRow W.heap.size 118 2 v6 (pre.length + 1) (lts (pre ++ [⟨(z : Int), 0⟩])) := by simpa [lts, ltCells] using hown6
              obtain ⟨A', z', rfl, hcs⟩ := own_out hown6' (by rw [lts, flat_len ltCells_len]; simp; omega)
              first | rw [Exit.noGoto_ret] | skip
              refine bodyPost_ret (v := .tuple #[.slice A' (pre.length + 1) z', .bool true]) (results_tt rfl rfl rfl) rfl ?_
              rw [HW.out.1, HW.out.2, HRES.out]
              exact ⟨A', z', by simp, hcs, below_in HB03.out (HBX.out.trans hB6)⟩
            | false =>
              have hre : ru = ru' := by simpa using hne
              have HST1 : Hid (neTo xs ys (z + 1) = false) := by show _ = _; rw [neTo_step HYA.out HYB.out, HN1.out hD]; simpa using hre
              have HST2 : Hid (leastL rs D t 0 xs ys = leastL rs D t (z + 1) (xs.drop (z + 1)) (ys.drop (z + 1))) := by
                show _ = _
                rw [HLC.out, hD]
                exact least_skip1 HYA.out HYB.out hre
              have HXr := Lib.hid hXr
              clear hD hXr hya hyb hre
              go_wp2
              go_loopg [2, 3, 11, 16] 0 (fun g pv qv v i W' => pv = .int .i64 (p : Int) ∧ qv = .int .i64 (q : Int) ∧ v = u11 ∧ i = .int .i64 0 ∧ Below X.heap.size X W')
              case atStart => exact ⟨rfl, rfl, rfl, rfl, by rw [HX.out]; exact Below.refl _ _⟩
              case round =>
                obtain ⟨rfl, rfl, rfl, rfl, hBB⟩ := hrel
                have HBB := Lib.hid hBB
                clear hBB
                go_wp2
                go_roundg gz
                case rel => exact ⟨z + 1, hzg, rfl, rfl, rfl, by go_num, HST2.out, fun _ => HST1.out, fun h => absurd HDE.out h, below_on hB2 (below_on HXr.out HBB.out)⟩
                case measure => have := HGG.out; omega
          · have hd1 : (D == 1) = false := by simp [hD]
            have hd2 : decide (1 < D) = true := by simp; omega
            have HDN := Lib.hid hD
            have HRE := Lib.hid ((HKN.out.2.2 hD).1)
            have hre : ru = ru' := HRE.out z _ _ hya hyb
            have HNL := Lib.hid (next_len_eq HOK1.out HOK2.out hre)
            have HNM1 : Hid (∀ x ∈ nx, 0 ≤ x ∧ x < (m.length : Int)) := fun x hx => next_mem HOK1.out hx
            have HNM2 : Hid (∀ x ∈ nx', 0 ≤ x ∧ x < (m.length : Int)) := fun x hx => next_mem HOK2.out hx
            simp only at HNL
            have bA1 : Blk X wr.heap.size (.cells #[.int .i64 ru, .slice D1 nx.length e1] 103) := by rw [← HX.out]; exact (Blk.new _ _).alloc _
            have bA2 : Blk X (wr.heap.size + 1) (.cells #[.int .i64 ru', .slice D2 nx'.length e2] 103) := by
              have e := Blk.new (wr.alloc (.cells #[.int .i64 ru, .slice D1 nx.length e1] 103)) (.cells #[.int .i64 ru', .slice D2 nx'.length e2] 103)
              rw [HX.out, World.size_alloc] at e
              exact e
            have HBL1 := Lib.hid bA1
            have HBL2 := Lib.hid bA2
            have HXr := Lib.hid hXr
            clear hXr hya hyb hre bA1 bA2 hD
            go_wp2
            rw [HX.out]
            obtain ⟨k1, hk1⟩ : ∃ k1, wr.heap.size = k1 := ⟨_, rfl⟩
            have HB2r := Lib.hid hB2
            rw [hk1] at HBL1 HBL2 ⊢
            have HK1' := Lib.hid hk1
            clear q2 q3 q3' q4 q4' g2 hszw hsz2 s2 s3 s4 hBw hB hB2 hk1 hr3 hn3 hr4 hn4 hix3 hix4 hb3 hb4 hsz hsX
            go_loopg [2, 3, 11, 16] nx.length (fun g pv qv v i W' => ∃ j : Nat, j + g = nx.length ∧ pv = .int .i64 (p : Int) ∧ qv = .int .i64 (q : Int) ∧ v = u11 ∧ i = .int .i64 j ∧ hitIn t D ⟨ru, nx⟩ ⟨ru', nx'⟩ j = false ∧ Below X.heap.size X W')
            case atStart => exact ⟨0, by omega, rfl, rfl, rfl, rfl, rfl, Below.refl _ _⟩
            case round =>
              obtain ⟨j, hj, rfl, rfl, rfl, rfl, hhi, hBX⟩ := hrel
              have HHI := Lib.hid hhi
              have bA1 := HBL1.out
              have bA2 := HBL2.out
              have hlA1 := bA1.lt
              have hlA2 := bA2.lt
              have p0 := (bA1.below hBX hlA1).cell 0 (v := .int .i64 ru) rfl
              have p1 := (bA1.below hBX hlA1).cell 1 (v := .slice D1 nx.length e1) rfl
              have p2 := (bA2.below hBX hlA2).cell 1 (v := .slice D2 nx'.length e2) rfl
              have hszX := hBX.size
              have l1 : k1 < wr.heap.size := by omega
              have l2 : k1 + 1 < wr.heap.size := by omega
              clear hhi
              by_cases hjt : j < nx.length
              · obtain ⟨g3, hg3⟩ : ∃ g3, gk = g3 + 1 := ⟨gk - 1, by omega⟩
                have HGJ := Lib.hid hg3
                have hjg : j + 1 + g3 = nx.length := by omega
                clear hg3
                obtain ⟨x1, b5, o5, hx5, hb5, hix5, hc5⟩ := ints_at (c := e1) (k := j) HD1.out Try.underlying22 szInt hjt
                obtain ⟨y1, b6, o6, hx6, hb6, hix6, hc6⟩ := ints_at (c := e2) (k := j) HD2.out Try.underlying22 szInt (by rw [← HNL.out]; exact hjt)
                have hxb := HNM1.out x1 (List.mem_of_getElem? hx5)
                have hyb := HNM2.out y1 (List.mem_of_getElem? hx6)
                have HIS := Lib.hid (hitIn_step (t := t) (v := D) (a := ⟨ru, nx⟩) (b := ⟨ru', nx'⟩) hx5 hx6)
                have HZP : Hid ((nx.zip nx')[j]? = some (x1, y1)) := zip_at hx5 hx6
                obtain ⟨x1, rfl⟩ := Int.eq_ofNat_of_zero_le hxb.1
                obtain ⟨y1, rfl⟩ := Int.eq_ofNat_of_zero_le hyb.1
                have hx1 : x1 < m.length := by omega
                have hy1 : y1 < m.length := by omega
                have HX5 := Lib.hid hx5
                have HX6 := Lib.hid hx6
                have hBW : Below W.heap.size W wr := below_on HBX.out hBX
                have hBw : Below w.heap.size w wr := below_in HB03.out hBW
                have hmat := HMAT.out.below hBW
                obtain ⟨bX, _, hbXl, hcX, hcvX, _⟩ := hmat.at_ (i := x1) (by omega)
                have hcx := hcvX y1 hy1
                obtain ⟨V, hV⟩ : ∃ V, tv t x1 y1 = V := ⟨_, rfl⟩
                have HQV : Hid (hitQ t D ((x1 : Int), (y1 : Int)) = (V == D - 1)) := by
                  show _ = _
                  rw [← hV]
                  unfold hitQ tv
                  cases hg : tget t (bothI x1 y1) with
                  | none => simp; have := HDN.out; omega
                  | some v => simp
                have HVV := Lib.hid hV
                rw [hV] at hcx
                have hixX := ix_own (b := bo) (n := m.length) (c := m.length) Try.underlying130 sz22 hx1
                have hixY := ix_own (b := bX) (n := m.length) (c := m.length) Try.underlying22 szInt hy1
                have lbo3 := hmat.lt
                have HC5 := Lib.hid hc5
                have HC6 := Lib.hid hc6
                have q5 := cell_chain hBw hb5 hc5
                have q6 := cell_chain hBw hb6 hc6
                have hszw := hBw.size
                have s5 : b5 < wr.heap.size := by omega
                have s6 : b6 < wr.heap.size := by omega
                have hwr := wrap_small (n := D - 1) (by omega) (by omega)
                have HBW := Lib.hid hBW
                have HBXr := Lib.hid hBX
                clear hx5 hx6 hxb hyb hcvX hV hmat hc5 hc6 hBw hBW
                cases hh : (V == D - 1) with
                | false =>
                  have hvn : (V != D - 1) = true := by simp [bne, hh]
                  have HIT : Hid (hitIn t D ⟨ru, nx⟩ ⟨ru', nx'⟩ (j + 1) = false) := by show _ = _; rw [HIS.out, HHI.out, HQV.out, hh]; rfl
                  go_wp2
                  refine sall (by kernel_rfl) (by kernel_rfl) (fun Kq hKq => ?_)
                  repeat still_step
                  refine wpStill_nil (hKq _ ?_)
                  clear hKq Kq
                  go_wp2
                  go_roundg g3
                  case rel => exact ⟨j + 1, hjg, rfl, rfl, rfl, by go_num, HIT.out, HBXr.out.drew⟩
                  case measure => have := HGJ.out; omega
                | true =>
                  have hvn : (V != D - 1) = false := by simp [bne, hh]
                  have hVD : V = D - 1 := by simpa using hh
                  obtain ⟨l', hl'⟩ : ∃ l' : Nat, l = l' + 1 := ⟨l - 1, by have := HDD.out; have := HDN.out; omega⟩
                  have HNEW : Hid (tget t (bothI x1 y1) = some ((l' : Int) + 1)) := by
                    have e := HQV.out
                    rw [hh] at e
                    have e2 : tget t (bothI x1 y1) = some (D - 1) := by simpa [hitQ] using e
                    show _ = _
                    rw [e2]
                    congr 1
                    have := HDD.out
                    omega
                  have HTVn : Hid (tv t x1 y1 = (l' : Int) + 1) := by show _ = _; unfold tv; rw [HNEW.out]; rfl
                  obtain ⟨KP, hKP⟩ : ∃ KP, keepX rs ⟨ru, nx⟩ z j = KP := ⟨_, rfl⟩
                  have HSTEP : Hid (wordA rs m t (l + 1) p q = ⟨(z : Int), KP⟩ :: wordA rs m t (l' + 1) x1 y1) := by
                    show _ = _
                    have e1 : leastI rs m p q ((l : Int) + 1) t = (⟨(z : Int), KP⟩, j) := by
                      rw [HDD.out, HLE.out, HLC.out, ← hKP]
                      exact least_hit HDN.out HYA.out HYB.out HHI.out HZP.out (by rw [HQV.out]; exact hh)
                    rw [wordA]
                    simp only [e1]
                    rw [step_at HXS.out HYA.out HX5.out, step_at HYS.out HYB.out HX6.out, hl']
                  have hlp : pre.length ≤ 4300 := by omega
                  by_cases hr0 : 0 ≤ ru
                  · obtain ⟨r, rfl⟩ := Int.eq_ofNat_of_zero_le hr0
                    have hok := HOK1.out
                    simp only [actOkA, ruleOk, Bool.and_eq_true, Bool.or_eq_true, decide_eq_true_eq] at hok
                    have hrr := (hok.1.1.resolve_left (by omega)).1.2
                    have hrl2 : r < rs.length := by omega
                    obtain ⟨rr, b7, o7, hrx, hb7, hix7, hc7⟩ := ints_at (c := c) hA Try.underlying22 szInt hrl2
                    have hKE : keepsI (othersI rr z) j = KP := by
                      rw [← hKP]
                      exact (keepX_eq HBA.out (by omega) HOK1.out hjt rfl hrx).symm
                    obtain ⟨os, HO⟩ : ∃ os, Hid (othersI rr z = os) := ⟨_, rfl⟩
                    have hrb := HBA.out rr (List.mem_of_getElem? hrx)
                    have hoe : othersA rr z = othersI rr z := othersA_eq hrb (by omega) (by omega)
                    have hol : os.length ≤ 6 := by rw [← HO.out, ← hoe]; exact othersA_len _ _
                    have HOB : Hid (∀ x ∈ os, 0 ≤ x ∧ x < 6) := by rw [← HO.out, ← hoe]; exact fun x hx => othersA_bd hx
                    rw [HO.out] at hKE
                    have HKE := Lib.hid hKE
                    have hBw : Below w.heap.size w wr := below_in HB03.out HBW.out
                    have q7 := cell_chain hBw hb7 hc7
                    have g1 := cell_chain HBW.out hlW0 HG1.out
                    have s7 : b7 < wr.heap.size := by omega
                    have s0 : w.heap.size < wr.heap.size := Nat.lt_of_lt_of_le hlW0 HBW.out.size
                    clear hok hrr hrx hKP hKE hrb hoe hc7 hBw hVD hr0
                    go_wp2
                    refine sall (by kernel_rfl) (by kernel_rfl) (fun Kq hKq => ?_)
                    repeat still_step
                    refine wpStill_nil (hKq _ ?_)
                    clear hKq Kq
                    go_wp2_with fail
                    refine (Others_any rr z _).mono ?_
                    rintro e w7 ⟨A7, c7, rfl, hos, hB7⟩
                    rw [HO.out] at hos
                    rw [HO.out]
                    have hB7' : Below wr.heap.size wr w7 := (Below.refl _ wr).drew.trans hB7
                    clear q7 g1
                    go_wp2_with fail
                    refine (keeps_any os j A7 c7 w7 hos hol HOB.out).mono ?_
                    rintro e w8 ⟨rfl, rfl⟩
                    rw [HKE.out]
                    have hBZ : Below W.heap.size W w7 := below_on HBW.out hB7'
                    have hXZ : Below X.heap.size X w7 := below_on HBXr.out hB7'
                    have hownZ : w7.ownsRow W.heap.size 118 2 u11 pre.length (lts pre) := own_frame HOX.out (Frame.of_all (S := fun _ => False) hXZ) (fun _ _ h => h)
                    clear hos hB7 hB7' p0 p1 p2
                    have hown8 := hownZ
                    have hsz8 := hBZ.size
                    go_wp2_with (at_builtin; go_must (refine wpList_app1' rLt _ rfl _ _ rfl hown8 rfl [_, _] 1 rfl rfl (by simp [Value.oneCell']) (by omega) (by omega) ?_); intro v9 w9 hown9 hB9 hg9 hloc9)
                    have hBW9 : Below W.heap.size W w9 := hBZ.trans hB9
                    have HO9 := Lib.hid hown9
                    have ba9 := (bA1.below hXZ hlA1).grown hg9 (own_ne hown8 (bA1.below hXZ hlA1) (by decide))
                    have bb9 := (bA2.below hXZ hlA2).grown hg9 (own_ne hown8 (bA2.below hXZ hlA2) (by decide))
                    have u1 := ba9.cell 1 (v := .slice D1 nx.length e1) rfl
                    have u2 := bb9.cell 1 (v := .slice D2 nx'.length e2) rfl
                    have lu1 := ba9.lt
                    have lu2 := bb9.lt
                    have hBw9 : Below w.heap.size w w9 := below_in HB03.out hBW9
                    have u5 := cell_chain hBw9 hb5 HC5.out
                    have u6 := cell_chain hBw9 hb6 HC6.out
                    have hs9 := hBw9.size
                    have s5 : b5 < w9.heap.size := by omega
                    have s6 : b6 < w9.heap.size := by omega
                    clear hown8 hown9 hg9 ba9 bb9 hB9
                    refine sall (by kernel_rfl) (by kernel_rfl) (fun Kq hKq => ?_)
                    repeat still_step
                    refine wpStill_nil (hKq _ ?_)
                    clear hKq Kq
                    go_wp2
                    go_roundg l'
                    case rel =>
                      refine ⟨l', x1, y1, pre ++ [⟨(z : Int), KP⟩], rfl, rfl, rfl, hx1, hy1, ?_, HNEW.out, ?_, hBW9.drew⟩
                      · rw [HWD.out, HSTEP.out]; simp
                      · have e : w9.drew.ownsRow W.heap.size 118 2 v9 (pre.length + 1) _ := HO9.out
                        simpa [lts, ltCells] using e
                    case measure =>
                      have := HLG.out
                      omega
                  · have hK0 : KP = 0 := by rw [← hKP]; exact keepX_no hr0
                    have hd5 : decide (0 ≤ ru) = false := by simp; omega
                    clear hKP hVD hr0
                    subst hK0
                    go_wp2
                    refine sall (by kernel_rfl) (by kernel_rfl) (fun Kq hKq => ?_)
                    repeat still_step
                    refine wpStill_nil (hKq _ ?_)
                    clear hKq Kq
                    obtain ⟨Z, hZ⟩ : ∃ Z, wr.drew = Z := ⟨_, rfl⟩
                    have hrz : Below wr.heap.size wr Z := by rw [← hZ]; exact (Below.refl _ wr).drew
                    have hBZ : Below W.heap.size W Z := below_on HBW.out hrz
                    have hXZ : Below X.heap.size X Z := below_on HBXr.out hrz
                    have hownZ : Z.ownsRow W.heap.size 118 2 u11 pre.length (lts pre) := own_frame HOX.out (Frame.of_all (S := fun _ => False) hXZ) (fun _ _ h => h)
                    have p0 := (bA1.below hXZ hlA1).cell 0 (v := .int .i64 ru) rfl
                    have lz1 : k1 < Z.heap.size := by have := hXZ.size; omega
                    rw [hZ]
                    clear hZ hrz p1 p2
                    have hown8 := hownZ
                    have hsz8 := hBZ.size
                    go_wp2_with (at_builtin; go_must (refine wpList_app1' rLt _ rfl _ _ rfl hown8 rfl [_, _] 1 rfl rfl (by simp [Value.oneCell']) (by omega) (by omega) ?_); intro v9 w9 hown9 hB9 hg9 hloc9)
                    have hBW9 : Below W.heap.size W w9 := hBZ.trans hB9
                    have HO9 := Lib.hid hown9
                    have ba9 := (bA1.below hXZ hlA1).grown hg9 (own_ne hown8 (bA1.below hXZ hlA1) (by decide))
                    have bb9 := (bA2.below hXZ hlA2).grown hg9 (own_ne hown8 (bA2.below hXZ hlA2) (by decide))
                    have u1 := ba9.cell 1 (v := .slice D1 nx.length e1) rfl
                    have u2 := bb9.cell 1 (v := .slice D2 nx'.length e2) rfl
                    have lu1 := ba9.lt
                    have lu2 := bb9.lt
                    have hBw9 : Below w.heap.size w w9 := below_in HB03.out hBW9
                    have u5 := cell_chain hBw9 hb5 HC5.out
                    have u6 := cell_chain hBw9 hb6 HC6.out
                    have hs9 := hBw9.size
                    have s5 : b5 < w9.heap.size := by omega
                    have s6 : b6 < w9.heap.size := by omega
                    clear hown8 hown9 hg9 ba9 bb9 hB9
                    refine sall (by kernel_rfl) (by kernel_rfl) (fun Kq hKq => ?_)
                    repeat still_step
                    refine wpStill_nil (hKq _ ?_)
                    clear hKq Kq
                    go_wp2
                    go_roundg l'
                    case rel =>
                      refine ⟨l', x1, y1, pre ++ [⟨(z : Int), 0⟩], rfl, rfl, rfl, hx1, hy1, ?_, HNEW.out, ?_, hBW9.drew⟩
                      · rw [HWD.out, HSTEP.out]; simp
                      · have e : w9.drew.ownsRow W.heap.size 118 2 v9 (pre.length + 1) _ := HO9.out
                        simpa [lts, ltCells] using e
                    case measure =>
                      have := HLG.out
                      omega
              · obtain rfl : j = nx.length := by omega
                have hhc : hitC t D (⟨ru, nx⟩, ⟨ru', nx'⟩) = false := by
                  rw [← hitIn_all (t := t) (v := D) (a := ⟨ru, nx⟩) (b := ⟨ru', nx'⟩) HNL.out]
                  exact HHI.out
                have HSK : Hid (leastL rs D t 0 xs ys = leastL rs D t (z + 1) (xs.drop (z + 1)) (ys.drop (z + 1))) := HLC.out.trans (least_skip HDN.out HYA.out HYB.out hhc)
                have HTN : Hid (hitTo t D xs ys (z + 1) = false) := by show _ = _; rw [hitTo_step HYA.out HYB.out, HNO.out HDN.out, hhc]; rfl
                have HBXr := Lib.hid hBX
                clear hhc hBX
                go_wp2
                go_roundg gz
                case rel => exact ⟨z + 1, hzg, rfl, rfl, rfl, by go_num, HSK.out, fun h => absurd h HDN.out, fun _ => HTN.out, below_on HB2r.out (below_on HXr.out HBXr.out)⟩
                case measure => have := HGG.out; omega
        · obtain rfl : z = xs.length := by omega
          exfalso
          by_cases hD : D = 1
          · have h1 := HN1.out hD
            rw [neTo_all HXY.out, HK1.out (by have := HDD.out; omega)] at h1
            cases h1
          · have h1 := HNO.out hD
            rw [hitTo_all HXY.out, (HKN.out.2.2 hD).2] at h1
            cases h1
end Go.Proofs.Ytlnonadkdonhmaa
