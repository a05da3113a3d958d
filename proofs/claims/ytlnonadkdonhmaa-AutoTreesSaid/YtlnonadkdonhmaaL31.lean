/- Contracts and lemmas that a claim of this seat uses. -/
import Derived.Test.YtlnonadkdonhmaaL6
import Derived.Test.YtlnonadkdonhmaaL10
import Derived.Test.YtlnonadkdonhmaaL1

/- What the reference's table of far says, in plain words: the same as the table of rounds. -/
namespace Go.Proofs.Ytlnonadkdonhmaa
open Go.RowKit Go.Maps

/-- What the table says of two states; 0: nothing. -/
def tv (t : Tbl) (i k : Nat) : Int := (tget t (bothI i k)).getD 0
/-- Whether some act has another rule. -/
def neRules (xs ys : List AAct) : Bool := (xs.zip ys).any fun p => p.1.rule != p.2.rule
/-- Whether some pair of next states has one less. -/
def hitT (t : Tbl) (v : Int) (xs ys : List AAct) : Bool := (xs.zip ys).any fun p => (p.1.next.zip p.2.next).any fun q => tget t (bothI q.1 q.2) == some (v - 1)

theorem tv_swap (t : Tbl) (i k : Nat) : tv t i k = tv t k i := by unfold tv; rw [bothI_swap]
theorem bothI_lt {a b : Nat} (h : a < b) : bothI a b = ((a : Int), (b : Int)) := by unfold bothI; congr 1 <;> omega

theorem tget_diag {len : Nat} {t : Tbl} (h : TblOk len t) (x : Int) : tget t (x, x) = none := by
  rw [tget_none]
  intro hm
  obtain ⟨p, hp, e⟩ := List.mem_map.1 hm
  obtain ⟨a, b, h1, h2, _⟩ := h.all p hp
  rw [e] at h1
  injection h1 with e1 e2
  omega
theorem hitP_eq {len : Nat} {t : Tbl} (h : TblOk len t) (n : Int) (p : Int × Int) : hitP n t p = (tget t (bothI p.1 p.2) == some (n - 1)) := by
  unfold hitP
  simp only
  by_cases he : (bothI p.1 p.2).1 = (bothI p.1 p.2).2
  · have e : tget t (bothI p.1 p.2) = none := by
      have := tget_diag h (bothI p.1 p.2).1
      rwa [show ((bothI p.1 p.2).1, (bothI p.1 p.2).1) = bothI p.1 p.2 from Prod.ext rfl he] at this
    rw [e]
    simp
  · have e : ((bothI p.1 p.2).1 != (bothI p.1 p.2).2) = true := by simpa using he
    rw [e]
    cases tget t (bothI p.1 p.2) <;> simp

theorem rulesEq_ne {xs ys : List AAct} : rulesEq xs ys ↔ neRules xs ys = false := by
  unfold neRules
  rw [List.any_eq_false]
  constructor
  · intro h p hp
    obtain ⟨c, hc⟩ := List.getElem?_of_mem hp
    obtain ⟨x, y⟩ := p
    rw [List.getElem?_zip_eq_some] at hc
    simpa using h c x y hc.1 hc.2
  · intro h c x y hx hy
    have hz : (xs.zip ys)[c]? = some (x, y) := by rw [List.getElem?_zip_eq_some]; exact ⟨hx, hy⟩
    simpa using h _ (List.mem_of_getElem? hz)
theorem rulesEq.tail {x y : AAct} {xs ys : List AAct} (h : rulesEq (x :: xs) (y :: ys)) : x.rule = y.rule ∧ rulesEq xs ys :=
  ⟨h 0 x y rfl rfl, fun c a b ha hb => h (c + 1) a b (by simpa using ha) (by simpa using hb)⟩
theorem toldL_eq {n : Int} {t : Tbl} : ∀ {xs ys : List AAct}, rulesEq xs ys → toldL n t xs ys = (xs.zip ys).any fun p => (p.1.next.zip p.2.next).any (hitP n t)
  | [], _, _ => by simp [toldL]
  | _ :: _, [], _ => by simp [toldL]
  | a :: xs, b :: ys, h => by
    obtain ⟨h1, h2⟩ := h.tail
    rw [toldL, if_pos h1, toldL_eq h2, List.zip_cons_cons, List.any_cons]
    cases (a.next.zip b.next).any (hitP n t) <;> simp
theorem told_hit {len : Nat} {n : Int} {t : Tbl} {xs ys : List AAct} (hok : TblOk len t) (h : rulesEq xs ys) : toldL n t xs ys = hitT t n xs ys := by
  rw [toldL_eq h]
  unfold hitT
  congr 1
  funext p
  congr 1
  funext q
  exact hitP_eq hok n q
theorem told_one : ∀ {xs ys : List AAct}, toldL 1 [] xs ys = neRules xs ys
  | [], _ => by simp [toldL, neRules]
  | _ :: _, [] => by simp [toldL, neRules]
  | a :: xs, b :: ys => by
    have hn : (a.next.zip b.next).any (hitP 1 []) = false := by
      rw [List.any_eq_false]
      intro p _
      simp [hitP, tget]
    have ih := told_one (xs := xs) (ys := ys)
    unfold neRules at ih ⊢
    rw [toldL, List.zip_cons_cons, List.any_cons, hn, ih]
    by_cases h : a.rule = b.rule
    · simp [h]
    · simp [h]
theorem hitT_iff {t : Tbl} {v : Int} {xs ys : List AAct} : hitT t v xs ys = true ↔ hitAt t v xs ys := by
  unfold hitT hitAt
  rw [List.any_eq_true]
  constructor
  · rintro ⟨⟨x, y⟩, hp, h⟩
    obtain ⟨c, hc⟩ := List.getElem?_of_mem hp
    rw [List.getElem?_zip_eq_some] at hc
    obtain ⟨q, hq, h2⟩ := List.any_eq_true.1 h
    obtain ⟨k, hk⟩ := List.getElem?_of_mem hq
    exact ⟨c, x, y, k, q, hc.1, hc.2, hk, by simpa using h2⟩
  · rintro ⟨c, x, y, k, q, hx, hy, hk, h⟩
    refine ⟨(x, y), List.mem_of_getElem? (i := c) (by rw [List.getElem?_zip_eq_some]; exact ⟨hx, hy⟩), ?_⟩
    exact List.any_eq_true.2 ⟨q, List.mem_of_getElem? hk, by simpa using h⟩
theorem hitT_swap (t : Tbl) (v : Int) (xs ys : List AAct) : hitT t v xs ys = hitT t v ys xs := by
  rw [Bool.eq_iff_iff, hitT_iff, hitT_iff]
  exact ⟨hitAt.swap, hitAt.swap⟩
theorem neRules_swap (xs ys : List AAct) : neRules xs ys = neRules ys xs := by
  have h : neRules xs ys = false ↔ neRules ys xs = false := by
    rw [← rulesEq_ne, ← rulesEq_ne]
    exact ⟨rulesEq.swap, rulesEq.swap⟩
  cases h1 : neRules xs ys <;> cases h2 : neRules ys xs <;> simp [h1, h2] at h ⊢
theorem neRules_refl (xs : List AAct) : neRules xs xs = false := by
  rw [← rulesEq_ne]
  intro c x y hx hy
  rw [hx] at hy
  injection hy with e
  rw [e]

/-! ### one round -/
def nextT (m : Mach) (r : Int) (t : Tbl) : Tbl := t ++ (foundTo m t r m.length).map fun q => (q, r)
theorem TblInv.tv_none {m : Mach} {r : Int} {t : Tbl} (h : TblInv m r t) (i k : Nat) : tv t i k = 0 ↔ tget t (bothI i k) = none := by
  unfold tv
  cases e : tget t (bothI i k) with
  | none => simp
  | some v =>
    have := (h.low _ _ e).1
    simp
    omega
theorem tget_next {m : Mach} {r : Int} {t : Tbl} {a b : Nat} (hab : a < b) (hb : b < m.length) (hn : tget t ((a : Int), (b : Int)) = none) :
    tget (nextT m r t) ((a : Int), (b : Int)) = if toldI m a b r t then some r else none := by
  unfold nextT
  rw [tget_app, hn]
  have hnp : newP m t r b a = toldI m a b r t := by unfold newP; rw [hn]; rfl
  by_cases h : toldI m a b r t = true
  · rw [if_pos h]
    have hm := found_of (t := t) hab hb (hnp.trans h)
    cases e : tget ((foundTo m t r m.length).map fun q => (q, r)) ((a : Int), (b : Int)) with
    | none =>
      rw [tget_none, fst_map] at e
      exact absurd hm e
    | some v => rw [(tget_map e).1]; rfl
  · rw [if_neg h]
    cases e : tget ((foundTo m t r m.length).map fun q => (q, r)) ((a : Int), (b : Int)) with
    | none => rfl
    | some v =>
      have h2 := found_new (tget_map e).2
      rw [hnp] at h2
      exact absurd h2 h
theorem tget_keep {m : Mach} {r : Int} {t : Tbl} {p : Int × Int} {v : Int} (h : tget t p = some v) : tget (nextT m r t) p = some v := by
  unfold nextT; rw [tget_app, h]; rfl
theorem nextT_ok {m : Mach} {r : Int} {t : Tbl} (h : TblOk m.length t) : TblOk m.length (nextT m r t) := h.add (List.prefix_refl _)

/-- What the reference writes for a pair in a round. -/
theorem tv_next {m : Mach} {r : Int} {t : Tbl} (hok : TblOk m.length t) (hinv : TblInv m r t) (hr : 2 ≤ r) {i k : Nat} (hi : i < m.length) (hk : k < m.length) :
    tv (nextT m r t) i k = if tv t i k = 0 then (if hitT t r (rowM m i) (rowM m k) then r else 0) else tv t i k := by
  have key : ∀ a b : Nat, a < b → b < m.length → tv (nextT m r t) a b = if tv t a b = 0 then (if hitT t r (rowM m a) (rowM m b) then r else 0) else tv t a b := by
    intro a b hab hb
    by_cases h0 : tv t a b = 0
    · rw [if_pos h0]
      rw [hinv.tv_none, bothI_lt hab] at h0
      have heq := hinv.eq hr a b hab hb h0
      unfold tv
      rw [bothI_lt hab, tget_next hab hb h0]
      have e : toldI m a b r t = hitT t r (rowM m a) (rowM m b) := told_hit hok heq
      rw [e]
      cases hitT t r (rowM m a) (rowM m b) <;> simp
    · rw [if_neg h0]
      unfold tv at h0 ⊢
      cases e : tget t (bothI a b) with
      | none => rw [e] at h0; exact absurd rfl h0
      | some v => rw [tget_keep e]
  rcases Nat.lt_trichotomy i k with h | h | h
  · exact key i k h hk
  · subst h
    have e0 : tv t i i = 0 := by
      unfold tv
      rw [show bothI (i : Int) i = ((i : Int), (i : Int)) by unfold bothI; congr 1 <;> omega, tget_diag hok]; rfl
    have e1 : tv (nextT m r t) i i = 0 := by
      unfold tv
      rw [show bothI (i : Int) i = ((i : Int), (i : Int)) by unfold bothI; congr 1 <;> omega, tget_diag (nextT_ok hok)]; rfl
    have e2 : hitT t r (rowM m i) (rowM m i) = false := by
      cases hh : hitT t r (rowM m i) (rowM m i) with
      | false => rfl
      | true =>
        obtain ⟨c, x, y, j, p, hx, hy, hp, ht⟩ := hitT_iff.1 hh
        rw [hx] at hy
        injection hy with hy
        subst hy
        obtain ⟨p1, p2⟩ := p
        rw [List.getElem?_zip_eq_some] at hp
        have e : p1 = p2 := by
          have := hp.1.symm.trans hp.2
          injection this
        subst e
        rw [show bothI p1 p1 = (p1, p1) by unfold bothI; congr 1 <;> omega, tget_diag hok] at ht
        cases ht
    rw [e0, e1, e2]
    rfl
  · rw [tv_swap, key k i h hi, tv_swap t k i, hitT_swap]
theorem tv_one {m : Mach} {i k : Nat} (hi : i < m.length) (hk : k < m.length) : tv (nextT m 1 []) i k = if neRules (rowM m i) (rowM m k) then 1 else 0 := by
  have key : ∀ a b : Nat, a < b → b < m.length → tv (nextT m 1 []) a b = if neRules (rowM m a) (rowM m b) then 1 else 0 := by
    intro a b hab hb
    unfold tv
    rw [bothI_lt hab, tget_next hab hb rfl]
    have e : toldI m a b 1 [] = neRules (rowM m a) (rowM m b) := told_one
    rw [e]
    cases neRules (rowM m a) (rowM m b) <;> simp
  rcases Nat.lt_trichotomy i k with h | h | h
  · exact key i k h hk
  · subst h
    rw [neRules_refl]
    unfold tv
    rw [show bothI (i : Int) i = ((i : Int), (i : Int)) by unfold bothI; congr 1 <;> omega, tget_diag (nextT_ok (TblOk.nil _))]; rfl
  · rw [tv_swap, key k i h hi, neRules_swap]
theorem hit_same {m : Mach} {r : Int} {t : Tbl} (_hinv : TblInv m r t) (hr : 2 ≤ r) (x y : Int) : (tget t (bothI x y) == some (r - 1)) = ((tget t (bothI x y)).getD 0 == r - 1) := by
  cases tget t (bothI x y) with
  | none => simp; omega
  | some v => simp

/-! ### all rounds -/
/-- Ahead of round r the table is t. -/
structure FarSt (m : Mach) (r : Int) (f : Nat) (t : Tbl) : Prop where
  ok : TblOk m.length t
  inv : TblInv m r t
  go : roundsGo m f r t = roundsA m
  sum : r + f = 4201
  two : 2 ≤ r
  len : r - 1 ≤ t.length ∨ (r = 2 ∧ t = [])
theorem tblInv0 (m : Mach) : TblInv m 1 [] := ⟨fun h => by omega, fun p v h => by simp [tget] at h, fun a b v _ _ h => by simp [tget] at h⟩
theorem found_two (m : Mach) : foundTo m [] 2 m.length = [] := by
  cases h : foundTo m [] 2 m.length with
  | nil => rfl
  | cons p ps =>
    obtain ⟨a, b, rfl, _, _, _⟩ := foundTo_mem (m := m) (t := []) (n := 2) (k := m.length) (p := p) (by rw [h]; simp)
    have h2 := found_new (m := m) (t := []) (n := 2) (a := a) (b := b) (by rw [h]; simp)
    unfold newP at h2
    simp only [Bool.and_eq_true] at h2
    obtain ⟨c, x, y, k, q, _, _, _, ht⟩ := toldL_hit (by decide) h2.2
    simp [tget] at ht
theorem roundsGo_cons {m : Mach} {f : Nat} {r : Int} {t : Tbl} (h : foundTo m t r m.length ≠ []) : roundsGo m (f + 1) r t = roundsGo m f (r + 1) (nextT m r t) := by
  unfold nextT
  cases e : foundTo m t r m.length with
  | nil => exact absurd e h
  | cons p ps => rw [roundsGo, e]
theorem roundsGo_nil {m : Mach} {f : Nat} {r : Int} {t : Tbl} (h : foundTo m t r m.length = []) : roundsGo m f r t = t := by
  cases f with
  | zero => rfl
  | succ f => rw [roundsGo, h]
theorem far_start (m : Mach) : FarSt m 2 4199 (nextT m 1 []) := by
  have hi := (tblInv0 m).step (by omega) (fun _ => rfl)
  refine ⟨nextT_ok (TblOk.nil _), hi, ?_, by omega, by omega, ?_⟩
  · by_cases h : foundTo m [] 1 m.length = []
    · have e : nextT m 1 [] = [] := by unfold nextT; rw [h]; rfl
      rw [e, roundsGo_nil (found_two m)]
      exact (roundsGo_nil (f := 4200) h).symm
    · exact (roundsGo_cons (f := 4199) h).symm
  · by_cases h : foundTo m [] 1 m.length = []
    · right
      exact ⟨rfl, by unfold nextT; rw [h]; rfl⟩
    · left
      unfold nextT
      have := List.length_pos_iff.2 h
      simp
      omega
theorem FarSt.done {m : Mach} {r : Int} {f : Nat} {t : Tbl} (h : FarSt m r f t) (hn : foundTo m t r m.length = []) : roundsA m = t := by
  rw [← h.go, roundsGo_nil hn]
theorem FarSt.next {m : Mach} {r : Int} {f : Nat} {t : Tbl} (h : FarSt m r f t) (hm : m.length ≤ 64) (hn : foundTo m t r m.length ≠ []) : ∃ f', f = f' + 1 ∧ FarSt m (r + 1) f' (nextT m r t) := by
  have hl := h.ok.len hm
  have hr : r ≤ 4200 := by
    rcases h.len with h1 | ⟨h1, _⟩ <;> omega
  have := h.sum
  obtain ⟨f', rfl⟩ : ∃ f', f = f' + 1 := ⟨f - 1, by omega⟩
  have hi := h.inv.step (by have := h.two; omega) (fun e => by have := h.two; omega)
  refine ⟨f', rfl, nextT_ok h.ok, hi, ?_, by push_cast at this; omega, by have := h.two; omega, ?_⟩
  · rw [← h.go, roundsGo_cons hn]
  · left
    have hp := List.length_pos_iff.2 hn
    unfold nextT
    rcases h.len with h1 | ⟨h1, h2⟩
    · simp; omega
    · exfalso
      subst h1 h2
      exact hn (found_two m)
/-- Whether a round finds something: there is a pair that was not known and is hit. -/
theorem found_iff {m : Mach} {r : Int} {f : Nat} {t : Tbl} (h : FarSt m r f t) : foundTo m t r m.length ≠ [] ↔ ∃ i k, i < m.length ∧ k < m.length ∧ tv t i k = 0 ∧ hitT t r (rowM m i) (rowM m k) = true := by
  constructor
  · intro hn
    obtain ⟨p, hp⟩ := List.exists_mem_of_ne_nil _ hn
    obtain ⟨a, b, rfl, hab, hb, hno⟩ := foundTo_mem hp
    have h2 := found_new hp
    unfold newP at h2
    simp only [Bool.and_eq_true] at h2
    refine ⟨a, b, by omega, hb, ?_, ?_⟩
    · rw [h.inv.tv_none, bothI_lt hab]; exact hno
    · rw [← told_hit h.ok (h.inv.eq h.two a b hab hb hno)]; exact h2.2
  · rintro ⟨i, k, hi, hk, h0, hh⟩ hnil
    have e := tv_next h.ok h.inv h.two hi hk
    rw [if_pos h0, if_pos hh] at e
    have e2 : nextT m r t = t := by unfold nextT; rw [hnil]; simp
    rw [e2, h0] at e
    have := h.two
    omega

/-! ### pairs that one letter tells apart -/
theorem one_known {m : Mach} {p q : Nat} (hp : p < m.length) (hq : q < m.length) (h : tget (roundsA m) (bothI p q) = some 1) : neRules (rowM m p) (rowM m q) = true := by
  have gen : ∀ (f : Nat) (n : Int) (t : Tbl), 1 ≤ n → (n = 1 → t = []) → (∀ a b : Nat, a < b → b < m.length → tget t ((a : Int), (b : Int)) = some 1 → neRules (rowM m a) (rowM m b) = true) →
      ∀ a b : Nat, a < b → b < m.length → tget (roundsGo m f n t) ((a : Int), (b : Int)) = some 1 → neRules (rowM m a) (rowM m b) = true := by
    intro f
    induction f with
    | zero => intro n t _ _ h; exact h
    | succ f ih =>
      intro n t hn h1 ht a b hab hb he
      by_cases hf : foundTo m t n m.length = []
      · rw [roundsGo_nil hf] at he
        exact ht a b hab hb he
      · rw [roundsGo_cons hf] at he
        refine ih (n + 1) _ (by omega) (by omega) ?_ a b hab hb he
        intro a b hab hb he
        cases hx : tget t ((a : Int), (b : Int)) with
        | some v =>
          rw [tget_keep hx] at he
          exact ht a b hab hb (hx.trans he)
        | none =>
          rw [tget_next hab hb hx] at he
          split at he
          · rename_i hto
            injection he with he
            subst he
            have e := h1 rfl
            subst e
            rw [← told_one]
            exact hto
          · cases he
  have key : ∀ a b : Nat, a < b → b < m.length → tget (roundsA m) ((a : Int), (b : Int)) = some 1 → neRules (rowM m a) (rowM m b) = true :=
    gen 4200 1 [] (by omega) (fun _ => rfl) (fun a b _ _ h => by simp [tget] at h)
  rcases Nat.lt_trichotomy p q with hlt | he | hlt
  · rw [bothI_lt hlt] at h; exact key p q hlt hq h
  · subst he
    rw [show bothI (p : Int) p = ((p : Int), (p : Int)) by unfold bothI; congr 1 <;> omega, tget_diag (roundsA_ok m)] at h
    cases h
  · rw [bothI_swap, bothI_lt hlt] at h; rw [neRules_swap]; exact key q p hlt hp h

set_option maxRecDepth 100000 in
theorem keep_all : ((List.range 64).all fun r => (List.range (2 ^ (memL (r : Int)).length)).all fun k => decide (keepO (memL (r : Int)) (k : Int) (memL (r : Int)).length = keepsI (memL (r : Int)) (k : Int))) = true := by kernel_rfl
theorem keep_eq {r c : Int} (hr : isB r) {k : Nat} (hk : k < 2 ^ (othersA r c).length) : keepO (othersA r c) k (othersA r c).length = keepsI (othersA r c) k := by
  obtain ⟨x, hx, hx64⟩ := nat_of (andNot_isB (b := 2 ^ c.toNat) hr)
  unfold othersA at hk ⊢
  rw [hx] at hk ⊢
  have h := keep_all
  rw [List.all_eq_true] at h
  have h2 := h x (List.mem_range.2 hx64)
  rw [List.all_eq_true] at h2
  exact of_decide_eq_true (h2 k (List.mem_range.2 hk))
end Go.Proofs.Ytlnonadkdonhmaa

/- A matrix of numbers in memory. -/
namespace Go.Proofs.Ytlnonadkdonhmaa
open Go.RowKit Go.Maps

def rowV (n b : Nat) : Value := .slice (some ⟨b, 0, none⟩) n n
def noRow : Value := .slice none 0 0
/-- Rows that are made so far, and what they hold. -/
structure MatAt (w : World) (bo n : Nat) (bs : List Nat) (M : Nat → Nat → Int) : Prop where
  out : Blk w bo (.cells (bs.map (rowV n) ++ List.replicate (n - bs.length) noRow).toArray 22)
  nodup : bs.Nodup
  len : bs.length ≤ n
  row : ∀ (i : Nat) (b : Nat), bs[i]? = some b → Blk w b (.cells (ints ((List.range n).map fun k => M i k)).toArray 3)

def upd (M : Nat → Nat → Int) (i k : Nat) (v : Int) : Nat → Nat → Int := fun x y => if x = i ∧ y = k then v else M x y
theorem info22 : (Try.prog.info? 22).map (fun i => (i.zero, i.size, i.bytes)) = some (some (.slice none 0 0), 1, 24) := by kernel_rfl
theorem sz22 : (Try.prog.info? 22).map (·.size) = some 1 := by kernel_rfl

section
variable {w w' : World} {bo n : Nat} {bs : List Nat} {M M' : Nat → Nat → Int} {S : Nat → Prop}
theorem MatAt.lt (h : MatAt w bo n bs M) : bo < w.heap.size := h.out.lt
theorem MatAt.rlt (h : MatAt w bo n bs M) {b : Nat} (hb : b ∈ bs) : b < w.heap.size := by
  obtain ⟨i, hi⟩ := List.getElem?_of_mem hb
  exact (h.row i b hi).lt
theorem MatAt.frame (h : MatAt w bo n bs M) (hF : Frame S w w') (h1 : ¬ S bo) (h2 : ∀ b ∈ bs, ¬ S b) : MatAt w' bo n bs M :=
  ⟨h.out.frame hF h1, h.nodup, h.len, fun i b hi => (h.row i b hi).frame hF (h2 b (List.mem_of_getElem? hi))⟩
theorem MatAt.below (h : MatAt w bo n bs M) (hB : Below w.heap.size w w') : MatAt w' bo n bs M :=
  h.frame (S := fun _ => False) (Frame.of_all hB) (fun h => h) (fun _ _ h => h)
theorem MatAt.congr (h : MatAt w bo n bs M) (hM : ∀ i k, i < bs.length → k < n → M i k = M' i k) : MatAt w bo n bs M' := by
  refine ⟨h.out, h.nodup, h.len, fun i b hi => ?_⟩
  have hlt := (List.getElem?_eq_some_iff.1 hi).1
  have e : (List.range n).map (fun k => M i k) = (List.range n).map fun k => M' i k := List.map_congr_left fun k hk => hM i k hlt (List.mem_range.1 hk)
  rw [← e]
  exact h.row i b hi
theorem MatAt.ne (h : MatAt w bo n bs M) {b : Nat} (hb : b ∈ bs) : bo ≠ b := by
  obtain ⟨i, hi⟩ := List.getElem?_of_mem hb
  exact blk_ne h.out (h.row i b hi) (by decide)
/-- Row i: where it lies. -/
theorem MatAt.at_ (h : MatAt w bo n bs M) {i : Nat} (hi : i < bs.length) : ∃ b, bs[i]? = some b ∧ b < w.heap.size ∧ w.cell? ⟨bo, i, none⟩ = some (.slice (some ⟨b, 0, none⟩) n n) ∧
    (∀ k, k < n → w.cell? ⟨b, k, none⟩ = some (.int .i64 (M i k))) ∧ ∀ k, w.frozen? ⟨b, k, none⟩ = false := by
  refine ⟨bs[i], List.getElem?_eq_getElem hi, (h.row i _ (List.getElem?_eq_getElem hi)).lt, ?_, fun k hk => ?_, fun k => (h.row i _ (List.getElem?_eq_getElem hi)).free k⟩
  · refine h.out.cell i ?_
    rw [List.getElem?_toArray, List.getElem?_append_left (by simpa using hi), List.getElem?_map, List.getElem?_eq_getElem hi]
    rfl
  · refine (h.row i _ (List.getElem?_eq_getElem hi)).cell k ?_
    simp [ints, hk]
theorem MatAt.set (h : MatAt w bo n bs M) {i k b : Nat} (hb : bs[i]? = some b) (hk : k < n) (v : Int) : MatAt (w.setCell ⟨b, k, none⟩ (.int .i64 v)) bo n bs (upd M i k v) := by
  have hi := (List.getElem?_eq_some_iff.1 hb).1
  refine ⟨h.out.far (h.ne (List.mem_of_getElem? hb)) _, h.nodup, h.len, fun x b' hx => ?_⟩
  by_cases e : x = i
  · subst e
    have eb : b = b' := by rw [hb] at hx; injection hx
    subst eb
    have e2 := (h.row x b hb).set k (.int .i64 v)
    rw [ints_set] at e2
    have e3 : ((List.range n).map fun y => M x y).set k v = (List.range n).map fun y => upd M x k v x y := by
      apply List.ext_getElem?
      intro y
      rw [List.getElem?_set]
      by_cases hy : k = y
      · subst hy
        simp [hk, upd]
      · rw [if_neg hy, List.getElem?_map, List.getElem?_map]
        have : ¬ y = k := fun e => hy e.symm
        by_cases hyn : y < n
        · simp [upd, this, hyn]
        · simp [upd, hyn]
    rw [← e3]
    exact e2
  · have hne : b' ≠ b := by
      rintro rfl
      exact e (nodup_at h.nodup hx hb)
    have e3 : (List.range n).map (fun y => upd M i k v x y) = (List.range n).map fun y => M x y := by
      refine List.map_congr_left fun y _ => ?_
      simp [upd, e]
    rw [e3]
    exact (h.row x b' hx).far hne _
/-- One more row, of zeros. -/
theorem MatAt.push (h : MatAt w bo n bs M) (hl : bs.length < n) {b : Nat} (hb : Blk w b (.cells (ints (List.replicate n 0)).toArray 3)) (hnew : b ∉ bs) : MatAt (w.setCell ⟨bo, bs.length, none⟩ (.slice (some ⟨b, 0, none⟩) n n)) bo n (bs ++ [b]) (fun x y => if x = bs.length then 0 else M x y) := by
  have hne : b ≠ bo := blk_ne hb h.out (by decide)
  refine ⟨?_, ?_, by simp; omega, fun i b' hi => ?_⟩
  · have e := h.out.set bs.length (.slice (some ⟨b, 0, none⟩) n n)
    have e2 : (bs.map (rowV n) ++ List.replicate (n - bs.length) noRow).toArray.setIfInBounds bs.length (.slice (some ⟨b, 0, none⟩) n n) = ((bs ++ [b]).map (rowV n) ++ List.replicate (n - (bs ++ [b]).length) noRow).toArray := by
      have hz : n - bs.length = (n - (bs ++ [b]).length) + 1 := by simp; omega
      rw [List.setIfInBounds_toArray, hz, List.replicate_succ, List.set_append_right _ _ (by simp)]
      simp [rowV]
    rw [e2] at e
    exact e
  · rw [List.nodup_append]
    refine ⟨h.nodup, by simp, ?_⟩
    intro x hx y hy e
    simp at hy
    subst hy e
    exact hnew hx
  · by_cases hlt : i < bs.length
    · rw [List.getElem?_append_left hlt] at hi
      have hne2 : b' ≠ bo := fun e => (h.ne (List.mem_of_getElem? hi)) e.symm
      have e3 : (List.range n).map (fun k => if i = bs.length then 0 else M i k) = (List.range n).map fun k => M i k := by
        refine List.map_congr_left fun y _ => ?_
        rw [if_neg (by omega)]
      rw [e3]
      exact (h.row i b' hi).far hne2 _
    · have hlen := (List.getElem?_eq_some_iff.1 hi).1
      simp at hlen
      have e1 : i = bs.length := by omega
      subst e1
      rw [List.getElem?_append_right (Nat.le_refl _)] at hi
      simp at hi
      subst hi
      have e3 : (List.range n).map (fun k => if bs.length = bs.length then 0 else M bs.length k) = List.replicate n 0 := by
        apply List.ext_getElem?
        intro y
        rw [List.getElem?_map, List.getElem?_replicate]
        by_cases hy : y < n
        · simp [hy]
        · simp [hy]
      rw [e3]
      exact hb.far hne _
theorem MatAt.start {bo : Nat} (h : Blk w bo (.cells (List.replicate n noRow).toArray 22)) (M : Nat → Nat → Int) : MatAt w bo n [] M :=
  ⟨by simpa using h, by simp, by simp, fun i b hi => by simp at hi⟩
theorem made_rows (n : Nat) : (madeCells (Value.slice none 0 0).cells (n * 1)).toList = List.replicate n noRow := by
  unfold madeCells
  rw [Nat.mul_one]
  apply List.ext_getElem
  · simp
  · intro i h1 h2
    simp [Value.cells, Nat.mod_one, noRow]
end

/-! ### what far holds -/
/-- How far a round has come: all pairs ahead of (i, k) are new. -/
def mixM (t t' : Tbl) (i k : Nat) : Nat → Nat → Int := fun x y => if x < i ∨ (x = i ∧ y < k) then tv t' x y else tv t x y
theorem tv_nn {m : Mach} {r : Int} {t : Tbl} (h : TblInv m r t) (i k : Nat) : 0 ≤ tv t i k ∧ tv t i k < r ∨ (tv t i k = 0) := by
  unfold tv
  cases e : tget t (bothI i k) with
  | none => right; rfl
  | some v =>
    have := h.low _ _ e
    left
    simp
    omega
theorem mix_test {m : Mach} {r : Int} {f : Nat} {t : Tbl} (h : FarSt m r f t) {i k x y : Nat} (hx : x < m.length) (hy : y < m.length) (h0 : tv t i k = 0) {v : Int} (hv : v = 0 ∨ v = r) :
    (upd (mixM t (nextT m r t) i k) i k v x y == r - 1) = (tget t (bothI x y) == some (r - 1)) := by
  have h2 := h.two
  have hs := hit_same h.inv h2 (x : Int) (y : Int)
  have hz : ∀ {a b : Nat}, tv t a b = 0 → (tget t (bothI a b) == some (r - 1)) = false := by
    intro a b hab
    rw [h.inv.tv_none] at hab
    rw [hab]; rfl
  unfold upd mixM
  by_cases e : x = i ∧ y = k
  · rw [if_pos e, e.1, e.2, hz h0]
    rcases hv with hv | hv <;> (subst hv; simp; omega)
  · rw [if_neg e]
    by_cases e2 : x < i ∨ (x = i ∧ y < k)
    · rw [if_pos e2, tv_next h.ok h.inv h2 hx hy]
      by_cases e3 : tv t x y = 0
      · rw [if_pos e3, hz e3]
        split <;> simp <;> omega
      · rw [if_neg e3, hs]; rfl
    · rw [if_neg e2, hs]; rfl
theorem mix_step {m : Mach} {r : Int} {f : Nat} {t : Tbl} (h : FarSt m r f t) {i k : Nat} (hi : i < m.length) (hk : k < m.length) (h0 : tv t i k = 0) : ∀ x y, upd (mixM t (nextT m r t) i k) i k (if hitT t r (rowM m i) (rowM m k) then r else 0) x y = mixM t (nextT m r t) i (k + 1) x y := by
  intro x y
  unfold upd mixM
  by_cases e : x = i ∧ y = k
  · obtain ⟨rfl, rfl⟩ := e
    rw [if_pos ⟨rfl, rfl⟩, if_pos (show x < x ∨ x = x ∧ y < y + 1 from .inr ⟨rfl, Nat.lt_succ_self _⟩), tv_next h.ok h.inv h.two hi hk, if_pos h0]
  · rw [if_neg e]
    have e2 : (x < i ∨ (x = i ∧ y < k)) ↔ (x < i ∨ (x = i ∧ y < k + 1)) := by
      constructor
      · rintro (h1 | ⟨h1, h2⟩)
        · exact .inl h1
        · exact .inr ⟨h1, by omega⟩
      · rintro (h1 | ⟨h1, h2⟩)
        · exact .inl h1
        · refine .inr ⟨h1, ?_⟩
          have : y ≠ k := fun e3 => e ⟨h1, e3⟩
          omega
    simp only [e2]
theorem mix_keep {m : Mach} {r : Int} {f : Nat} {t : Tbl} (h : FarSt m r f t) {i k : Nat} (hi : i < m.length) (hk : k < m.length) (h0 : tv t i k ≠ 0) : ∀ x y, mixM t (nextT m r t) i k x y = mixM t (nextT m r t) i (k + 1) x y := by
  intro x y
  unfold mixM
  by_cases e : x = i ∧ y = k
  · obtain ⟨rfl, rfl⟩ := e
    rw [if_neg (by omega), if_pos (show x < x ∨ x = x ∧ y < y + 1 from .inr ⟨rfl, Nat.lt_succ_self _⟩), tv_next h.ok h.inv h.two hi hk, if_neg h0]
  · have e2 : (x < i ∨ (x = i ∧ y < k)) ↔ (x < i ∨ (x = i ∧ y < k + 1)) := by
      constructor
      · rintro (h1 | ⟨h1, h2⟩)
        · exact .inl h1
        · exact .inr ⟨h1, by omega⟩
      · rintro (h1 | ⟨h1, h2⟩)
        · exact .inl h1
        · refine .inr ⟨h1, ?_⟩
          have : y ≠ k := fun e3 => e ⟨h1, e3⟩
          omega
    simp only [e2]
/-- Whether a pair ahead of (i, k) was found in this round. -/
def moreP (m : Mach) (r : Int) (t : Tbl) (i k : Nat) : Prop := ∃ x y, x < m.length ∧ y < m.length ∧ (x < i ∨ (x = i ∧ y < k)) ∧ tv t x y = 0 ∧ hitT t r (rowM m x) (rowM m y) = true
theorem more_row {m : Mach} {r : Int} {t : Tbl} {i : Nat} : moreP m r t i m.length ↔ moreP m r t (i + 1) 0 := by
  constructor
  · rintro ⟨x, y, hx, hy, h1, h2⟩
    exact ⟨x, y, hx, hy, .inl (by omega), h2⟩
  · rintro ⟨x, y, hx, hy, h1, h2⟩
    refine ⟨x, y, hx, hy, ?_, h2⟩
    rcases Nat.lt_or_ge x i with h | h
    · exact .inl h
    · exact .inr ⟨by omega, hy⟩
theorem more_step {m : Mach} {r : Int} {t : Tbl} {i k : Nat} (hi : i < m.length) (hk : k < m.length) (h0 : tv t i k = 0) : moreP m r t i (k + 1) ↔ (moreP m r t i k ∨ hitT t r (rowM m i) (rowM m k) = true) := by
  constructor
  · rintro ⟨x, y, hx, hy, h1, h2⟩
    by_cases e : x = i ∧ y = k
    · obtain ⟨rfl, rfl⟩ := e
      exact .inr h2.2
    · refine .inl ⟨x, y, hx, hy, ?_, h2⟩
      rcases h1 with h1 | ⟨h1, h3⟩
      · exact .inl h1
      · refine .inr ⟨h1, ?_⟩
        have : y ≠ k := fun e3 => e ⟨h1, e3⟩
        omega
  · rintro (⟨x, y, hx, hy, h1, h2⟩ | h)
    · refine ⟨x, y, hx, hy, ?_, h2⟩
      rcases h1 with h1 | ⟨h1, h3⟩
      · exact .inl h1
      · exact .inr ⟨h1, by omega⟩
    · exact ⟨i, k, hi, hk, .inr ⟨rfl, Nat.lt_succ_self _⟩, h0, h⟩
theorem more_keep {m : Mach} {r : Int} {t : Tbl} {i k : Nat} (h0 : tv t i k ≠ 0) : moreP m r t i (k + 1) ↔ moreP m r t i k := by
  constructor
  · rintro ⟨x, y, hx, hy, h1, h2⟩
    refine ⟨x, y, hx, hy, ?_, h2⟩
    rcases h1 with h1 | ⟨h1, h3⟩
    · exact .inl h1
    · refine .inr ⟨h1, ?_⟩
      have : y ≠ k := by
        rintro rfl
        subst h1
        exact h0 h2.1
      omega
  · rintro ⟨x, y, hx, hy, h1, h2⟩
    refine ⟨x, y, hx, hy, ?_, h2⟩
    rcases h1 with h1 | ⟨h1, h3⟩
    · exact .inl h1
    · exact .inr ⟨h1, by omega⟩
theorem more_done {m : Mach} {r : Int} {f : Nat} {t : Tbl} (h : FarSt m r f t) : moreP m r t m.length 0 ↔ foundTo m t r m.length ≠ [] := by
  rw [found_iff h]
  constructor
  · rintro ⟨x, y, hx, hy, _, h2⟩
    exact ⟨x, y, hx, hy, h2⟩
  · rintro ⟨x, y, hx, hy, h2⟩
    exact ⟨x, y, hx, hy, .inl hx, h2⟩
theorem far_rulesEq {m : Mach} {r : Int} {f : Nat} {t : Tbl} (h : FarSt m r f t) {i k : Nat} (hi : i < m.length) (hk : k < m.length) (h0 : tv t i k = 0) : rulesEq (rowM m i) (rowM m k) := by
  rw [h.inv.tv_none] at h0
  rcases Nat.lt_trichotomy i k with hlt | he | hlt
  · rw [bothI_lt hlt] at h0; exact h.inv.eq h.two i k hlt hk h0
  · subst he
    intro c x y hx hy
    rw [hx] at hy
    injection hy with e
    rw [e]
  · rw [bothI_swap, bothI_lt hlt] at h0; exact (h.inv.eq h.two k i hlt hi h0).swap
theorem MatAt.drew {w : World} {bo n : Nat} {bs : List Nat} {M : Nat → Nat → Int} (h : MatAt w bo n bs M) : MatAt w.drew bo n bs M := h.frame (S := fun _ => False) (Frame.refl _ w).drew (fun h => h) (fun _ _ h => h)
theorem MatAt.hole {w : World} {bo n : Nat} {bs : List Nat} {M : Nat → Nat → Int} (h : MatAt w bo n bs M) (hl : bs.length < n) : w.cell? ⟨bo, bs.length, none⟩ = some (.slice none 0 0) ∧ w.frozen? ⟨bo, bs.length, none⟩ = false := by
  refine ⟨h.out.cell _ ?_, h.out.free _⟩
  have e : n - bs.length = (n - bs.length - 1) + 1 := by omega
  rw [List.getElem?_toArray, List.getElem?_append_right (by simp), List.length_map, Nat.sub_self, e, List.replicate_succ]
  rfl

/-! ### the loops' tests -/
def neTo (xs ys : List AAct) (c : Nat) : Bool := ((xs.zip ys).take c).any fun p => p.1.rule != p.2.rule
def hitQ (t : Tbl) (v : Int) (q : Int × Int) : Bool := tget t (bothI q.1 q.2) == some (v - 1)
def hitC (t : Tbl) (v : Int) (p : AAct × AAct) : Bool := (p.1.next.zip p.2.next).any (hitQ t v)
def hitTo (t : Tbl) (v : Int) (xs ys : List AAct) (c : Nat) : Bool := ((xs.zip ys).take c).any (hitC t v)
def hitIn (t : Tbl) (v : Int) (a b : AAct) (q : Nat) : Bool := ((a.next.zip b.next).take q).any (hitQ t v)
theorem any_take_succ {α : Type} {p : α → Bool} {xs : List α} {k : Nat} {x : α} (h : xs[k]? = some x) : (xs.take (k + 1)).any p = ((xs.take k).any p || p x) := by
  rw [take_succ_of h, List.any_append]; simp
theorem zip_at {α β : Type} {xs : List α} {ys : List β} {c : Nat} {a : α} {b : β} (ha : xs[c]? = some a) (hb : ys[c]? = some b) : (xs.zip ys)[c]? = some (a, b) := by
  rw [List.getElem?_zip_eq_some]; exact ⟨ha, hb⟩
theorem neTo_step {xs ys : List AAct} {c : Nat} {a b : AAct} (ha : xs[c]? = some a) (hb : ys[c]? = some b) : neTo xs ys (c + 1) = (neTo xs ys c || (a.rule != b.rule)) := any_take_succ (zip_at ha hb)
theorem neTo_all {xs ys : List AAct} (h : xs.length = ys.length) : neTo xs ys xs.length = neRules xs ys := by
  unfold neTo neRules
  rw [List.take_of_length_le (by rw [List.length_zip]; omega)]
theorem hitTo_step {t : Tbl} {v : Int} {xs ys : List AAct} {c : Nat} {a b : AAct} (ha : xs[c]? = some a) (hb : ys[c]? = some b) : hitTo t v xs ys (c + 1) = (hitTo t v xs ys c || hitC t v (a, b)) := any_take_succ (zip_at ha hb)
theorem hitTo_all {t : Tbl} {v : Int} {xs ys : List AAct} (h : xs.length = ys.length) : hitTo t v xs ys xs.length = hitT t v xs ys := by
  unfold hitTo
  rw [List.take_of_length_le (by rw [List.length_zip]; omega)]
  rfl
theorem hitIn_step {t : Tbl} {v : Int} {a b : AAct} {q : Nat} {x y : Int} (ha : a.next[q]? = some x) (hb : b.next[q]? = some y) : hitIn t v a b (q + 1) = (hitIn t v a b q || hitQ t v (x, y)) := any_take_succ (zip_at ha hb)
theorem hitIn_all {t : Tbl} {v : Int} {a b : AAct} (h : a.next.length = b.next.length) : hitIn t v a b a.next.length = hitC t v (a, b) := by
  unfold hitIn
  rw [List.take_of_length_le (by rw [List.length_zip]; omega)]
  rfl
/-- A row of the machine: where it lies. -/
theorem row_at {n0 : Int} {rs : List Int} {w : World} {B : Option Addr} {m : Mach} {d i : Nat} (hM : MachAt w B m) (hf : formedA n0 rs m = true) (hi : i < m.length) :
    ∃ E f b o, b < w.heap.size ∧ (∀ w', (Instr.indexAt 25 (.slice B m.length d) (.int .i64 (i : Int))).run Try.prog w' = .ok (.pointer (some ⟨b, o, none⟩)) w') ∧ w.cell? ⟨b, o, none⟩ = some (.slice E (rowM m i).length f) ∧ ActsAt w E (rowM m i) ∧
      ((rowM m i).length : Int) = n0 ∧ allTo (fun c a => actOkA rs m.length c a) (rowM m i) (rowM m i).length = true := by
  obtain ⟨xs, E, f, b, o, hx, hb, hix, hc, ha⟩ := mach_at (c := d) (k := i) hM hi
  obtain ⟨ys, hy, hyl, hya⟩ := row_of hf hi
  have e : xs = ys := by rw [hx] at hy; injection hy
  subst e
  have e : rowM m i = xs := by unfold rowM; simp [List.getD, hx]
  rw [e]
  exact ⟨E, f, b, o, hb, hix, hc, ha, hyl, hya⟩
end Go.Proofs.Ytlnonadkdonhmaa

/- States that are alike, plainly: pairs of states of two machines that say the same. -/
namespace Go.Proofs.Ytlnonadkdonhmaa
open Go.RowKit Go.Maps

section
variable {n : Int} {rs : List Int} {m m' m'' : Mach}
theorem rowM_get (_hf : formedA n rs m = true) {p : Nat} (hp : p < m.length) : m[p]? = some (rowM m p) := by
  unfold rowM
  simp [List.getD, List.getElem?_eq_getElem hp]
theorem rowM_len (hf : formedA n rs m = true) {p : Nat} (hp : p < m.length) : ((rowM m p).length : Int) = n := by
  obtain ⟨xs, hx, hl, _⟩ := row_of hf hp
  rw [rowM_get hf hp] at hx
  injection hx with hx
  rw [hx]
  exact hl
theorem act_ok (hf : formedA n rs m = true) {p c : Nat} {x : AAct} (hp : p < m.length) (hx : (rowM m p)[c]? = some x) : actOkA rs m.length c x = true := by
  obtain ⟨xs, hxs, _, ha⟩ := row_of hf hp
  rw [rowM_get hf hp] at hxs
  injection hxs with hxs
  subst hxs
  exact allTo_at ha hx (List.getElem?_eq_some_iff.1 hx).1
theorem act_next (hf : formedA n rs m = true) {p c : Nat} {x : AAct} (hp : p < m.length) (hx : (rowM m p)[c]? = some x) {q : Int} (hq : q ∈ x.next) : 0 ≤ q ∧ q < m.length := next_mem (act_ok hf hp hx) hq
theorem next_many {len : Nat} {c : Int} {a : AAct} (ha : actOkA rs len c a = true) : a.next.length = manyA rs c a.rule := by
  simp only [actOkA, Bool.and_eq_true, decide_eq_true_eq] at ha
  exact ha.1.2
theorem formed_len (hf : formedA n rs m = true) : 1 ≤ m.length ∧ m.length ≤ 64 := by
  simp only [formedA, Bool.and_eq_true, decide_eq_true_eq] at hf
  exact ⟨hf.1.1.2, hf.1.2⟩
theorem formed_grp (hf : formedA n rs m = true) : grpOk n rs = true := by
  simp only [formedA, Bool.and_eq_true, decide_eq_true_eq] at hf
  exact hf.1.1.1

/-- Pairs of states that say the same, and lead to such pairs. -/
structure Bis (m m' : Mach) (R : Nat → Nat → Prop) : Prop where
  lt : ∀ a b, R a b → a < m.length ∧ b < m'.length
  rule : ∀ a b, R a b → rulesEq (rowM m a) (rowM m' b)
  next : ∀ a b, R a b → ∀ (c : Nat) (x y : AAct) (j : Nat) (p q : Int), (rowM m a)[c]? = some x → (rowM m' b)[c]? = some y → x.next[j]? = some p → y.next[j]? = some q → R p.toNat q.toNat
def Sim (m m' : Mach) (a b : Nat) : Prop := ∃ R, Bis m m' R ∧ R a b

theorem Bis.swap {R : Nat → Nat → Prop} (h : Bis m m' R) : Bis m' m (fun a b => R b a) :=
  ⟨fun a b hr => ⟨(h.lt b a hr).2, (h.lt b a hr).1⟩, fun a b hr => (h.rule b a hr).swap, fun a b hr c x y j p q hx hy hp hq => h.next b a hr c y x j q p hy hx hq hp⟩
theorem Sim.swap {a b : Nat} (h : Sim m m' a b) : Sim m' m b a := by
  obtain ⟨R, hB, hR⟩ := h
  exact ⟨_, hB.swap, hR⟩
theorem Sim.refl (hf : formedA n rs m = true) {a : Nat} (ha : a < m.length) : Sim m m a a := by
  refine ⟨fun x y => x = y ∧ x < m.length, ⟨?_, ?_, ?_⟩, rfl, ha⟩
  · rintro x y ⟨rfl, h⟩; exact ⟨h, h⟩
  · rintro x y ⟨rfl, h⟩
    rw [rulesEq_ne]
    exact neRules_refl _
  · rintro x y ⟨rfl, h⟩ c u v j p q hu hv hp hq
    rw [hu] at hv
    injection hv with hv
    subst hv
    rw [hp] at hq
    injection hq with hq
    subst hq
    have := act_next hf h hu (List.mem_of_getElem? hp)
    exact ⟨rfl, by omega⟩
/-- The steps of two that say the same lie beside one another. -/
theorem Bis.at_ (hf : formedA n rs m = true) (hf' : formedA n rs m' = true) {R : Nat → Nat → Prop} (h : Bis m m' R) {a b : Nat} (hR : R a b) {c : Nat} {x : AAct} (hx : (rowM m a)[c]? = some x) :
    ∃ y, (rowM m' b)[c]? = some y ∧ x.rule = y.rule ∧ x.next.length = y.next.length := by
  obtain ⟨ha, hb⟩ := h.lt a b hR
  have hc := (List.getElem?_eq_some_iff.1 hx).1
  have h1 := rowM_len hf ha
  have h2 := rowM_len hf' hb
  obtain ⟨y, hy⟩ : ∃ y, (rowM m' b)[c]? = some y := ⟨_, List.getElem?_eq_getElem (by omega)⟩
  have hr := h.rule a b hR c x y hx hy
  refine ⟨y, hy, hr, ?_⟩
  rw [next_many (act_ok hf ha hx), next_many (act_ok hf' hb hy), hr]
theorem Sim.trans (hf : formedA n rs m = true) (hf' : formedA n rs m' = true) {a b d : Nat} (h1 : Sim m m' a b) (h2 : Sim m' m'' b d) : Sim m m'' a d := by
  obtain ⟨R, hR, hab⟩ := h1
  obtain ⟨S, hS, hbd⟩ := h2
  refine ⟨fun x z => ∃ y, R x y ∧ S y z, ⟨?_, ?_, ?_⟩, b, hab, hbd⟩
  · rintro x z ⟨y, h1, h2⟩
    exact ⟨(hR.lt x y h1).1, (hS.lt y z h2).2⟩
  · rintro x z ⟨y, h1, h2⟩ c u v hu hv
    obtain ⟨t, ht, hr, _⟩ := hR.at_ hf hf' h1 hu
    exact hr.trans (hS.rule y z h2 c t v ht hv)
  · rintro x z ⟨y, h1, h2⟩ c u v j p q hu hv hp hq
    obtain ⟨t, ht, _, hl⟩ := hR.at_ hf hf' h1 hu
    have hj := (List.getElem?_eq_some_iff.1 hp).1
    obtain ⟨r, hr⟩ : ∃ r, t.next[j]? = some r := ⟨_, List.getElem?_eq_getElem (by omega)⟩
    exact ⟨r.toNat, hR.next x y h1 c u t j p r hu ht hp hr, hS.next y z h2 c t v j r q ht hv hr hq⟩
theorem Sim.lt {a b : Nat} (h : Sim m m' a b) : a < m.length ∧ b < m'.length := by
  obtain ⟨R, hB, hR⟩ := h
  exact hB.lt a b hR
theorem Sim.rule {a b : Nat} (h : Sim m m' a b) : rulesEq (rowM m a) (rowM m' b) := by
  obtain ⟨R, hB, hR⟩ := h
  exact hB.rule a b hR
theorem Sim.next {a b : Nat} (h : Sim m m' a b) {c j : Nat} {x y : AAct} {p q : Int} (hx : (rowM m a)[c]? = some x) (hy : (rowM m' b)[c]? = some y) (hp : x.next[j]? = some p) (hq : y.next[j]? = some q) : Sim m m' p.toNat q.toNat := by
  obtain ⟨R, hB, hR⟩ := h
  exact ⟨R, hB, hB.next a b hR c x y j p q hx hy hp hq⟩
theorem Sim.at_ (hf : formedA n rs m = true) (hf' : formedA n rs m' = true) {a b : Nat} (h : Sim m m' a b) {c : Nat} {x : AAct} (hx : (rowM m a)[c]? = some x) :
    ∃ y, (rowM m' b)[c]? = some y ∧ x.rule = y.rule ∧ x.next.length = y.next.length := by
  obtain ⟨R, hB, hR⟩ := h
  exact hB.at_ hf hf' hR hx

/-! ### the table says it -/
theorem bothI_nat {p q : Int} (hp : 0 ≤ p) (hq : 0 ≤ q) : bothI p q = bothI (p.toNat : Int) (q.toNat : Int) := by
  rw [Int.toNat_of_nonneg hp, Int.toNat_of_nonneg hq]
/-- What is known of the pairs behind an unknown one is new. -/
def Late (m : Mach) (r : Int) (t : Tbl) : Prop := ∀ i k, i < m.length → k < m.length → tv t i k = 0 → ∀ (c : Nat) (x y : AAct) (j : Nat) (p q : Int), (rowM m i)[c]? = some x → (rowM m k)[c]? = some y → x.next[j]? = some p → y.next[j]? = some q →
  tget t (bothI p q) = none ∨ tget t (bothI p q) = some (r - 1)
theorem late_start (m : Mach) : Late m 2 (nextT m 1 []) := by
  intro i k _ _ _ c x y j p q _ _ _ _
  cases e : tget (nextT m 1 []) (bothI p q) with
  | none => exact .inl rfl
  | some v =>
    have := (far_start m).inv.low _ _ e
    exact .inr (by congr 1; omega)
theorem hit_of {t : Tbl} {r : Int} {xs ys : List AAct} {c j : Nat} {x y : AAct} {p q : Int} (hx : xs[c]? = some x) (hy : ys[c]? = some y) (hp : x.next[j]? = some p) (hq : y.next[j]? = some q) (h : tget t (bothI p q) = some (r - 1)) : hitT t r xs ys = true := by
  rw [hitT_iff]
  exact ⟨c, x, y, j, (p, q), hx, hy, by rw [List.getElem?_zip_eq_some]; exact ⟨hp, hq⟩, h⟩
theorem late_none {r : Int} {f : Nat} {t : Tbl} (h : FarSt m r f t) (hL : Late m r t) {i k : Nat} (hi : i < m.length) (hk : k < m.length) (h0 : tv (nextT m r t) i k = 0) {c j : Nat} {x y : AAct} {p q : Int} (hx : (rowM m i)[c]? = some x) (hy : (rowM m k)[c]? = some y) (hp : x.next[j]? = some p) (hq : y.next[j]? = some q) :
    tget t (bothI p q) = none := by
  have e := tv_next h.ok h.inv h.two hi hk
  rw [h0] at e
  have htwo := h.two
  by_cases ht : tv t i k = 0
  · rw [if_pos ht] at e
    rcases hL i k hi hk ht c x y j p q hx hy hp hq with h1 | h1
    · exact h1
    · rw [if_pos (hit_of hx hy hp hq h1)] at e
      omega
  · rw [if_neg ht] at e
    exact absurd e.symm ht
theorem late_next {r : Int} {f : Nat} {t : Tbl} (h : FarSt m r f t) (hL : Late m r t) : Late m (r + 1) (nextT m r t) := by
  intro i k hi hk h0 c x y j p q hx hy hp hq
  have h1 := late_none h hL hi hk h0 hx hy hp hq
  unfold nextT
  rw [tget_app, h1]
  cases e : tget ((foundTo m t r m.length).map fun q => (q, r)) (bothI p q) with
  | none => exact .inl rfl
  | some v =>
    have := (tget_map e).1
    subst this
    exact .inr (by show some v = _; congr 1; omega)
theorem far_end (hm : m.length ≤ 64) : ∀ (f : Nat) (r : Int) (t : Tbl), FarSt m r f t → Late m r t → ∃ r' f', FarSt m r' f' (roundsA m) ∧ Late m r' (roundsA m) ∧ foundTo m (roundsA m) r' m.length = []
  | f, r, t, h, hL => by
    by_cases hn : foundTo m t r m.length = []
    · have e := h.done hn
      rw [e]
      exact ⟨r, f, h, hL, hn⟩
    · obtain ⟨f', rfl, h2⟩ := h.next hm hn
      exact far_end hm f' (r + 1) _ h2 (late_next h hL)
theorem alike_bis (hf : formedA n rs m = true) : Bis m m (fun i k => i < m.length ∧ k < m.length ∧ tv (roundsA m) i k = 0) := by
  obtain ⟨r, f, h, hL, hn⟩ := far_end (formed_len hf).2 _ _ _ (far_start m) (late_start m)
  have e : nextT m r (roundsA m) = roundsA m := by unfold nextT; rw [hn]; simp
  refine ⟨fun a b hr => ⟨hr.1, hr.2.1⟩, fun a b hr => far_rulesEq h hr.1 hr.2.1 hr.2.2, ?_⟩
  rintro a b ⟨ha, hb, h0⟩ c x y j p q hx hy hp hq
  have h1 := late_none h hL ha hb (by rw [e]; exact h0) hx hy hp hq
  have hp2 := act_next hf ha hx (List.mem_of_getElem? hp)
  have hq2 := act_next hf hb hy (List.mem_of_getElem? hq)
  refine ⟨by omega, by omega, ?_⟩
  rw [h.inv.tv_none, ← bothI_nat hp2.1 hq2.1]
  exact h1
theorem bis_alike (hf : formedA n rs m = true) {R : Nat → Nat → Prop} (hB : Bis m m R) : ∀ (N : Nat) (i k : Nat) (v : Int), v.toNat ≤ N → R i k → tget (roundsA m) (bothI i k) = some v → False
  | N, i, k, v, hN, hR, ht => by
    obtain ⟨hi, hk⟩ := hB.lt i k hR
    obtain ⟨h1, _, h2⟩ := pair_known hi hk (.inr trivial) ht (roundsA_ok m)
    by_cases hv : v = 1
    · subst hv
      have e := one_known hi hk ht
      rw [rulesEq_ne.1 (hB.rule i k hR)] at e
      cases e
    · obtain ⟨_, c, x, y, j, ⟨p, q⟩, hx, hy, hz, ht2⟩ := h2 hv
      rw [List.getElem?_zip_eq_some] at hz
      have hp2 := act_next hf hi hx (List.mem_of_getElem? hz.1)
      have hq2 := act_next hf hk hy (List.mem_of_getElem? hz.2)
      cases N with
      | zero => omega
      | succ N =>
        simp only at ht2
        rw [bothI_nat hp2.1 hq2.1] at ht2
        exact bis_alike hf hB N p.toNat q.toNat (v - 1) (by omega) (hB.next i k hR c x y j p q hx hy hz.1 hz.2) ht2
theorem tv_zero {i k : Nat} (hi : i < m.length) (hk : k < m.length) : tv (roundsA m) i k = 0 ↔ tget (roundsA m) (bothI i k) = none := by
  constructor
  · intro h
    cases e : tget (roundsA m) (bothI i k) with
    | none => rfl
    | some v =>
      have := (pair_known hi hk (.inr trivial) e (roundsA_ok m)).1
      unfold tv at h
      rw [e] at h
      simp at h
      omega
  · intro h
    unfold tv
    rw [h]
    rfl
/-- Two states say the same just if the table knows nothing of them. -/
theorem sim_iff (hf : formedA n rs m = true) {i k : Nat} (hi : i < m.length) (hk : k < m.length) : Sim m m i k ↔ tget (roundsA m) (bothI i k) = none := by
  constructor
  · rintro ⟨R, hB, hR⟩
    cases e : tget (roundsA m) (bothI i k) with
    | none => rfl
    | some v => exact (bis_alike hf hB v.toNat i k v (Nat.le_refl _) hR e).elim
  · intro h
    exact ⟨_, alike_bis hf, hi, hk, (tv_zero hi hk).2 h⟩
theorem sim_tv (hf : formedA n rs m = true) {i k : Nat} (hi : i < m.length) (hk : k < m.length) : Sim m m i k ↔ tv (roundsA m) i k = 0 := by rw [sim_iff hf hi hk, tv_zero hi hk]
end
end Go.Proofs.Ytlnonadkdonhmaa

/- What Least makes, plainly; the reference makes the same. -/
namespace Go.Proofs.Ytlnonadkdonhmaa
open Go.RowKit Go.Maps

/-- The first state that says the same. -/
def firstA (m : Mach) (s : Nat) : Nat := ((List.range s).find? fun (k : Nat) => (tget (roundsA m) (bothI k s)).isNone).getD s
def fsT (m : Mach) (x : Int) : Int := (firstA m x.toNat : Int)
def InM (m : Mach) (l : List Int) : Prop := ∀ x ∈ l, 0 ≤ x ∧ x < (m.length : Int)

theorem find_range {p : Nat → Bool} {s c : Nat} (h1 : ∀ k, k < c → p k = false) (hc : c ≤ s) (h2 : c = s ∨ p c = true) : ((List.range s).find? p).getD s = c := by
  rcases h2 with rfl | h2
  · have e : (List.range c).find? p = none := by
      rw [List.find?_eq_none]
      intro x hx
      rw [h1 x (List.mem_range.1 hx)]
      decide
    rw [e]
    rfl
  · by_cases e : c = s
    · subst e
      have e : (List.range c).find? p = none := by
        rw [List.find?_eq_none]
        intro x hx
        rw [h1 x (List.mem_range.1 hx)]
        decide
      rw [e]
      rfl
    · have e2 : (List.range s).find? p = some c := by
        rw [List.find?_range_eq_some]
        refine ⟨h2, by simp; omega, fun j hj => ?_⟩
        rw [h1 j hj]
        rfl
      rw [e2]
      rfl
theorem find_range' (p : Nat → Bool) (s : Nat) : ∃ c, c ≤ s ∧ ((List.range s).find? p).getD s = c ∧ (∀ k, k < c → p k = false) ∧ (c = s ∨ p c = true) := by
  cases e : (List.range s).find? p with
  | none =>
    rw [List.find?_eq_none] at e
    refine ⟨s, Nat.le_refl _, rfl, fun k hk => ?_, .inl rfl⟩
    have := e k (List.mem_range.2 hk)
    simpa using this
  | some c =>
    rw [List.find?_range_eq_some] at e
    obtain ⟨h1, h2, h3⟩ := e
    refine ⟨c, by have := List.mem_range.1 h2; omega, rfl, fun k hk => ?_, .inr h1⟩
    have := h3 k hk
    simpa using this
theorem firstA_of {m : Mach} {s c : Nat} (h1 : ∀ k, k < c → tget (roundsA m) (bothI k s) ≠ none) (hc : c ≤ s) (h2 : c = s ∨ tget (roundsA m) (bothI c s) = none) : firstA m s = c :=
  find_range (fun k hk => by
    cases e : tget (roundsA m) (bothI k s) with
    | none => exact absurd e (h1 k hk)
    | some v => rfl) hc (h2.imp id fun h => by rw [h]; rfl)

section
variable {n : Int} {rs : List Int} {m : Mach}
theorem firstA_le (m : Mach) (s : Nat) : firstA m s ≤ s := by
  obtain ⟨c, h1, h2, _, _⟩ := find_range' (fun k => (tget (roundsA m) (bothI k s)).isNone) s
  unfold firstA
  omega
theorem firstA_sim (hf : formedA n rs m = true) {s : Nat} (hs : s < m.length) : Sim m m (firstA m s) s := by
  obtain ⟨c, h1, h2, h3, h4⟩ := find_range' (fun k => (tget (roundsA m) (bothI k s)).isNone) s
  have e : firstA m s = c := h2
  rw [e]
  rcases h4 with rfl | h4
  · exact Sim.refl hf hs
  · rw [sim_iff hf (by omega) hs]
    simpa using h4
theorem firstA_min (hf : formedA n rs m = true) {s k : Nat} (hs : s < m.length) (hk : k < firstA m s) : ¬ Sim m m k s := by
  obtain ⟨c, h1, h2, h3, h4⟩ := find_range' (fun k => (tget (roundsA m) (bothI k s)).isNone) s
  have e : firstA m s = c := h2
  rw [e] at hk
  rw [sim_iff hf (by omega) hs]
  intro h
  have := h3 k hk
  rw [h] at this
  cases this
theorem first_iff (hf : formedA n rs m = true) {i k : Nat} (hi : i < m.length) (hk : k < m.length) : Sim m m i k ↔ firstA m i = firstA m k := by
  have h1 := firstA_sim hf hi
  have h2 := firstA_sim hf hk
  constructor
  · intro h
    rcases Nat.lt_trichotomy (firstA m i) (firstA m k) with hlt | he | hlt
    · exact absurd (h1.trans hf hf h) (firstA_min hf hk hlt)
    · exact he
    · exact absurd (h2.trans hf hf h.swap) (firstA_min hf hi hlt)
  · intro h
    rw [← h] at h2
    exact h1.swap.trans hf hf h2
theorem fsT_in (_hf : formedA n rs m = true) {x : Int} (hx : 0 ≤ x ∧ x < (m.length : Int)) : 0 ≤ fsT m x ∧ fsT m x < (m.length : Int) := by
  have := firstA_le m x.toNat
  unfold fsT
  omega
theorem fsT_iff (hf : formedA n rs m = true) {x y : Int} (hx : 0 ≤ x ∧ x < (m.length : Int)) (hy : 0 ≤ y ∧ y < (m.length : Int)) : fsT m x = fsT m y ↔ tv (roundsA m) x.toNat y.toNat = 0 := by
  rw [← sim_tv hf (by omega) (by omega), first_iff hf (by omega) (by omega)]
  unfold fsT
  omega
theorem firstA_idem (hf : formedA n rs m = true) {s : Nat} (hs : s < m.length) : firstA m (firstA m s) = firstA m s := by
  have h1 := firstA_sim hf hs
  exact (first_iff hf h1.lt.1 hs).1 h1
theorem fsT_idem (hf : formedA n rs m = true) {x : Int} (hx : 0 ≤ x ∧ x < (m.length : Int)) : fsT m (fsT m x) = fsT m x := by
  unfold fsT
  rw [Int.toNat_natCast, firstA_idem hf (by omega)]
theorem firstA_zero (m : Mach) : firstA m 0 = 0 := by have := firstA_le m 0; omega

/-! ### the program's -/
/-- The acts of a row with their new numbers, up to the k-th, and the heads behind. -/
def lactsTo (m : Mach) (row : List AAct) (l : List Int) : Nat → List AAct × List Int
  | 0 => ([], l)
  | k + 1 => match row[k]? with
    | none => lactsTo m row l k
    | some a => ((lactsTo m row l k).1 ++ [⟨a.rule, (foldNum (lactsTo m row l k).2 (a.next.map (fsT m))).1⟩], (foldNum (lactsTo m row l k).2 (a.next.map (fsT m))).2)
def leastTo (m : Mach) : Nat → Mach × List Int
  | 0 => ([], [0])
  | k + 1 => match (leastTo m k).2[k]? with
    | none => leastTo m k
    | some s => ((leastTo m k).1 ++ [(lactsTo m (rowM m s.toNat) (leastTo m k).2 (rowM m s.toNat).length).1], (lactsTo m (rowM m s.toNat) (leastTo m k).2 (rowM m s.toNat).length).2)
def leastM (m : Mach) : Mach := (leastTo m 64).1
def leastH (m : Mach) : List Int := (leastTo m 64).2
def clsN (hs : List Int) (x : Int) : Int := if x ∈ hs then (hs.idxOf x : Int) else -1
def leastC (m : Mach) : List Int := (List.range m.length).map fun (k : Nat) => clsN (leastH m) (firstA m k : Int)

/-- Heads: each once, each the first of its like. -/
structure HeadsOk (m : Mach) (l : List Int) : Prop where
  nodup : l.Nodup
  all : ∀ x ∈ l, (0 ≤ x ∧ x < (m.length : Int)) ∧ fsT m x = x
theorem HeadsOk.sets {l : List Int} (h : HeadsOk m l) (hl : m.length ≤ 64) : SetsOk l := ⟨h.nodup, fun x hx => by have := (h.all x hx).1; unfold isB; omega⟩
theorem HeadsOk.add {l : List Int} {x : Int} (h : HeadsOk m l) (hx : 0 ≤ x ∧ x < (m.length : Int)) (hfx : fsT m x = x) : HeadsOk m (addNum l x) := by
  unfold addNum
  split
  · exact h
  · rename_i hn
    refine ⟨?_, fun y hy => ?_⟩
    · rw [List.nodup_append]
      exact ⟨h.nodup, by simp, fun a ha b hb => by simp at hb; subst hb; rintro rfl; exact hn ha⟩
    · rcases List.mem_append.1 hy with hy | hy
      · exact h.all y hy
      · simp at hy; subst hy; exact ⟨hx, hfx⟩
theorem foldNum_heads {l : List Int} (h : HeadsOk m l) (xs : List Int) (hx : ∀ x ∈ xs, (0 ≤ x ∧ x < (m.length : Int)) ∧ fsT m x = x) : HeadsOk m (foldNum l xs).2 := by
  have gen : ∀ (xs : List Int) (p : List Int × List Int), HeadsOk m p.2 → (∀ x ∈ xs, (0 ≤ x ∧ x < (m.length : Int)) ∧ fsT m x = x) → HeadsOk m (xs.foldl (fun p x => (p.1 ++ [(p.2.idxOf x : Int)], addNum p.2 x)) p).2 := by
    intro xs
    induction xs with
    | nil => intro p hp _; exact hp
    | cons y ys ih => intro p hp hx; exact ih _ (hp.add (hx y (by simp)).1 (hx y (by simp)).2) (fun x hx' => hx x (by simp [hx']))
  exact gen xs _ h hx
theorem map_heads (hf : formedA n rs m = true) {xs : List Int} (hx : InM m xs) : ∀ x ∈ xs.map (fsT m), (0 ≤ x ∧ x < (m.length : Int)) ∧ fsT m x = x := by
  intro x hx'
  obtain ⟨y, hy, rfl⟩ := List.mem_map.1 hx'
  exact ⟨fsT_in hf (hx y hy), fsT_idem hf (hx y hy)⟩
def RowIn (m : Mach) (row : List AAct) : Prop := ∀ a ∈ row, InM m a.next
theorem rowIn_of (hf : formedA n rs m = true) {s : Nat} (hs : s < m.length) : RowIn m (rowM m s) := by
  intro a ha x hx
  obtain ⟨c, hc⟩ := List.getElem?_of_mem ha
  exact act_next hf hs hc hx
theorem lactsTo_ok (hf : formedA n rs m = true) {row : List AAct} (hr : RowIn m row) {l : List Int} (h : HeadsOk m l) : ∀ k, HeadsOk m (lactsTo m row l k).2
  | 0 => h
  | k + 1 => by
    unfold lactsTo
    cases e : row[k]? with
    | none => exact lactsTo_ok hf hr h k
    | some a => exact foldNum_heads (lactsTo_ok hf hr h k) _ (map_heads hf (hr a (List.mem_of_getElem? e)))
theorem lactsTo_len {row : List AAct} {l : List Int} : ∀ k, k ≤ row.length → (lactsTo m row l k).1.length = k
  | 0, _ => rfl
  | k + 1, h => by
    unfold lactsTo
    rw [List.getElem?_eq_getElem (show k < row.length by omega)]
    simp [lactsTo_len (row := row) (l := l) k (by omega)]
theorem lactsTo_pre (row : List AAct) (l : List Int) : ∀ k, l <+: (lactsTo m row l k).2
  | 0 => List.prefix_refl _
  | k + 1 => by
    unfold lactsTo
    cases e : row[k]? with
    | none => exact lactsTo_pre row l k
    | some a => exact (lactsTo_pre row l k).trans (foldNum_pre _ _)
theorem leastTo_ok (hf : formedA n rs m = true) : ∀ k, HeadsOk m (leastTo m k).2
  | 0 => ⟨by simp [leastTo], by
      intro x hx
      simp [leastTo] at hx
      subst hx
      have := (formed_len hf).1
      refine ⟨by omega, ?_⟩
      unfold fsT
      rw [show (0 : Int).toNat = 0 from rfl, firstA_zero]
      rfl⟩
  | k + 1 => by
    unfold leastTo
    cases h : (leastTo m k).2[k]? with
    | none => exact leastTo_ok hf k
    | some s =>
      have hs := ((leastTo_ok hf k).all s (List.mem_of_getElem? h)).1
      exact lactsTo_ok hf (rowIn_of hf (by omega)) (leastTo_ok hf k) _
theorem leastTo_pre : ∀ k, (leastTo m k).2 <+: (leastTo m (k + 1)).2 := by
  intro k
  rw [leastTo]
  cases h : (leastTo m k).2[k]? with
  | none => exact List.prefix_refl _
  | some s => exact lactsTo_pre _ _ _
theorem leastTo_stay {k : Nat} (h : (leastTo m k).2.length ≤ k) : ∀ d, leastTo m (k + d) = leastTo m k
  | 0 => rfl
  | d + 1 => by
    rw [← Nat.add_assoc, leastTo, leastTo_stay h d, List.getElem?_eq_none (by omega)]
theorem leastTo_len {m : Mach} : ∀ {k : Nat}, k ≤ (leastTo m k).2.length → (leastTo m k).1.length = k
  | 0, _ => rfl
  | k + 1, h => by
    unfold leastTo at h ⊢
    cases hs : (leastTo m k).2[k]? with
    | none =>
      rw [hs] at h
      have := List.getElem?_eq_none_iff.1 hs
      simp only at h
      omega
    | some s =>
      have hk := (List.getElem?_eq_some_iff.1 hs).1
      have := leastTo_len (m := m) (k := k) (by omega)
      simp [this]
theorem leastTo_step {k : Nat} {s : Int} (h : (leastTo m k).2[k]? = some s) :
    leastTo m (k + 1) = ((leastTo m k).1 ++ [(lactsTo m (rowM m s.toNat) (leastTo m k).2 (rowM m s.toNat).length).1], (lactsTo m (rowM m s.toNat) (leastTo m k).2 (rowM m s.toNat).length).2) := by
  rw [leastTo, h]
theorem leastTo_done {k : Nat} (hk : k ≤ 64) (h : (leastTo m k).2.length ≤ k) : leastTo m 64 = leastTo m k := by
  rw [show (64 : Nat) = k + (64 - k) by omega, leastTo_stay h]

/-! ### the reference's -/
def clsI (m : Mach) (hs : List Int) (x : Int) : Int := match hs.findIdx? (fun h => tv (roundsA m) h.toNat x.toNat == 0) with
  | some i => (i : Int)
  | none => -1
def rstep (m : Mach) (p : List Int × List Int) (x : Int) : List Int × List Int := if clsI m p.2 x < 0 then (p.1 ++ [(p.2.length : Int)], p.2 ++ [x]) else (p.1 ++ [clsI m p.2 x], p.2)
def rFold (m : Mach) (hs xs : List Int) : List Int × List Int := xs.foldl (rstep m) ([], hs)
def ractsTo (m : Mach) (row : List AAct) (l : List Int) : Nat → List AAct × List Int
  | 0 => ([], l)
  | k + 1 => match row[k]? with
    | none => ractsTo m row l k
    | some a => ((ractsTo m row l k).1 ++ [⟨a.rule, (rFold m (ractsTo m row l k).2 a.next).1⟩], (rFold m (ractsTo m row l k).2 a.next).2)
def rleastTo (m : Mach) : Nat → Mach × List Int
  | 0 => ([], [0])
  | k + 1 => match (rleastTo m k).2[k]? with
    | none => rleastTo m k
    | some s => ((rleastTo m k).1 ++ [(ractsTo m (rowM m s.toNat) (rleastTo m k).2 (rowM m s.toNat).length).1], (ractsTo m (rowM m s.toNat) (rleastTo m k).2 (rowM m s.toNat).length).2)

theorem clsI_eq (hf : formedA n rs m = true) {x : Int} (hx : 0 ≤ x ∧ x < (m.length : Int)) : ∀ {hs : List Int}, InM m hs → clsI m hs x = clsN (hs.map (fsT m)) (fsT m x)
  | [], _ => rfl
  | h :: hs, hin => by
    have ih := clsI_eq hf hx (hs := hs) (fun y hy => hin y (List.mem_cons_of_mem _ hy))
    have hh := hin h (List.mem_cons_self ..)
    unfold clsI clsN at ih ⊢
    rw [List.findIdx?_cons, List.map_cons]
    by_cases e : fsT m h = fsT m x
    · have e2 := (fsT_iff hf hh hx).1 e
      have e3 : (tv (roundsA m) h.toNat x.toNat == 0) = true := by rw [e2]; rfl
      rw [if_pos e3, e, if_pos (List.mem_cons_self ..), List.idxOf_cons_self]
    · have e2 : ¬ tv (roundsA m) h.toNat x.toNat = 0 := fun h2 => e ((fsT_iff hf hh hx).2 h2)
      have e3 : (tv (roundsA m) h.toNat x.toNat == 0) = false := by simpa using e2
      rw [e3]
      have hmem : fsT m x ∈ fsT m h :: hs.map (fsT m) ↔ fsT m x ∈ hs.map (fsT m) := by
        rw [List.mem_cons]
        exact ⟨fun h => h.resolve_left (fun h => e h.symm), .inr⟩
      have hix : (fsT m h :: hs.map (fsT m)).idxOf (fsT m x) = (hs.map (fsT m)).idxOf (fsT m x) + 1 := by
        rw [List.idxOf_cons]
        have : (fsT m h == fsT m x) = false := by simpa using e
        rw [this]
        rfl
      simp only [hmem, hix]
      cases hfi : hs.findIdx? (fun h => tv (roundsA m) h.toNat x.toNat == 0) with
      | none =>
        rw [hfi] at ih
        simp only at ih
        simp only [Bool.false_eq_true, if_false, Option.map_none]
        by_cases hm : fsT m x ∈ hs.map (fsT m)
        · rw [if_pos hm] at ih
          omega
        · rw [if_neg hm]
      | some i =>
        rw [hfi] at ih
        simp only at ih
        simp only [Bool.false_eq_true, if_false, Option.map_some]
        by_cases hm : fsT m x ∈ hs.map (fsT m)
        · rw [if_pos hm] at ih ⊢
          omega
        · rw [if_neg hm] at ih
          omega
theorem clsN_neg {hs : List Int} {x : Int} : clsN hs x < 0 ↔ x ∉ hs := by
  unfold clsN
  split
  · rename_i h
    exact ⟨fun h2 => by omega, fun h2 => absurd h h2⟩
  · rename_i h
    exact ⟨fun _ => h, fun _ => by omega⟩
theorem rstep_eq (hf : formedA n rs m = true) {p : List Int × List Int} {x : Int} (hx : 0 ≤ x ∧ x < (m.length : Int)) (hin : InM m p.2) :
    (rstep m p x).1 = p.1 ++ [((p.2.map (fsT m)).idxOf (fsT m x) : Int)] ∧ (rstep m p x).2.map (fsT m) = addNum (p.2.map (fsT m)) (fsT m x) ∧ InM m (rstep m p x).2 := by
  have e := clsI_eq hf hx hin
  unfold rstep addNum
  by_cases hm : fsT m x ∈ p.2.map (fsT m)
  · have hn : ¬ clsI m p.2 x < 0 := by
      rw [e, clsN_neg]
      exact fun h => h hm
    rw [if_neg hn, if_pos hm, e]
    unfold clsN
    rw [if_pos hm]
    exact ⟨rfl, rfl, hin⟩
  · have hn : clsI m p.2 x < 0 := by
      rw [e, clsN_neg]
      exact hm
    rw [if_pos hn, if_neg hm, List.idxOf_eq_length hm]
    refine ⟨by simp, by simp, fun y hy => ?_⟩
    rcases List.mem_append.1 hy with hy | hy
    · exact hin y hy
    · simp at hy
      subst hy
      exact hx
theorem rFold_eq (hf : formedA n rs m = true) {hs xs : List Int} (hx : InM m xs) (hin : InM m hs) :
    (rFold m hs xs).1 = (foldNum (hs.map (fsT m)) (xs.map (fsT m))).1 ∧ (rFold m hs xs).2.map (fsT m) = (foldNum (hs.map (fsT m)) (xs.map (fsT m))).2 ∧ InM m (rFold m hs xs).2 := by
  have gen : ∀ (xs : List Int) (p q : List Int × List Int), InM m xs → InM m p.2 → p.1 = q.1 → p.2.map (fsT m) = q.2 →
      (xs.foldl (rstep m) p).1 = ((xs.map (fsT m)).foldl (fun p x => (p.1 ++ [(p.2.idxOf x : Int)], addNum p.2 x)) q).1 ∧
      (xs.foldl (rstep m) p).2.map (fsT m) = ((xs.map (fsT m)).foldl (fun p x => (p.1 ++ [(p.2.idxOf x : Int)], addNum p.2 x)) q).2 ∧ InM m (xs.foldl (rstep m) p).2 := by
    intro xs
    induction xs with
    | nil => intro p q _ hp h1 h2; exact ⟨h1, h2, hp⟩
    | cons y ys ih =>
      intro p q hx hp h1 h2
      obtain ⟨e1, e2, e3⟩ := rstep_eq hf (p := p) (hx y (List.mem_cons_self ..)) hp
      rw [List.map_cons, List.foldl_cons, List.foldl_cons]
      refine ih _ _ (fun z hz => hx z (List.mem_cons_of_mem _ hz)) e3 ?_ ?_
      · rw [e1, h1, h2]
      · rw [e2, h2]
  exact gen xs ([], hs) ([], hs.map (fsT m)) hx hin rfl rfl

/-- Rows that say the same: equal rules, and behind these states that are alike. -/
def RowSim (m : Mach) (xs ys : List AAct) : Prop := xs.length = ys.length ∧ ∀ (c : Nat) (x y : AAct), xs[c]? = some x → ys[c]? = some y → x.rule = y.rule ∧ x.next.map (fsT m) = y.next.map (fsT m)
theorem row_sim (hf : formedA n rs m = true) {a b : Nat} (h : Sim m m a b) : RowSim m (rowM m a) (rowM m b) := by
  obtain ⟨ha, hb⟩ := h.lt
  refine ⟨by have := rowM_len hf ha; have := rowM_len hf hb; omega, fun c x y hx hy => ⟨h.rule c x y hx hy, ?_⟩⟩
  obtain ⟨y', hy', _, hl⟩ := h.at_ hf hf hx
  rw [hy] at hy'
  injection hy' with hy'
  subst hy'
  apply List.ext_getElem?
  intro j
  rw [List.getElem?_map, List.getElem?_map]
  by_cases hj : j < x.next.length
  · have hp : x.next[j]? = some x.next[j] := List.getElem?_eq_getElem hj
    have hq : y.next[j]? = some (y.next[j]'(by omega)) := List.getElem?_eq_getElem (by omega)
    have hs := h.next hx hy hp hq
    have hp2 := act_next hf ha hx (List.mem_of_getElem? hp)
    have hq2 := act_next hf hb hy (List.mem_of_getElem? hq)
    rw [hp, hq]
    have := (first_iff hf hs.lt.1 hs.lt.2).1 hs
    simp only [Option.map_some]
    unfold fsT
    rw [this]
  · rw [List.getElem?_eq_none (by omega), List.getElem?_eq_none (by omega)]
theorem ractsTo_eq (hf : formedA n rs m = true) {xs ys : List AAct} (h : RowSim m xs ys) (hx : RowIn m xs) {l : List Int} (hl : InM m l) : ∀ k,
    (ractsTo m xs l k).1 = (lactsTo m ys (l.map (fsT m)) k).1 ∧ (ractsTo m xs l k).2.map (fsT m) = (lactsTo m ys (l.map (fsT m)) k).2 ∧ InM m (ractsTo m xs l k).2
  | 0 => ⟨rfl, rfl, hl⟩
  | k + 1 => by
    obtain ⟨e1, e2, e3⟩ := ractsTo_eq hf h hx hl k
    unfold ractsTo lactsTo
    by_cases hk : k < xs.length
    · have hxk : xs[k]? = some xs[k] := List.getElem?_eq_getElem hk
      have hyk : ys[k]? = some (ys[k]'(by have := h.1; omega)) := List.getElem?_eq_getElem (by have := h.1; omega)
      obtain ⟨hr, hn⟩ := h.2 k _ _ hxk hyk
      rw [hxk, hyk]
      obtain ⟨f1, f2, f3⟩ := rFold_eq hf (hs := (ractsTo m xs l k).2) (xs := xs[k].next) (hx _ (List.mem_of_getElem? hxk)) e3
      refine ⟨?_, ?_, f3⟩
      · simp only
        rw [e1, f1, e2, hn, hr]
      · simp only
        rw [f2, e2, hn]
    · rw [List.getElem?_eq_none (by omega), List.getElem?_eq_none (by have := h.1; omega)]
      exact ⟨e1, e2, e3⟩
theorem rleastTo_eq (hf : formedA n rs m = true) : ∀ k, (rleastTo m k).1 = (leastTo m k).1 ∧ (rleastTo m k).2.map (fsT m) = (leastTo m k).2 ∧ InM m (rleastTo m k).2
  | 0 => ⟨rfl, by
      show [fsT m 0] = [0]
      unfold fsT
      rw [show (0 : Int).toNat = 0 from rfl, firstA_zero]
      rfl, by
      intro x hx
      simp [rleastTo] at hx
      subst hx
      have := (formed_len hf).1
      omega⟩
  | k + 1 => by
    obtain ⟨e1, e2, e3⟩ := rleastTo_eq hf k
    unfold rleastTo leastTo
    cases hs : (rleastTo m k).2[k]? with
    | none =>
      have : (leastTo m k).2[k]? = none := by rw [← e2, List.getElem?_map, hs]; rfl
      rw [this]
      exact ⟨e1, e2, e3⟩
    | some s =>
      have h2 : (leastTo m k).2[k]? = some (fsT m s) := by rw [← e2, List.getElem?_map, hs]; rfl
      have hsb := e3 s (List.mem_of_getElem? hs)
      rw [h2]
      have hsim : Sim m m s.toNat (fsT m s).toNat := by
        have := firstA_sim hf (s := s.toNat) (by omega)
        unfold fsT
        rw [Int.toNat_natCast]
        exact this.swap
      have hrs := row_sim hf hsim
      obtain ⟨f1, f2, f3⟩ := ractsTo_eq hf hrs (rowIn_of hf hsim.lt.1) e3 (rowM m s.toNat).length
      simp only
      rw [hrs.1] at f1 f2 f3 ⊢
      rw [e2] at f1 f2
      exact ⟨by rw [e1, f1], f2, f3⟩
theorem rcls_eq (hf : formedA n rs m = true) {x : Nat} (hx : x < m.length) : clsI m (rleastTo m 64).2 (x : Int) = clsN (leastH m) (firstA m x : Int) := by
  obtain ⟨_, e2, e3⟩ := rleastTo_eq hf 64
  rw [clsI_eq hf (by omega) e3, e2]
  unfold fsT
  rw [Int.toNat_natCast]
  rfl
end
end Go.Proofs.Ytlnonadkdonhmaa

/- How many letters tell states apart, plainly: fewer than there are states. -/
namespace Go.Proofs.Ytlnonadkdonhmaa
open Go.RowKit Go.Maps

/-- No word of at most so many letters tells two states apart. -/
def EQ (m : Mach) : Nat → Nat → Nat → Prop
  | 0, _, _ => True
  | r + 1, i, k => rulesEq (rowM m i) (rowM m k) ∧ ∀ (c : Nat) (x y : AAct) (j : Nat) (p q : Int), (rowM m i)[c]? = some x → (rowM m k)[c]? = some y → x.next[j]? = some p → y.next[j]? = some q → EQ m r p.toNat q.toNat
section
variable {n : Int} {rs : List Int} {m : Mach}
theorem EQ.refl (m : Mach) : ∀ r i, EQ m r i i
  | 0, _ => trivial
  | r + 1, i => by
    refine ⟨by rw [rulesEq_ne]; exact neRules_refl _, fun c x y j p q hx hy hp hq => ?_⟩
    rw [hx] at hy
    injection hy with hy
    subst hy
    rw [hp] at hq
    injection hq with hq
    subst hq
    exact EQ.refl m r _
theorem EQ.symm : ∀ {r i k : Nat}, EQ m r i k → EQ m r k i
  | 0, _, _, _ => trivial
  | _ + 1, _, _, h => ⟨h.1.swap, fun c x y j p q hx hy hp hq => (h.2 c y x j q p hy hx hq hp).symm⟩
theorem EQ.mono : ∀ {r i k : Nat}, EQ m (r + 1) i k → EQ m r i k
  | 0, _, _, _ => trivial
  | _ + 1, _, _, h => ⟨h.1, fun c x y j p q hx hy hp hq => (h.2 c x y j p q hx hy hp hq).mono⟩
/-- The acts of two states with equal rules lie beside one another. -/
theorem eq_at (hf : formedA n rs m = true) {a b c : Nat} (ha : a < m.length) (hb : b < m.length) (hr : rulesEq (rowM m a) (rowM m b)) {x : AAct} (hx : (rowM m a)[c]? = some x) :
    ∃ y, (rowM m b)[c]? = some y ∧ x.rule = y.rule ∧ x.next.length = y.next.length := by
  have hc := (List.getElem?_eq_some_iff.1 hx).1
  have h1 := rowM_len hf ha
  have h2 := rowM_len hf hb
  obtain ⟨y, hy⟩ : ∃ y, (rowM m b)[c]? = some y := ⟨_, List.getElem?_eq_getElem (by omega)⟩
  have he := hr c x y hx hy
  refine ⟨y, hy, he, ?_⟩
  rw [next_many (act_ok hf ha hx), next_many (act_ok hf hb hy), he]
theorem EQ.trans (hf : formedA n rs m = true) : ∀ {r i k l : Nat}, i < m.length → k < m.length → EQ m r i k → EQ m r k l → EQ m r i l
  | 0, _, _, _, _, _, _, _ => trivial
  | r + 1, i, k, l, hi, hk, h1, h2 => by
    refine ⟨fun c x z hx hz => ?_, fun c x z j p q hx hz hp hq => ?_⟩
    · obtain ⟨y, hy, hr, _⟩ := eq_at hf hi hk h1.1 hx
      exact hr.trans (h2.1 c y z hy hz)
    · obtain ⟨y, hy, _, hl⟩ := eq_at hf hi hk h1.1 hx
      have hj := (List.getElem?_eq_some_iff.1 hp).1
      obtain ⟨s, hs⟩ : ∃ s, y.next[j]? = some s := ⟨_, List.getElem?_eq_getElem (by omega)⟩
      have hpb := act_next hf hi hx (List.mem_of_getElem? hp)
      have hsb := act_next hf hk hy (List.mem_of_getElem? hs)
      exact EQ.trans hf (by omega) (by omega) (h1.2 c x y j p s hx hy hp hs) (h2.2 c y z j s q hy hz hs hq)
theorem EQ.stable (hf : formedA n rs m = true) {r : Nat} (h : ∀ i k, i < m.length → k < m.length → EQ m r i k → EQ m (r + 1) i k) : ∀ d i k, i < m.length → k < m.length → EQ m r i k → EQ m (r + d) i k
  | 0, _, _, _, _, h1 => h1
  | d + 1, i, k, hi, hk, h1 => by
    have h2 := h i k hi hk h1
    refine ⟨h2.1, fun c x y j p q hx hy hp hq => ?_⟩
    have hpb := act_next hf hi hx (List.mem_of_getElem? hp)
    have hqb := act_next hf hk hy (List.mem_of_getElem? hq)
    exact EQ.stable hf h d _ _ (by omega) (by omega) (h2.2 c x y j p q hx hy hp hq)

/-! ### the table -/
structure TabE (m : Mach) (r : Int) (t : Tbl) : Prop where
  none : ∀ i k, i < m.length → k < m.length → (tget t (bothI i k) = none ↔ EQ m (r - 1).toNat i k)
  val : ∀ (i k : Nat) (v : Int), i < m.length → k < m.length → tget t (bothI i k) = some v → 1 ≤ v ∧ EQ m (v - 1).toNat i k ∧ ¬ EQ m v.toNat i k
theorem tabE_of {r : Int} {f : Nat} {t : Tbl} (h : FarSt m (r + 1) f (nextT m r t)) (hr : 1 ≤ r) (hN : ∀ i k, i < m.length → k < m.length → (tget (nextT m r t) (bothI i k) = none ↔ EQ m r.toNat i k))
    (ho : ∀ (i k : Nat) (v : Int), i < m.length → k < m.length → tget t (bothI i k) = some v → 1 ≤ v ∧ EQ m (v - 1).toNat i k ∧ ¬ EQ m v.toNat i k) (hn : ∀ i k, i < m.length → k < m.length → tget t (bothI i k) = none → EQ m (r - 1).toNat i k) : TabE m (r + 1) (nextT m r t) := by
  refine ⟨by rw [show r + 1 - 1 = r by omega]; exact hN, fun i k v hi hk he => ?_⟩
  cases e : tget t (bothI i k) with
  | some u =>
    rw [tget_keep e] at he
    injection he with he
    subst he
    exact ho i k u hi hk e
  | none =>
    have h2 : tget (nextT m r t) (bothI i k) = some v := he
    unfold nextT at he
    rw [tget_app, e] at he
    have hv : v = r := (tget_map (n := r) (by simpa using he)).1
    subst hv
    refine ⟨hr, hn i k hi hk e, fun hE => ?_⟩
    rw [(hN i k hi hk).2 hE] at h2
    cases h2
theorem tabE_start : TabE m 2 (nextT m 1 []) := by
  refine tabE_of (r := 1) (far_start m) (by omega) (fun i k hi hk => ?_) (fun i k v _ _ h => by simp [tget] at h) (fun i k _ _ _ => trivial)
  rw [← (far_start m).inv.tv_none, tv_one hi hk]
  constructor
  · intro h
    refine ⟨?_, fun _ _ _ _ _ _ _ _ _ _ => trivial⟩
    rw [rulesEq_ne]
    cases e : neRules (rowM m i) (rowM m k) with
    | false => rfl
    | true => rw [e] at h; simp at h
  · intro h
    rw [rulesEq_ne.1 h.1]
    rfl
theorem tabE_next (hf : formedA n rs m = true) {r : Int} {f f' : Nat} {t : Tbl} (h : FarSt m r f t) (h' : FarSt m (r + 1) f' (nextT m r t)) (hL : Late m r t) (hE : TabE m r t) : TabE m (r + 1) (nextT m r t) := by
  have htwo := h.two
  refine tabE_of h' (by omega) (fun i k hi hk => ?_) hE.val (fun i k hi hk h0 => (hE.none i k hi hk).1 h0)
  have e1 : r.toNat = (r - 1).toNat + 1 := by omega
  constructor
  · intro h0
    have h0' : tv (nextT m r t) i k = 0 := (h'.inv.tv_none i k).2 h0
    have ht : tv t i k = 0 := by
      have e := tv_next h.ok h.inv h.two hi hk
      rw [h0'] at e
      by_cases ht : tv t i k = 0
      · exact ht
      · rw [if_neg ht] at e; exact absurd e.symm ht
    rw [e1]
    refine ⟨far_rulesEq h hi hk ht, fun c x y j p q hx hy hp hq => ?_⟩
    have hn := late_none h hL hi hk h0' hx hy hp hq
    have hpb := act_next hf hi hx (List.mem_of_getElem? hp)
    have hqb := act_next hf hk hy (List.mem_of_getElem? hq)
    rw [bothI_nat hpb.1 hqb.1] at hn
    exact (hE.none _ _ (by omega) (by omega)).1 hn
  · intro hq0
    rw [e1] at hq0
    have ht := (hE.none i k hi hk).2 hq0.mono
    have ht' : tv t i k = 0 := (h.inv.tv_none i k).2 ht
    rw [← h'.inv.tv_none, tv_next h.ok h.inv h.two hi hk, if_pos ht', if_neg]
    intro hh
    obtain ⟨c, x, y, j, ⟨p, q⟩, hx, hy, hz, hv⟩ := hitT_iff.1 hh
    rw [List.getElem?_zip_eq_some] at hz
    have hpb := act_next hf hi hx (List.mem_of_getElem? hz.1)
    have hqb := act_next hf hk hy (List.mem_of_getElem? hz.2)
    have hE2 := hq0.2 c x y j p q hx hy hz.1 hz.2
    simp only at hv
    rw [bothI_nat hpb.1 hqb.1, (hE.none _ _ (by omega) (by omega)).2 hE2] at hv
    cases hv
theorem tabE_end (hf : formedA n rs m = true) : ∀ (f : Nat) (r : Int) (t : Tbl), FarSt m r f t → Late m r t → TabE m r t → ∃ r', TabE m r' (roundsA m)
  | f, r, t, h, hL, hE => by
    by_cases hn : foundTo m t r m.length = []
    · have e := h.done hn
      rw [e]
      exact ⟨r, hE⟩
    · obtain ⟨f', rfl, h2⟩ := h.next (formed_len hf).2 hn
      exact tabE_end hf f' (r + 1) _ h2 (late_next h hL) (tabE_next hf h h2 hL hE)
theorem val_EQ (hf : formedA n rs m = true) {i k : Nat} {v : Int} (hi : i < m.length) (hk : k < m.length) (h : tget (roundsA m) (bothI i k) = some v) : 1 ≤ v ∧ EQ m (v - 1).toNat i k ∧ ¬ EQ m v.toNat i k := by
  obtain ⟨r, hE⟩ := tabE_end hf _ _ _ (far_start m) (late_start m) tabE_start
  exact hE.val i k v hi hk h

/-! ### fewer than there are states -/
/-- A state is the first of its class. -/
def RepE (m : Mach) (r i : Nat) : Prop := ∀ k, k < i → ¬ EQ m r k i
theorem least_of (P : Nat → Prop) : ∀ x, P x → ∃ y, y ≤ x ∧ P y ∧ ∀ z, z < y → ¬ P z
  | x, hx => by
    by_cases h : ∃ z, z < x ∧ P z
    · obtain ⟨z, hz, hp⟩ := h
      obtain ⟨y, h1, h2, h3⟩ := least_of P z hp
      exact ⟨y, by omega, h2, h3⟩
    · exact ⟨x, Nat.le_refl _, hx, fun z hz hp => h ⟨z, hz, hp⟩⟩
theorem rep_step (hf : formedA n rs m = true) {r a b : Nat} (ha : a < m.length) (hb : b < m.length) (h1 : EQ m r a b) (h2 : ¬ EQ m (r + 1) a b) : ∃ y, y < m.length ∧ ¬ RepE m r y ∧ RepE m (r + 1) y := by
  obtain ⟨e, hea, hE, hmin⟩ := least_of (fun k => EQ m r k a) a (EQ.refl m r a)
  have hel : e < m.length := by omega
  obtain ⟨x, hx, hxe, hxn⟩ : ∃ x, x < m.length ∧ EQ m r e x ∧ ¬ EQ m (r + 1) e x := by
    by_cases hh : EQ m (r + 1) e a
    · exact ⟨b, hb, EQ.trans hf hel ha hE h1, fun h3 => h2 (EQ.trans hf ha hel hh.symm h3)⟩
    · exact ⟨a, ha, hE, hh⟩
  obtain ⟨y, hyx, hY, hymin⟩ := least_of (fun k => EQ m (r + 1) k x) x (EQ.refl m (r + 1) x)
  have hyl : y < m.length := by omega
  have hey : EQ m r e y := EQ.trans hf hel hx hxe hY.mono.symm
  have hye : e < y := by
    rcases Nat.lt_trichotomy e y with h | h | h
    · exact h
    · subst h; exact absurd hY hxn
    · exact absurd (EQ.trans hf hyl hel hey.symm hE) (hmin y h)
  exact ⟨y, hyl, fun h => h e hye hey, fun k hk he => hymin k hk (EQ.trans hf (by omega) hyl he hY)⟩
theorem val_bd (hf : formedA n rs m = true) {i k : Nat} {v : Int} (hi : i < m.length) (hk : k < m.length) (h : tget (roundsA m) (bothI i k) = some v) : 1 ≤ v ∧ v < (m.length : Int) := by
  obtain ⟨h1, h2, h3⟩ := val_EQ hf hi hk h
  have key : ∀ r, r < v.toNat → ∃ a b, a < m.length ∧ b < m.length ∧ EQ m r a b ∧ ¬ EQ m (r + 1) a b := by
    intro r hr
    apply Classical.byContradiction
    intro hc
    have hst : ∀ i k, i < m.length → k < m.length → EQ m r i k → EQ m (r + 1) i k := by
      intro a b ha hb he
      apply Classical.byContradiction
      intro hn
      exact hc ⟨a, b, ha, hb, he, hn⟩
    have hmono : ∀ d, EQ m (r + d) i k → EQ m r i k := by
      intro d
      induction d with
      | zero => exact id
      | succ d ih => exact fun h => ih h.mono
    have hr0 : EQ m r i k := hmono ((v - 1).toNat - r) (by rw [show r + ((v - 1).toNat - r) = (v - 1).toNat by omega]; exact h2)
    have := EQ.stable hf hst (v.toNat - r) i k hi hk hr0
    rw [show r + (v.toNat - r) = v.toNat by omega] at this
    exact h3 this
  have grow : ∀ r, r ≤ v.toNat → ∃ l : List Nat, l.Nodup ∧ (∀ x ∈ l, x < m.length ∧ RepE m r x) ∧ l.length = r + 1 := by
    intro r
    induction r with
    | zero =>
      intro _
      refine ⟨[0], by simp, fun x hx => ?_, rfl⟩
      simp at hx
      subst hx
      exact ⟨by omega, fun k hk => by omega⟩
    | succ r ih =>
      intro hr
      obtain ⟨l, hnd, hall, hlen⟩ := ih (by omega)
      obtain ⟨a, b, ha, hb, he, hn⟩ := key r (by omega)
      obtain ⟨y, hy, hno, hyes⟩ := rep_step hf ha hb he hn
      refine ⟨y :: l, ?_, fun x hx => ?_, by simp [hlen]⟩
      · rw [List.nodup_cons]
        exact ⟨fun hm => hno (hall y hm).2, hnd⟩
      · rcases List.mem_cons.1 hx with e | hx
        · subst e; exact ⟨hy, hyes⟩
        · exact ⟨(hall x hx).1, fun k hk he => (hall x hx).2 k hk he.mono⟩
  obtain ⟨l, hnd, hall, hlen⟩ := grow v.toNat (Nat.le_refl _)
  have h5 := nodup_below m.length (l.map Int.ofNat) (nodup_map hnd (fun x _ y _ e => Int.ofNat.inj e)) (fun x hx => by
    obtain ⟨y, hy, rfl⟩ := List.mem_map.1 hx
    have := (hall y hy).1
    simp only [Int.ofNat_eq_natCast]
    omega)
  rw [List.length_map] at h5
  omega
end
end Go.Proofs.Ytlnonadkdonhmaa

/- Regions that draw their order, whose last operation waits for all others: what it does need not be kept by the others. -/
namespace Go.Proofs.Ytlnonadkdonhmaa
open Go.RowKit

section
variable {P : Program} {ops : Array Oper} {md : Region.Mode} {I : World → Prop} {t : Nat} {Q : Act → World → Prop}

/-- The operation t waits for all others. -/
def waitsAll (md : Region.Mode) (ops : Array Oper) (t : Nat) : Bool := (List.range ops.size).all fun i => i == t || ((ops[t]?).map fun o => o.after.any fun e => Region.binds md e && e.on == i).getD false

/-- All orders of what is left but the operation t, which comes last; the worlds on the way are all in I. -/
def anyL (P : Program) (md : Region.Mode) (ops : Array Oper) (I : World → Prop) (t : Nat) (Q : Act → World → Prop) : Nat → Array Bool → Act → World → Prop
  | 0, listed, a, w => I w ∧ Region.ready md ops listed = [t] ∧ Region.ready md ops (listed.setIfInBounds t true) = [] ∧ ∃ o, ops[t]? = some o ∧ opQ P ops o Q a w
  | f + 1, listed, a, w => I w ∧ Region.ready md ops listed ≠ [] ∧ ∀ i ∈ Region.ready md ops listed, ∃ o, ops[i]? = some o ∧ opQ P ops o (anyL P md ops I t Q f (listed.setIfInBounds i true)) a w

theorem anyL_in : ∀ {f : Nat} {listed : Array Bool} {a : Act} {w : World}, anyL P md ops I t Q f listed a w → I w
  | 0, _, _, _, h => h.1
  | _ + 1, _, _, _, h => h.1

theorem any_of_anyL {Q' : Exit → Act → World → Prop} (hQ : ∀ a w, Q a w → Q' .normal a w) : ∀ (f : Nat) (listed : Array Bool) (a : Act) (w : World), anyL P md ops I t Q f listed a w → wpAny P md ops Q' (f + 1) listed a w
  | 0, listed, a, w, h => by
    refine ⟨fun h0 => absurd h0 (by rw [h.2.1]; simp), fun i hi => ?_⟩
    rw [h.2.1] at hi
    obtain rfl : i = t := by simpa using hi
    obtain ⟨o, ho, hop⟩ := h.2.2.2
    have h2 : opQ P ops o (fun a w => wpAny P md ops Q' 0 (listed.setIfInBounds i true) a w) a w := opQ_mono (fun a w hq => ⟨h.2.2.1, hQ a w hq⟩) hop
    unfold wpOp
    simp only [ho]
    unfold opQ at h2
    split
    · rename_i hw; simp only [hw, if_true] at h2; exact .inl (wp_mono_q h2)
    · rename_i hw; simp only [hw] at h2; exact h2
  | f + 1, _, _, _, h => by
    refine ⟨fun h0 => absurd h0 h.2.1, fun i hi => ?_⟩
    obtain ⟨o, ho, hop⟩ := h.2.2 i hi
    have h2 := opQ_mono (fun a w h => any_of_anyL hQ f _ a w h) hop
    unfold wpOp
    simp only [ho]
    unfold opQ at h2
    split
    · rename_i hw; simp only [hw, if_true] at h2; exact .inl (wp_mono_q h2)
    · rename_i hw; simp only [hw] at h2; exact h2

theorem waits_of (h : waitsAll md ops t = true) {i : Nat} (hi : i < ops.size) (hne : i ≠ t) : ∃ o, ops[t]? = some o ∧ ∃ e ∈ o.after, Region.binds md e = true ∧ e.on = i := by
  unfold waitsAll at h
  have h1 := List.all_eq_true.1 h i (List.mem_range.2 hi)
  have h2 : (i == t) = false := by simpa using hne
  rw [h2, Bool.false_or] at h1
  cases ho : ops[t]? with
  | none => rw [ho] at h1; cases h1
  | some o =>
    rw [ho] at h1
    simp only [Option.map_some, Option.getD_some] at h1
    rw [Array.any_eq_true'] at h1
    obtain ⟨e, he, hb⟩ := h1
    simp only [Bool.and_eq_true, beq_iff_eq] at hb
    exact ⟨o, rfl, e, he, hb.1, hb.2⟩

theorem anyL_first {i : Nat} {oi : Oper} {v : Value} (hi : ops[i]? = some oi) (hsel : ∀ (j : Nat) (o : Oper) cs b, ops[j]? = some o → o.op ≠ .select cs b) (hW : waitsAll md ops t = true) :
    ∀ (f : Nat) (listed : Array Bool) (a : Act) (w : World),
      (∀ j oj, ops[j]? = some oj → j ≠ i → listed.getD j true = false → (∀ e ∈ oj.after, Region.binds md e = true → e.on ≠ i) → oi.apart ops oj = true) →
      i ∈ Region.ready md ops listed → (∀ w, I w → YieldsAt P ops w oi v a) →
      anyL P md ops I t Q f (listed.setIfInBounds i true) (a.put oi.dst v) w → anyL P md ops I t Q (f + 1) listed a w := by
  intro f
  induction f with
  | zero =>
    intro listed a w hfree hr hy H
    refine ⟨H.1, fun h => (by rw [h] at hr; cases hr), fun j hj => ?_⟩
    by_cases hji : j = i
    · subst hji; exact ⟨oi, hi, yields_opQ (hy w H.1) H⟩
    · exfalso
      have hjt := ready_mono hj hji
      rw [H.2.1] at hjt
      obtain rfl : j = t := by simpa using hjt
      have his : i < ops.size := (Array.getElem?_eq_some_iff.1 hi).1
      obtain ⟨o, ho, e, he, hb, hon⟩ := waits_of hW his (fun h => hji h.symm)
      obtain ⟨_, oj, hoj, hall⟩ := Go.mem_ready.1 hj
      obtain rfl : o = oj := Option.some.inj (ho.symm.trans hoj)
      have h1 := hall e he hb
      have h0 := (Go.mem_ready.1 hr).1
      rw [hon, getD_both h0] at h1
      cases h1
  | succ f ih =>
    intro listed a w hfree hr hy H
    refine ⟨H.1, fun h => (by rw [h] at hr; cases hr), fun j hj => ?_⟩
    by_cases hji : j = i
    · subst hji; exact ⟨oi, hi, yields_opQ (hy w H.1) H⟩
    · obtain ⟨oj', hoj', h1⟩ := H.2.2 j (ready_mono hj hji)
      obtain ⟨hjun, oj, hoj, hall⟩ := Go.mem_ready.1 hj
      obtain rfl : oj' = oj := Option.some.inj (hoj'.symm.trans hoj)
      have hnot : ∀ e ∈ oj'.after, Region.binds md e = true → e.on ≠ i := fun e he hb heq => by
        have h1 := hall e he hb
        have h0 := (Go.mem_ready.1 hr).1
        rw [heq, getD_both h0] at h1
        cases h1
      have h2 := opQ_put (I := I) (hfree j oj' hoj hji hjun hnot) (fun cs b => hsel i oi cs b hi) (fun cs b => hsel j oj' cs b hoj) hy h1
      have hfree' : ∀ k ok, ops[k]? = some ok → k ≠ i → (listed.setIfInBounds j true).getD k true = false →
          (∀ e ∈ ok.after, Region.binds md e = true → e.on ≠ i) → oi.apart ops ok = true := fun k ok hk hki hun hno => by
        refine hfree k ok hk hki ?_ hno
        by_cases hjk : j = k
        · subst hjk; exact hjun
        · rw [getD_set_ne true hjk] at hun; exact hun
      refine ⟨oj', hoj, opQ_mono (fun a' w' h3 => ih (listed.setIfInBounds j true) a' w' hfree' (ready_mono hr (Ne.symm hji)) h3.1 ?_) h2⟩
      rw [Array.setIfInBounds_comm _ _ hji]
      exact h3.2

/-- One operation that reads comes first. -/
theorem anyL_step {l : List Oper} (i : Nat) {oi : Oper} {v : Value} {f : Nat} {listed : Array Bool} {a : Act} {w : World} (hW : waitsAll md l.toArray t = true) (hi : l[i]? = some oi) (hB : stepOk md l.toArray i listed = true)
    (h1 : ∀ w', I w' → ∀ K : Value → Prop, K v → stillV P l.toArray oi a w' K)
    (h2 : ∀ K : Act → Prop, (∀ a', anyL P md l.toArray I t Q f (listed.setIfInBounds i true) a' w → K a') → K (a.put oi.dst v)) : anyL P md l.toArray I t Q (f + 1) listed a w := by
  simp only [stepOk, Bool.and_eq_true] at hB
  have hi' : l.toArray[i]? = some oi := by simpa using hi
  exact anyL_first hi' (Region.noSelect_spec hB.1.1) hW f listed a w (Region.free_spec hi' hB.2) (by simpa using hB.1.2) (fun w' hI => yields_of_stillV (h1 w' hI)) (h2 _ fun _ h => h)

/-- One operation, the only one that is ready. -/
theorem anyL_one {l : List Oper} (i : Nat) {o : Oper} {f : Nat} {listed : Array Bool} {a : Act} {w : World} (hi : l[i]? = some o) (hr : Region.ready md l.toArray listed = [i]) (hI : I w)
    (h : ∀ K : Act → World → Prop, (∀ a' w', anyL P md l.toArray I t Q f (listed.setIfInBounds i true) a' w' → K a' w') → wpList P l.toArray (fun e a' w' => e = .normal ∧ K a' w') [o] a w) : anyL P md l.toArray I t Q (f + 1) listed a w := by
  refine ⟨hI, by rw [hr]; simp, fun j hj => ?_⟩
  rw [hr] at hj
  obtain rfl : j = i := by simpa using hj
  exact ⟨o, by simpa using hi, opQ_of_list h⟩

/-- The last one. -/
theorem anyL_end {l : List Oper} {o : Oper} {listed : Array Bool} {a : Act} {w : World} (hi : l[t]? = some o) (hr : (Region.ready md l.toArray listed == [t] && (Region.ready md l.toArray (listed.setIfInBounds t true)).isEmpty) = true) (hI : I w)
    (h : ∀ K : Act → World → Prop, (∀ a' w', Q a' w' → K a' w') → wpList P l.toArray (fun e a' w' => e = .normal ∧ K a' w') [o] a w) : anyL P md l.toArray I t Q 0 listed a w := by
  simp only [Bool.and_eq_true, beq_iff_eq, List.isEmpty_iff] at hr
  exact ⟨hI, hr.1, hr.2, o, by simpa using hi, opQ_of_list h⟩

/-- A region that draws its order; its operation t waits for all others. -/
theorem drawl (I : World → Prop) (t : Nat) {id : Nat} {Q : Exit → Act → World → Prop} {a : Act} {w : World} {l : List Oper} (f : Nat) (hf : l.length = f + 1) (hm : P.follows .mixedOrders = true)
    (h : ∀ Q' : Act → World → Prop, (∀ a' w', Q .normal a' w' → Q' a' w') → anyL P .any l.toArray I t Q' f (Array.replicate (f + 1) false) a w.drew) : (Code.region id l.toArray true).wp P Q a w := by
  refine wp_region_any hm ?_
  have := h _ fun _ _ h => h
  have h2 := any_of_anyL (Q' := Q) (fun _ _ h => h) _ _ _ _ this
  rw [← hf] at h2
  simpa using h2
end
end Go.Proofs.Ytlnonadkdonhmaa
