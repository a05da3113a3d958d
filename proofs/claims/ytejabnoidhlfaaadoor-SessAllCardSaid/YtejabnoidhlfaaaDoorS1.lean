/- The plain functions of a session and of a line. -/
import Derived.WalkKit
import Derived.WalkSpells
import Derived.WalkLawsBesides
import Derived.Maps.AppendAt
import Derived.Lib.Hide
import Derived.StillTailTactics

/- General lemmas: slices that read as lists of ints, the append of one element, over any program. -/
namespace Go.Proofs.YtejabnoidhlfaaaDoor
open Go.RowKit

/-- A cell that reads. -/
def ints (xs : List Int) : List Value := xs.map (Value.int .i64)

/-- The slice with the address A reads as the cells cs (all cells of all elements). -/
def Cells (w : World) (A : Option Addr) (cs : List Value) : Prop :=
 cs.length ≤ 17592186043904 ∧ ∃ b off, b < w.heap.size + 1 ∧ (cs ≠ [] → A = some ⟨b, off, none⟩ ∧ b < w.heap.size) ∧ ∀ k v, cs[k]? = some v → w.cell? ⟨b, off + k, none⟩ = some v

theorem Cells.below {w w' : World} {A : Option Addr} {cs : List Value} {B : Nat} (h : Cells w A cs) (hb : Below B w w') (hB : w.heap.size ≤ B) : Cells w' A cs := by
 obtain ⟨hl, b, off, hb0, hA, hc⟩ := h
 refine ⟨hl, b, off, by have := hb.size; omega, fun hn => ⟨(hA hn).1, by have := (hA hn).2; have := hb.size; omega⟩, fun k v hk => ?_⟩
 have hn : cs ≠ [] := by rintro rfl; simp at hk
 exact (hb.cell (p := ⟨b, off + k, none⟩) (by have := (hA hn).2; simp; omega)).trans (hc k v hk)

theorem Cells.drew {w : World} {A : Option Addr} {cs : List Value} (h : Cells w A cs) : Cells w.drew A cs := h
theorem Cells.box0 {w : World} {A : Option Addr} {cs : List Value} (h : Cells w A cs) (o : Obj) : Cells (w.alloc o) A cs := h.below ((Below.refl _ w).alloc (Nat.le_refl _) o) (Nat.le_refl _)
theorem Cells.nil (w : World) (A : Option Addr) : Cells w A [] := ⟨by simp, 0, 0, by omega, fun h => absurd rfl h, fun k v h => by simp at h⟩

theorem Cells.of_own {w : World} {base : Nat} {e : TypeId} {size n : Nat} {A : Option Addr} {m c : Nat} {xs : List Value} (h : w.ownsRow base e size (.slice A m c) n xs) (hl : xs.length ≤ 17592186043904) :
  Cells w A xs ∧ m = n := by
 obtain ⟨hlen, ⟨hv, hn⟩ | ⟨g, cap, cur, hv, hg, hh, hnc, hcm, hcs, hcur⟩⟩ := h
 ·injection hv with h1 h2 h3
  subst h2 hn
  have : xs = [] := List.eq_nil_of_length_eq_zero (by simpa using hlen)
  subst this
  exact ⟨Cells.nil _ _, rfl⟩
 ·injection hv with h1 h2 h3
  subst h1 h2 h3
  have hlt : g < w.heap.size := by
   rcases Nat.lt_or_ge g w.heap.size with h | h
   ·exact h
   ·rw [Array.getElem?_eq_none h] at hh; cases hh
  refine ⟨⟨hl, g, 0, by omega, fun _ => ⟨rfl, hlt⟩, fun k v hk => ?_⟩, rfl⟩
  have hkl : k < xs.length := (List.getElem?_eq_some_iff.1 hk).1
  rw [← hcur] at hk
  rw [List.getElem?_take_of_lt (by omega)] at hk
  simp [World.cell?, hh]
  simpa using hk

/-- An owned row, as it is handed back. -/
theorem own_out {w : World} {base : Nat} {e : TypeId} {size n : Nat} {v : Value} {xs : List Value} (h : w.ownsRow base e size v n xs) (hl : xs.length ≤ 17592186043904) :
  ∃ A c, v = .slice A n c ∧ Cells w A xs := by
 have h' := h
 obtain ⟨_, ⟨hv, hn⟩ | ⟨g, cap, cur, hv, _⟩⟩ := h'
 ·subst hv hn
  exact ⟨none, 0, rfl, (Cells.of_own h hl).1⟩
 ·subst hv
  exact ⟨_, _, rfl, (Cells.of_own h hl).1⟩

/-- Index k of a slice of one-cell elements: the address, and what lies there. -/
theorem Cells.at_ {P : Program} {w : World} {A : Option Addr} {cs : List Value} {t e : TypeId} {n c size k : Nat} (h : Cells w A cs) (ht : P.underlying t = some (.slice e)) (hs : (P.info? e).map (·.size) = some size)
  (hlen : cs.length = n * size) (hk : k < n) (hsz : 0 < size) :
  ∃ b o, b < w.heap.size ∧ (∀ w', (Instr.indexAt t (.slice A n c) (.int .i64 (k : Int))).run P w' = .ok (.pointer (some ⟨b, o, none⟩)) w') ∧ ∀ j, j < size → ∃ v, cs[k * size + j]? = some v ∧ w.cell? ⟨b, o + j, none⟩ = some v := by
 obtain ⟨hl, b, off, _, hA, hc⟩ := h
 have hpos : 0 < cs.length := by
  rw [hlen]; exact Nat.mul_pos (by omega) hsz
 have hne : cs ≠ [] := by rintro rfl; simp at hpos
 obtain ⟨rfl, hb⟩ := hA hne
 have hkn : k * size + size ≤ n * size := by
  have : (k + 1) * size ≤ n * size := Nat.mul_le_mul_right _ (by omega)
  rw [Nat.add_mul, Nat.one_mul] at this
  exact this
 refine ⟨b, off + k * size, hb, fun w' => ?_, fun j hj => ?_⟩
 ·obtain ⟨i, hi, hie⟩ : ∃ i, P.info? e = some i ∧ i.size = size := by
   cases hx : P.info? e with
   | none => rw [hx] at hs; cases hs
   | some i => rw [hx] at hs; exact ⟨i, rfl, by simpa using hs⟩
  have hin : (0 : Int) ≤ (k : Int) ∧ (k : Int) < (n : Int) := by omega
  simp [Instr.indexAt, run_underlying ht, asIntOf, hin, sizeOf, typeInfo, hi, hie, hk]
  by_cases h0 : k * size = 0
  ·simp [Addr.add, h0]
  ·simp [Addr.add, h0]
 ·have hlt : k * size + j < cs.length := by omega
  refine ⟨cs[k * size + j], List.getElem?_eq_getElem hlt, ?_⟩
  rw [Nat.add_assoc]
  exact hc _ _ (List.getElem?_eq_getElem hlt)

/-- Index k of a slice of ints. -/
theorem ints_at {P : Program} {w : World} {A : Option Addr} {xs : List Int} {t e : TypeId} {c k : Nat} (h : Cells w A (ints xs)) (ht : P.underlying t = some (.slice e)) (hs : (P.info? e).map (·.size) = some 1) (hk : k < xs.length) :
  ∃ r b o, xs[k]? = some r ∧ b < w.heap.size ∧ (∀ w', (Instr.indexAt t (.slice A xs.length c) (.int .i64 (k : Int))).run P w' = .ok (.pointer (some ⟨b, o, none⟩)) w') ∧ w.cell? ⟨b, o, none⟩ = some (.int .i64 r) := by
 obtain ⟨b, o, hb, hix, hcell⟩ := h.at_ (c := c) (n := xs.length) ht hs (by simp [ints]) hk (by decide)
 obtain ⟨u, hu, hc⟩ := hcell 0 (by decide)
 have hr : xs[k]? = some xs[k] := List.getElem?_eq_getElem hk
 simp [ints] at hu
 rw [hr] at hu
 simp at hu
 subst hu
 exact ⟨xs[k], b, o, hr, hb, hix, by simpa using hc⟩

/-- The facts about a slice type and its element type that an append needs. -/
structure ElemRow (P : Program) (t e : TypeId) (size bytes : Nat) : Prop where
 ut : P.underlying t = some (.slice e)
 row : ∃ i z, P.info? e = some i ∧ i.zero = some z ∧ i.size = size ∧ i.bytes = bytes ∧ z.cells.size = size
 pos : 0 < size
 pos' : 0 < bytes

theorem ElemRow.mk' {P : Program} {t e : TypeId} {size bytes : Nat} {z : Value} (ht : P.underlying t = some (.slice e)) (hi : (P.info? e).map (fun i => (i.zero, i.size, i.bytes)) = some (some z, size, bytes)) (hz : z.cells.size = size) (h1 : 0 < size) (h2 : 0 < bytes) :
  ElemRow P t e size bytes := by
 obtain ⟨i, hi', h3, h4, h5⟩ := info_parts hi
 exact ⟨ht, ⟨i, z, hi', h3, h4, h5, hz⟩, h1, h2⟩

theorem ElemRow.size_eq {P : Program} {t e : TypeId} {size bytes : Nat} (R : ElemRow P t e size bytes) : (P.info? e).map (·.size) = some size := by
 obtain ⟨i, z, h, _, hs, _⟩ := R.row
 rw [h]; simp [hs]

theorem below_of_grown {base : Nat} {w w' : World} {v : Value} {e : TypeId} {size n : Nat} {xs : List Value} (h : w.ownsRow base e size v n xs) (hg : w.grownBy w' v.ownBlock) (hB : base ≤ w.heap.size) : Below base w w' :=
 (Below.refl _ _).grown hg hB fun k hk => (h.lt k hk).1

/-- append of one element, which lies in the block that was made for it last. -/
theorem wpList_app1 {P : Program} {t e : TypeId} {size bytes : Nat} (R : ElemRow P t e size bytes) (w : World) {ops : Array Oper} {rest : List Oper} {o : Oper} {a : Act} {Q : Exit → Act → World → Prop} (hgd : o.guard = none) (s x : Operand)
  (ho : o.op = .call { callee := .builtin .append, args := #[s, x], argTypes := #[t, t] })
  {base : Nat} {v : Value} {n : Nat} {xs : List Value} (hown : w.ownsRow base e size v n xs) (hs : a.eval s = v) (news : List Value) (c : Nat) (hx : a.eval x = .slice (some ⟨w.heap.size, 0, none⟩) 1 c)
  (hnl : news.length = size) (hone : ∀ u ∈ news, u.oneCell' = true) (hbytes : (n + 1) * bytes ≤ 140737488355328) (hbase : base ≤ w.heap.size)
  (h : ∀ v' w', w'.ownsRow base e size v' (n + 1) (xs ++ news) → Below base w w' → wpList P ops Q rest (a.put o.dst v') w') :
  wpList P ops Q (o :: rest) a (w.alloc (.cells news.toArray e)) := by
 obtain ⟨i, z, hi, hz, hs1, hb1, hzs⟩ := R.row
 have hm : n + 1 ≤ maxLen := by
  have h1 : (n + 1) * 1 ≤ (n + 1) * bytes := Nat.mul_le_mul_left _ R.pos'
  unfold maxLen; omega
 refine wpList_append_own_at _ hgd s x t ho base e i z size bytes R.ut hi hz hs1 hb1 hzs R.pos v n xs hs (hown.alloc _) ⟨w.heap.size, 0, none⟩ 1 c news hx (by omega) ?_ hone hm hbytes (by simp; omega) ?_
 ·intro j u hj
  have h1 : (w.alloc (.cells news.toArray e)).heap[w.heap.size]? = some (.cells news.toArray e (0, 0)) := heap_alloc_new w _
  have h2 : ((⟨w.heap.size, 0, none⟩ : Addr).add j) = ⟨w.heap.size, j, none⟩ := by
   unfold Addr.add; split <;> simp_all
  rw [h2]
  simp only [World.cell?, h1]
  simpa using hj
 ·intro v' w' ho' hg _ _
  exact h v' w' ho' (((Below.refl _ w).alloc hbase _).trans (below_of_grown (hown.alloc _) hg (by simp; omega)))

/-- A region that draws its order: n operations that only read, then a forced tail. -/
theorem stail {P : Program} {id : Nat} {Q : Exit → Act → World → Prop} {a : Act} {w : World} {l : List Oper} (n : Nat) (hm : P.follows .mixedOrders = true) (hB : Region.lexTailB .any l.toArray n = true)
  (h : ∀ K : Act → Prop, (∀ a', wpList P l.toArray Q (l.drop n) a' w.drew → K a') → wpStill P l.toArray w.drew K (l.take n) a) : (Code.region id l.toArray true).wp P Q a w :=
 wp_region_still_tail n hm hB (h _ fun _ h => h)


/-- A region that draws its order: all operations only read. -/
theorem sall {P : Program} {id : Nat} {Q : Exit → Act → World → Prop} {a : Act} {w : World} {l : List Oper} (hm : P.follows .mixedOrders = true) (hB : Region.lexB .any l.toArray = true)
  (h : ∀ K : Act → Prop, (∀ a', Q .normal a' w.drew → K a') → wpStill P l.toArray w.drew K l a) : (Code.region id l.toArray true).wp P Q a w :=
 wp_region_still_lit hm hB (h _ fun _ h => h)

theorem box_cell (w : World) (cs : Array Value) (t : TypeId) (i : Nat) {v : Value} (h : cs[i]? = some v) : (w.alloc (.cells cs t)).cell? ⟨w.heap.size, i, none⟩ = some v := by
 have h1 : (w.alloc (.cells cs t)).heap[w.heap.size]? = some (.cells cs t (0, 0)) := heap_alloc_new w _
 simp only [World.cell?, h1]
 simpa using h

/-- A cell of the box that was made first, later. -/
theorem box_at {w wr : World} {cs : Array Value} {t : TypeId} (hB : Below (w.heap.size + 1) (w.alloc (.cells cs t)) wr) (i : Nat) {v : Value} (h : cs[i]? = some v) : wr.cell? ⟨w.heap.size, i, none⟩ = some v :=
 (hB.cell (p := ⟨w.heap.size, i, none⟩) (by simp)).trans (box_cell w cs t i h)

theorem box_sz {w wr : World} {o : Obj} (hB : Below (w.heap.size + 1) (w.alloc o) wr) : w.heap.size + 1 ≤ wr.heap.size := by
 have h := hB.size
 simpa using h

theorem below_box {w wr : World} {o : Obj} (hB : Below (w.heap.size + 1) (w.alloc o) wr) : Below w.heap.size w wr :=
 ((Below.refl _ w).alloc (Nat.le_refl _) _).trans (hB.mono (by omega))

theorem Cells.box {w wr : World} {o : Obj} {A : Option Addr} {cs : List Value} (h : Cells w A cs) (hB : Below (w.heap.size + 1) (w.alloc o) wr) : Cells wr A cs :=
 h.below (below_box hB) (Nat.le_refl _)

section
variable {α : Type} {p : α → Bool} {xs : List α} {k : Nat} {x : α}
theorem all_no (h : xs[k]? = some x) (hp : p x = false) : xs.all p = false := by
 rw [List.all_eq_false]
 exact ⟨x, List.mem_of_getElem? h, by simp [hp]⟩
theorem take_succ_of (h : xs[k]? = some x) : xs.take (k + 1) = xs.take k ++ [x] := by
 rw [List.take_add_one, h]; rfl
theorem all_step (h : (xs.take k).all p = true) (hx : xs[k]? = some x) (hp : p x = true) : (xs.take (k + 1)).all p = true := by
 rw [take_succ_of hx, List.all_append, h]; simp [hp]
theorem all_done (h : (xs.take xs.length).all p = true) : xs.all p = true := by
 rwa [List.take_length] at h
end

/-! ### elements of several cells -/
section
variable {α : Type}
theorem flat_get {f : α → List Value} {size : Nat} (hf : ∀ x, (f x).length = size) : ∀ (xs : List α) (k j : Nat), j < size → (xs.flatMap f)[k * size + j]? = (xs[k]?).bind fun x => (f x)[j]?
 | [], k, j, _ => by simp
 | x :: xs, 0, j, hj => by
  rw [List.flatMap_cons, List.getElem?_append_left (by rw [hf]; omega)]
  simp
 | x :: xs, k + 1, j, hj => by
  have e : (k + 1) * size + j = (f x).length + (k * size + j) := by rw [hf, Nat.add_mul]; omega
  rw [List.flatMap_cons, e, List.getElem?_append_right (by omega), Nat.add_sub_cancel_left, flat_get hf xs k j hj]
  simp
theorem flat_len {f : α → List Value} {size : Nat} (hf : ∀ x, (f x).length = size) : ∀ xs : List α, (xs.flatMap f).length = xs.length * size
 | [] => by simp
 | x :: xs => by rw [List.flatMap_cons, List.length_append, hf, flat_len hf xs, List.length_cons, Nat.add_mul]; omega

/-- Index k of a slice of elements of several cells. -/
theorem flat_at {P : Program} {w : World} {A : Option Addr} {f : α → List Value} {xs : List α} {t e : TypeId} {c k size : Nat} (h : Cells w A (xs.flatMap f)) (hf : ∀ x, (f x).length = size) (ht : P.underlying t = some (.slice e)) (hs : (P.info? e).map (·.size) = some size)
  (hsz : 0 < size) (hk : k < xs.length) :
  ∃ x b o, xs[k]? = some x ∧ b < w.heap.size ∧ (∀ w', (Instr.indexAt t (.slice A xs.length c) (.int .i64 (k : Int))).run P w' = .ok (.pointer (some ⟨b, o, none⟩)) w') ∧ ∀ j v, (f x)[j]? = some v → w.cell? ⟨b, o + j, none⟩ = some v := by
 obtain ⟨b, o, hb, hix, hcell⟩ := h.at_ (c := c) (n := xs.length) ht hs (flat_len hf xs) hk hsz
 have hr : xs[k]? = some xs[k] := List.getElem?_eq_getElem hk
 refine ⟨xs[k], b, o, hr, hb, hix, fun j v hv => ?_⟩
 have hj : j < size := by rw [← hf xs[k]]; exact (List.getElem?_eq_some_iff.1 hv).1
 obtain ⟨u, hu, hc⟩ := hcell j hj
 rw [flat_get hf _ _ _ hj, hr] at hu
 simp only [Option.bind_some, hv] at hu
 cases hu
 exact hc
end

theorem Cells.grown {w w' : World} {A : Option Addr} {cs : List Value} {row : Option Nat} (h : Cells w A cs) (hg : w.grownBy w' row) (hne : cs ≠ [] → ∀ a, A = some a → some a.block ≠ row) : Cells w' A cs := by
 obtain ⟨hl, b, off, hb0, hA, hc⟩ := h
 refine ⟨hl, b, off, by have := hg.size; omega, fun hn => ⟨(hA hn).1, by have := (hA hn).2; have := hg.size; omega⟩, fun k v hk => ?_⟩
 have hn : cs ≠ [] := by rintro rfl; simp at hk
 exact hg.cell (hc k v hk) (by simpa using hne hn _ (hA hn).1)

/-- A new slice: it reads as cs, and lies from block base on. -/
def New (w : World) (base : Nat) (A : Option Addr) (cs : List Value) : Prop := Cells w A cs ∧ ∀ a, A = some a → base ≤ a.block
theorem New.below {w w' : World} {A : Option Addr} {cs : List Value} {B base : Nat} (h : New w base A cs) (hb : Below B w w') (hB : w.heap.size ≤ B) : New w' base A cs := ⟨h.1.below hb hB, h.2⟩
theorem New.mono {w : World} {A : Option Addr} {cs : List Value} {b b' : Nat} (h : New w b A cs) (hb : b' ≤ b) : New w b' A cs := ⟨h.1, fun a ha => Nat.le_trans hb (h.2 a ha)⟩
theorem own_new {w : World} {base : Nat} {e : TypeId} {size n : Nat} {v : Value} {xs : List Value} (h : w.ownsRow base e size v n xs) (hl : xs.length ≤ 17592186043904) :
  ∃ A c, v = .slice A n c ∧ New w base A xs := by
 obtain ⟨A, c, rfl, hc⟩ := own_out h hl
 exact ⟨A, c, rfl, hc, fun a ha => (h.lt a.block (by subst ha; rfl)).1⟩
theorem below_size {w w' : World} (h : Below w.heap.size w w') : w.heap.size ≤ w'.heap.size := h.size

/-- append of one element; what is said besides: which block has turned, where the new slice lies. -/
theorem wpList_app1' {P : Program} {t e : TypeId} {size bytes : Nat} (R : ElemRow P t e size bytes) (w : World) {ops : Array Oper} {rest : List Oper} {o : Oper} {a : Act} {Q : Exit → Act → World → Prop} (hgd : o.guard = none) (s x : Operand)
  (ho : o.op = .call { callee := .builtin .append, args := #[s, x], argTypes := #[t, t] })
  {base : Nat} {v : Value} {n : Nat} {xs : List Value} (hown : w.ownsRow base e size v n xs) (hs : a.eval s = v) (news : List Value) (c : Nat) (hx : a.eval x = .slice (some ⟨w.heap.size, 0, none⟩) 1 c)
  (hnl : news.length = size) (hone : ∀ u ∈ news, u.oneCell' = true) (hbytes : (n + 1) * bytes ≤ 140737488355328) (hbase : base ≤ w.heap.size)
  (h : ∀ v' w', w'.ownsRow base e size v' (n + 1) (xs ++ news) → Below base w w' → w.grownBy w' v.ownBlock → (∀ g, v'.ownBlock = some g → v.ownBlock = some g ∨ w.heap.size ≤ g) → wpList P ops Q rest (a.put o.dst v') w') :
  wpList P ops Q (o :: rest) a (w.alloc (.cells news.toArray e)) := by
 obtain ⟨i, z, hi, hz, hs1, hb1, hzs⟩ := R.row
 have hm : n + 1 ≤ maxLen := by
  have h1 : (n + 1) * 1 ≤ (n + 1) * bytes := Nat.mul_le_mul_left _ R.pos'
  unfold maxLen; omega
 refine wpList_append_own_at _ hgd s x t ho base e i z size bytes R.ut hi hz hs1 hb1 hzs R.pos v n xs hs (hown.alloc _) ⟨w.heap.size, 0, none⟩ 1 c news hx (by omega) ?_ hone hm hbytes (by simp; omega) ?_
 ·intro j u hj
  have h1 : (w.alloc (.cells news.toArray e)).heap[w.heap.size]? = some (.cells news.toArray e (0, 0)) := heap_alloc_new w _
  have h2 : ((⟨w.heap.size, 0, none⟩ : Addr).add j) = ⟨w.heap.size, j, none⟩ := by
   unfold Addr.add; split <;> simp_all
  rw [h2]
  simp only [World.cell?, h1]
  simpa using hj
 ·intro v' w' ho' hg _ hloc
  refine h v' w' ho' (((Below.refl _ w).alloc hbase _).trans (below_of_grown (hown.alloc _) hg (by simp; omega))) ((World.grownBy_alloc w _ _).trans hg) fun g hg' => ?_
  rcases hloc with hl | hl
  ·exact .inl (hl ▸ hg')
  ·rw [hl] at hg'
   have e : (w.alloc (.cells news.toArray e)).heap.size = g := by injection hg'
   simp at e
   exact .inr (by omega)

section
variable {P : Program} {ops : Array Oper} {w : World} {Q : Act → Prop} {a : Act} {o : Oper} {rest : List Oper}
theorem still_off (h : Region.wanted o (yielded ops a.tmps) = false) (hr : wpStill P ops w Q rest (a.put o.dst undef)) : wpStill P ops w Q (o :: rest) a := by
 unfold wpStill; rw [if_neg (by simp [h])]; exact hr
theorem still_on (h : Region.wanted o (yielded ops a.tmps) = true) (hr : ∀ K : Act → Prop, (∀ a, wpStill P ops w Q rest a → K a) → o.still P a w K) : wpStill P ops w Q (o :: rest) a := by
 unfold wpStill; rw [if_pos h]; exact hr _ fun _ h => h
end

theorem New.drew {w : World} {b : Nat} {A : Option Addr} {cs : List Value} (h : New w b A cs) : New w.drew b A cs := h
/-- A new block of cells, as a slice. -/
theorem lit_new (W : World) (cs : List Value) (t : TypeId) (hl : cs.length ≤ 17592186043904) : New (W.alloc (.cells cs.toArray t)) W.heap.size (some ⟨W.heap.size, 0, none⟩) cs := by
 refine ⟨⟨hl, W.heap.size, 0, by simp; omega, fun _ => ⟨rfl, by simp⟩, fun k v hk => ?_⟩, fun a ha => by injection ha with ha; subst ha; exact Nat.le_refl _⟩
 rw [Nat.zero_add]
 exact box_cell W cs.toArray t k (by simpa using hk)
/-- The first element of a slice that is not empty. -/
theorem ints_hd {P : Program} {w : World} {A : Option Addr} {x : Int} {xs : List Int} {t e : TypeId} {n c : Nat} (h : Cells w A (ints (x :: xs))) (hn : n = xs.length + 1) (ht : P.underlying t = some (.slice e)) (hs : (P.info? e).map (·.size) = some 1) :
  ∃ b o, b < w.heap.size ∧ (∀ w', (Instr.indexAt t (.slice A n c) (.int .i64 0)).run P w' = .ok (.pointer (some ⟨b, o, none⟩)) w') ∧ w.cell? ⟨b, o, none⟩ = some (.int .i64 x) := by
 obtain ⟨r, b, o, hr, hb, hix, hc⟩ := ints_at (c := c) (k := 0) h ht hs (by simp)
 simp at hr
 subst hr hn
 exact ⟨b, o, hb, by simpa using hix, hc⟩
theorem below_drew {B : Nat} {a w : World} (h : Below B a w) : Below B a w.drew := h.drew

theorem cell_chain {W wr : World} {B : Nat} (hB : Below B W wr) {b i : Nat} (h : b < B) {v : Value} (hc : W.cell? ⟨b, i, none⟩ = some v) : wr.cell? ⟨b, i, none⟩ = some v := (hB.cell (p := ⟨b, i, none⟩) h).trans hc

/-! ### all elements, with their places -/
section
variable {α : Type}
def allTo (p : Nat → α → Bool) (xs : List α) (k : Nat) : Bool := (List.range k).all fun i => (xs[i]?).all (p i)
theorem allTo_step {p : Nat → α → Bool} {xs : List α} {k : Nat} {x : α} (h : allTo p xs k = true) (hx : xs[k]? = some x) (hp : p k x = true) : allTo p xs (k + 1) = true := by
 unfold allTo at h ⊢
 rw [List.range_succ, List.all_append, h]
 simp [hx, hp]
theorem allTo_no {p : Nat → α → Bool} {xs : List α} {k n : Nat} {x : α} (hx : xs[k]? = some x) (hp : p k x = false) (hk : k < n) : allTo p xs n = false := by
 unfold allTo
 rw [List.all_eq_false]
 exact ⟨k, List.mem_range.2 hk, by simp [hx, hp]⟩
theorem allTo_at {p : Nat → α → Bool} {xs : List α} {k n : Nat} {x : α} (h : allTo p xs n = true) (hx : xs[k]? = some x) (hk : k < n) : p k x = true := by
 cases hp : p k x
 ·rw [allTo_no hx hp hk] at h; cases h
 ·rfl
end

end Go.Proofs.YtejabnoidhlfaaaDoor

/- Sessions in plain words: ends, packets, and what each step gives (chapter 11). -/
namespace Go.Proofs.YtejabnoidhlfaaaDoor

structure Ou where
 t : ByteArray
 h : Bool
structure Im where
 n : Int
 t : ByteArray
structure En where
 life : Int
 peer : Int
 phase : Int
 base : Int
 out : List Ou
 want : Int
 inn : List Im
structure Pk where
 kind : Int
 frm : Int
 to : Int
 num : Int
 t : ByteArray
 ack : Int
 held : Int
structure Gn where
 packets : List Pk
 taken : List ByteArray
 lost : List ByteArray
deriving instance DecidableEq for Ou
deriving instance DecidableEq for Im
deriving instance DecidableEq for En
deriving instance DecidableEq for Pk
deriving instance DecidableEq for Gn

def most : Int := 1000000000
def emptyT : ByteArray := ByteArray.empty
def noEn : En := ⟨0, 0, 0, 0, [], 0, []⟩
def noGn : Gn := ⟨[], [], []⟩

/-- How many sent messages an end has. -/
def flyN (e : En) : Nat := if e.phase = 3 then min e.out.length 4 else 0

/-! ### ends that are as defined -/
def outOk (fly : Nat) : Nat → List Ou → Bool
 | _, [] => true
 | i, x :: l => decide (x.t.size ≤ 20) && (!x.h || (decide (1 ≤ i) && decide (i < fly))) && outOk fly (i + 1) l
def inOk (want : Int) : Int → List Im → Bool
 | _, [] => true
 | last, x :: l => decide (last < x.n) && decide (x.n < want + 4) && decide (x.n < most) && decide (x.t.size ≤ 20) && inOk want x.n l
def goodB (e : En) : Bool :=
 decide (1 ≤ e.life) && decide (e.life ≤ most) && decide (0 ≤ e.peer) && decide (e.peer ≤ most) && decide (0 ≤ e.base) && decide (0 ≤ e.want) && decide (e.want ≤ most) &&
  decide (e.out.length ≤ 12) && decide (e.base ≤ most - e.out.length) && outOk (flyN e) 0 e.out &&
  (if e.phase = 3 then decide (0 < e.peer) && inOk e.want e.want e.inn
   else decide (e.base = 0) && decide (e.want = 0) && decide (e.inn = []) && ((decide (e.phase = 1) && decide (e.peer = 0)) || (decide (e.phase = 2) && decide (0 < e.peer))))
/-! ### packets that are as defined -/
def properB (p : Pk) : Bool :=
 decide (1 ≤ p.frm) && decide (p.frm ≤ most) && decide (0 ≤ p.to) && decide (p.to ≤ most) &&
  (if p.kind = 1 then decide (p.num = 0) && decide (p.t = emptyT) && decide (p.ack = 0) && decide (p.held = 0)
   else if p.kind = 2 then decide (0 < p.to) && decide (0 ≤ p.num) && decide (p.num < most) && decide (p.t.size ≤ 20) && decide (0 ≤ p.ack) && decide (p.ack ≤ most) && decide (0 ≤ p.held) && decide (p.held ≤ 7)
   else if p.kind = 3 then decide (0 < p.to) && decide (p.num = 0) && decide (p.t = emptyT) && decide (0 ≤ p.ack) && decide (p.ack ≤ most) && decide (0 ≤ p.held) && decide (p.held ≤ 7)
   else false)
/-! ### what an end sends -/
def hasN (l : List Im) (k : Int) : Bool := l.any fun x => x.n == k
def bitsA (e : En) : Int := (if hasN e.inn (e.want + 1) then 1 else 0) + (if hasN e.inn (e.want + 2) then 2 else 0) + (if hasN e.inn (e.want + 3) then 4 else 0)
def helloA (e : En) : Pk := ⟨1, e.life, e.peer, 0, emptyT, 0, 0⟩
def reportA (e : En) : Pk := ⟨3, e.life, e.peer, 0, emptyT, e.want, bitsA e⟩
def dataA (e : En) (i : Nat) : Pk := ⟨2, e.life, e.peer, e.base + i, (e.out.getD i ⟨emptyT, false⟩).t, e.want, bitsA e⟩
/-- The packets of the sent messages from an index on. -/
def fromA (e : En) (i : Nat) : List Pk := ((List.range (flyN e)).drop i).map (dataA e)
def startA (life : Int) : En × Int := if 1 ≤ life ∧ life ≤ most then (⟨life, 0, 1, 0, [], 0, []⟩, 0) else (noEn, 2)
def againA (e : En) : En × Int := if goodB e = false then (noEn, 2) else if e.life = most then (noEn, 3) else startA (e.life + 1)
def sendA (e : En) (t : ByteArray) : En × List Pk × Int :=
 if goodB e = false then (noEn, [], 2) else
  if 20 < t.size ∨ e.out.length = 12 ∨ e.base + e.out.length = most then (noEn, [], 3) else
   let e' := { e with out := e.out ++ [⟨t, false⟩] }
   (e', fromA e' (flyN e), 0)
def freeIx : Nat → List Ou → List Nat
 | _, [] => []
 | i, x :: l => if x.h then freeIx (i + 1) l else i :: freeIx (i + 1) l
def tickA (e : En) : List Pk × Int :=
 if goodB e = false then ([], 2) else
  if e.phase ≠ 3 then ([helloA e], 0) else ((freeIx 0 (e.out.take (flyN e))).map (dataA e) ++ [reportA e], 0)
/-! ### what an end does with a packet -/
def overA (e : En) (life : Int) : En × List ByteArray :=
 (⟨e.life, life, 2, 0, (e.out.drop (flyN e)).map (fun x => ⟨x.t, false⟩), 0, []⟩, (e.out.take (flyN e)).map (·.t))
/-- The messages 1, 2, 3 of Out are held, as bits say. -/
def markA (held : Int) (n : Nat) : Nat → List Ou → List Ou
 | _, [] => []
 | i, x :: l => ⟨x.t, if i = 0 then false else x.h || (decide (i < n) && decide (i ≤ 3) && decide (held / 2 ^ (i - 1) % 2 = 1))⟩ :: markA held n (i + 1) l
/-- How many leave. -/
def goneA (e : En) (p : Pk) (n : Nat) : Nat := if p.ack < e.base ∨ e.base + n < p.ack then 0 else (p.ack - e.base).toNat
def ackedA (e : En) (p : Pk) (n : Nat) : En :=
 if p.ack < e.base ∨ e.base + n < p.ack then e else
  let gone := (p.ack - e.base).toNat
  { e with out := markA p.held (n - gone) 0 (e.out.drop gone), base := p.ack }
def putA (x : Im) : List Im → List Im
 | [] => [x]
 | y :: l => if x.n < y.n then x :: y :: l else y :: putA x l
def takeIn : Nat → Int → List Im → Int × List Im × List ByteArray
 | f + 1, want, x :: l => if x.n = want then
   let r := takeIn f (want + 1) l
   (r.1, r.2.1, x.t :: r.2.2) else (want, x :: l, [])
 | _, want, l => (want, l, [])
def cameA (e : En) (p : Pk) : En × List ByteArray :=
 if p.num < e.want ∨ e.want + 4 ≤ p.num ∨ hasN e.inn p.num = true then (e, []) else
  let r := takeIn (e.inn.length + 1) e.want (putA ⟨p.num, p.t⟩ e.inn)
  ({ e with want := r.1, inn := r.2.1 }, r.2.2)
def takeA (e0 : En) (p : Pk) : En × Gn × Int :=
 if (goodB e0 && properB p) = false then (noEn, noGn, 2) else
  if p.frm < e0.peer then (e0, noGn, 0) else
   let o := if e0.peer < p.frm then overA e0 p.frm else (e0, [])
   let e1 := o.1
   let n := flyN e1
   let sent := e1.base + n
   let mine := p.to == e1.life
   let opened := mine && e1.phase == 2 && p.kind == 1
   let e2 := if mine && e1.phase == 2 then { e1 with phase := 3 } else e1
   let e3 := if mine && p.kind != 1 then ackedA e2 p n else e2
   let c := if mine && p.kind == 2 then cameA e3 p else (e3, [])
   let e4 := c.1
   let pk := (if mine then [] else [helloA e4]) ++ fromA e4 (sent - e4.base).toNat ++ (if opened || (mine && p.kind == 2) then [reportA e4] else [])
   (e4, ⟨pk, c.2, o.2⟩, 0)
end Go.Proofs.YtejabnoidhlfaaaDoor

/- Lines in plain words: what the program's line does. -/
namespace Go.Proofs.YtejabnoidhlfaaaDoor

structure Dd where
 do_ : Int
 end_ : Int
 at_ : Int
 t : ByteArray
deriving DecidableEq
structure Tp where
 to : Int
 p : Pk
deriving DecidableEq
structure Ta where
 end_ : Int
 life : Int
 peer : Int
 sent : List ByteArray
 lost : List ByteArray
 taken : List ByteArray
deriving DecidableEq
/-- A line that is being changed. -/
structure Lp where
 e0 : En
 e1 : En
 wire : List Tp
 tales : List Ta
 n0 : Int
 n1 : Int
 free : Bool
deriving DecidableEq
/-- A line as it is returned. -/
structure Ln where
 ends : List En
 wire : List Tp
 tales : List Ta
deriving DecidableEq

def Lp.end_ (l : Lp) (i : Int) : En := if i = 0 then l.e0 else l.e1
def Lp.now (l : Lp) (i : Int) : Int := if i = 0 then l.n0 else l.n1
def Lp.setEnd (l : Lp) (i : Int) (e : En) : Lp := if i = 0 then { l with e0 := e } else { l with e1 := e }
def Lp.setNow (l : Lp) (i : Int) (n : Int) : Lp := if i = 0 then { l with n0 := n } else { l with n1 := n }
def setAt {α : Type} (f : α → α) : Nat → List α → List α
 | _, [] => []
 | 0, x :: l => f x :: l
 | n + 1, x :: l => x :: setAt f n l
def startE : En := ⟨1, 0, 1, 0, [], 0, []⟩
def firstA : Lp := ⟨startE, startE, [], [], -1, -1, false⟩
def showA (l : Lp) : Ln := ⟨[l.e0, l.e1], l.wire, l.tales⟩
/-- Packets of an end come under way. -/
def wayA (l : Lp) (frm : Int) : List Pk → Lp
 | [] => l
 | p :: ps => wayA (if l.free = true ∨ l.wire.length < 60 then { l with wire := l.wire ++ [⟨1 - frm, p⟩] } else l) frm ps
/-- What is sent now is told. -/
def sentA (e : En) (t : Ta) : Ta := { t with sent := t.sent ++ ((e.out.take (flyN e)).drop (t.sent.length - e.base.toNat)).map (·.t) }
def becomesA (l : Lp) (i : Int) (e : En) : Lp :=
 let was := l.end_ i
 let l1 := l.setEnd i e
 if e.phase ≠ 3 then l1.setNow i (-1) else
  let l2 := if was.phase ≠ 3 ∨ was.peer ≠ e.peer ∨ was.life ≠ e.life then { l1.setNow i l1.tales.length with tales := l1.tales ++ [⟨i, e.life, e.peer, [], [], []⟩] } else l1
  { l2 with tales := setAt (sentA e) (l2.now i).toNat l2.tales }
def tellA (l : Lp) (i : Int) (e : En) (g : Gn) : Lp :=
 let l1 := becomesA l i e
 let l2 := if 0 ≤ l1.now i then { l1 with tales := setAt (fun t => { t with taken := t.taken ++ g.taken }) (l1.now i).toNat l1.tales } else l1
 wayA l2 i g.packets
def carryA (l : Lp) (k : Nat) : Lp :=
 match l.wire[k]? with
 | none => l
 | some x =>
  let l1 := { l with wire := l.wire.eraseIdx k }
  let r := takeA (l1.end_ x.to) x.p
  let l2 := if 0 ≤ l1.now x.to then { l1 with tales := setAt (fun t => { t with lost := t.lost ++ r.2.1.lost }) (l1.now x.to).toNat l1.tales } else l1
  tellA l2 x.to r.1 r.2.1
def deedB (d : Dd) : Bool :=
 if d.do_ = 1 then decide (d.end_ = 0 ∨ d.end_ = 1) && decide (d.at_ = 0) && decide (d.t.size ≤ 20)
 else if d.do_ = 2 ∨ d.do_ = 3 then decide (d.end_ = 0 ∨ d.end_ = 1) && decide (d.at_ = 0) && decide (d.t = emptyT)
 else if d.do_ = 4 ∨ d.do_ = 5 ∨ d.do_ = 6 then decide (d.end_ = 0) && decide (0 ≤ d.at_) && decide (d.t = emptyT)
 else false
def doesA (l : Lp) (d : Dd) : Lp :=
 let k := (d.at_ % (l.wire.length : Int)).toNat
 if d.do_ = 1 then
  let r := sendA (l.end_ d.end_) d.t
  if r.2.2 = 0 then wayA (becomesA l d.end_ r.1) d.end_ r.2.1 else l
 else if d.do_ = 2 then wayA l d.end_ (tickA (l.end_ d.end_)).1
 else if d.do_ = 3 then
  let r := againA (l.end_ d.end_)
  if r.2 = 0 then becomesA l d.end_ r.1 else l
 else if l.wire.length = 0 then l
 else if d.do_ = 4 then carryA l k
 else if d.do_ = 5 then { l with wire := l.wire.eraseIdx k }
 else match l.wire[k]? with
  | none => l
  | some x => wayA l (1 - x.to) [x.p]
def playedA (l : List Dd) : Lp × Int :=
 if 200 < l.length then (firstA, 3) else if l.all deedB = false then (firstA, 2) else (l.foldl doesA firstA, 0)
def noLn : Ln := ⟨[], [], []⟩
def playA (l : List Dd) : Ln × Int := if (playedA l).2 = 0 then (showA (playedA l).1, 0) else (noLn, (playedA l).2)
/-- Which packet of a wire is carried next. -/
def nextK (order : List Int) (n len : Nat) : Nat :=
 match order[n % order.length]? with
 | none => 0
 | some o => ((o % 18446744073709551616) % (len : Int)).toNat
/-- The quiet round, of at most so many steps; none: it was not at an end. -/
def quietN (order : List Int) : Nat → Nat → Lp → Option (Lp × Nat)
 | f, n, l => if l.wire.length = 0 then some (l, n) else
  match f with
  | 0 => none
  | f + 1 => quietN order f (n + 1) (carryA l (nextK order n l.wire.length))
def quiet0 (l : Lp) : Lp :=
 let l0 := { l with free := true }
 let l1 := wayA l0 0 (tickA l0.e0).1
 wayA l1 1 (tickA l1.e1).1
end Go.Proofs.YtejabnoidhlfaaaDoor
