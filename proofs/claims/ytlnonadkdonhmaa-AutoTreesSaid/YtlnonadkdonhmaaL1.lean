/- Contracts and lemmas that a claim of this seat uses. -/
import Derived.WalkKit
import Derived.WalkSpells
import Derived.WalkLawsBesides
import Derived.Maps.AppendAt
import Derived.Lib.Hide
import Derived.StillTailTactics
import Derived.Test.YtlnonadkdonhmaaProg
import Derived.Maps.OwnSet
import Derived.RangeFuncBox

/- Plain lists of indexes, sums. -/
namespace Go.Proofs.Ytlnonadkdonhmaa

/-- The indexes below k that p picks. -/
def pickTo (p : Nat → Bool) (k : Nat) : List Int := ((List.range k).filter p).map Int.ofNat
theorem pickTo_zero (p : Nat → Bool) : pickTo p 0 = [] := rfl
theorem pickTo_hit {p : Nat → Bool} {k : Nat} (h : p k = true) : pickTo p (k + 1) = pickTo p k ++ [(k : Int)] := by simp [pickTo, List.range_succ, List.filter_append, h]
theorem pickTo_miss {p : Nat → Bool} {k : Nat} (h : p k = false) : pickTo p (k + 1) = pickTo p k := by simp [pickTo, List.range_succ, List.filter_append, h]
theorem pickTo_len (p : Nat → Bool) (k : Nat) : (pickTo p k).length ≤ k := by
  have := List.length_filter_le p (List.range k)
  simpa [pickTo] using this
theorem pickTo_mem {p : Nat → Bool} {k : Nat} {x : Int} (h : x ∈ pickTo p k) : ∃ i : Nat, x = i ∧ i < k ∧ p i = true := by
  simp only [pickTo, List.mem_map, List.mem_filter, List.mem_range] at h
  obtain ⟨i, ⟨h1, h2⟩, rfl⟩ := h
  exact ⟨i, rfl, h1, h2⟩

theorem pickTo_prefix (p : Nat → Bool) {k m : Nat} (h : k ≤ m) : pickTo p k <+: pickTo p m := by
  obtain ⟨d, rfl⟩ := Nat.exists_eq_add_of_le h
  induction d with
  | zero => exact List.prefix_refl _
  | succ d ih =>
    refine (ih (by omega)).trans ?_
    cases hp : p (k + d)
    · rw [← Nat.add_assoc, pickTo_miss hp]; exact List.prefix_refl _
    · rw [← Nat.add_assoc, pickTo_hit hp]; exact List.prefix_append _ _

/-- f 0 + .. + f (k - 1). -/
def sumTo (f : Nat → Int) : Nat → Int
  | 0 => 0
  | k + 1 => sumTo f k + f k
theorem sumTo_succ (f : Nat → Int) (k : Nat) : sumTo f (k + 1) = sumTo f k + f k := rfl
theorem sumTo_bd {f : Nat → Int} {M : Int} : ∀ (k : Nat), (∀ i, i < k → 0 ≤ f i ∧ f i ≤ M) → 0 ≤ sumTo f k ∧ sumTo f k ≤ M * k
  | 0, _ => by simp [sumTo]
  | k + 1, h => by
    have ih := sumTo_bd k fun i hi => h i (by omega)
    have hk := h k (by omega)
    have e : M * ((k + 1 : Nat) : Int) = M * k + M := by rw [Int.natCast_add, Int.mul_add]; simp
    simp only [sumTo]
    omega

theorem p2_bd (n : Nat) {m : Nat} (h : n ≤ m) : 0 ≤ (2 : Int) ^ n ∧ (2 : Int) ^ n ≤ ((2 ^ m : Nat) : Int) := by
  have h' : (2 : Int) ^ n = ((2 ^ n : Nat) : Int) := by simp
  have h2 : (2 : Nat) ^ n ≤ 2 ^ m := Nat.pow_le_pow_right (by decide) h
  rw [h']
  generalize (2 : Nat) ^ n = x at h2
  generalize (2 : Nat) ^ m = y at h2
  omega
end Go.Proofs.Ytlnonadkdonhmaa

/- General lemmas: slices that read as lists of ints, the append of one element, over any program. -/
namespace Go.Proofs.Ytlnonadkdonhmaa
open Go.RowKit

/-- A cell that reads. -/
def ints (xs : List Int) : List Value := xs.map (Value.int .i64)

/-- The slice with the address A reads as the cells cs (all cells of all elements). -/
def Cells (w : World) (A : Option Addr) (cs : List Value) : Prop :=
  cs.length ≤ 17592186043904 ∧ ∃ b off, b < w.heap.size + 1 ∧ (cs ≠ [] → A = some ⟨b, off, none⟩ ∧ b < w.heap.size) ∧ ∀ k v, cs[k]? = some v → w.cell? ⟨b, off + k, none⟩ = some v

theorem Cells.below {w w' : World} {A : Option Addr} {cs : List Value} {B : Nat} (h : Cells w A cs) (hb : Below B w w') (hB : w.heap.size ≤ B) : Cells w' A cs := by
  obtain ⟨hl, b, off, hb0, hA, hc⟩ := h
  refine ⟨hl, b, off, by have := hb.size; omega, fun hn => ⟨(hA hn).1, by have := (hA hn).2; have := hb.size; omega⟩, fun k v hk => ?_⟩
  have hn : cs ≠ [] := by rintro rfl; simp at hk
  exact (hb.cell (p := ⟨b, off + k, none⟩) (by have := (hA hn).2; simp; omega)).trans (hc k v hk)

theorem Cells.drew {w : World} {A : Option Addr} {cs : List Value} (h : Cells w A cs) : Cells w.drew A cs := h
theorem Cells.box0 {w : World} {A : Option Addr} {cs : List Value} (h : Cells w A cs) (o : Obj) : Cells (w.alloc o) A cs := h.below ((Below.refl _ w).alloc (Nat.le_refl _) o) (Nat.le_refl _)
theorem Cells.nil (w : World) (A : Option Addr) : Cells w A [] := ⟨by simp, 0, 0, by omega, fun h => absurd rfl h, fun k v h => by simp at h⟩

theorem Cells.of_own {w : World} {base : Nat} {e : TypeId} {size n : Nat} {A : Option Addr} {m c : Nat} {xs : List Value} (h : w.ownsRow base e size (.slice A m c) n xs) (hl : xs.length ≤ 17592186043904) :
    Cells w A xs ∧ m = n := by
  obtain ⟨hlen, ⟨hv, hn⟩ | ⟨g, cap, cur, hv, hg, hh, hnc, hcm, hcs, hcur⟩⟩ := h
  · injection hv with h1 h2 h3
    subst h2 hn
    have : xs = [] := List.eq_nil_of_length_eq_zero (by simpa using hlen)
    subst this
    exact ⟨Cells.nil _ _, rfl⟩
  · injection hv with h1 h2 h3
    subst h1 h2 h3
    have hlt : g < w.heap.size := by
      rcases Nat.lt_or_ge g w.heap.size with h | h
      · exact h
      · rw [Array.getElem?_eq_none h] at hh; cases hh
    refine ⟨⟨hl, g, 0, by omega, fun _ => ⟨rfl, hlt⟩, fun k v hk => ?_⟩, rfl⟩
    have hkl : k < xs.length := (List.getElem?_eq_some_iff.1 hk).1
    rw [← hcur] at hk
    rw [List.getElem?_take_of_lt (by omega)] at hk
    simp [World.cell?, hh]
    simpa using hk

/-- An owned row, as it is handed back. -/
theorem own_out {w : World} {base : Nat} {e : TypeId} {size n : Nat} {v : Value} {xs : List Value} (h : w.ownsRow base e size v n xs) (hl : xs.length ≤ 17592186043904) :
    ∃ A c, v = .slice A n c ∧ Cells w A xs := by
  have h' := h
  obtain ⟨_, ⟨hv, hn⟩ | ⟨g, cap, cur, hv, _⟩⟩ := h'
  · subst hv hn
    exact ⟨none, 0, rfl, (Cells.of_own h hl).1⟩
  · subst hv
    exact ⟨_, _, rfl, (Cells.of_own h hl).1⟩

/-- Index k of a slice of one-cell elements: the address, and what lies there. -/
theorem Cells.at_ {P : Program} {w : World} {A : Option Addr} {cs : List Value} {t e : TypeId} {n c size k : Nat} (h : Cells w A cs) (ht : P.underlying t = some (.slice e)) (hs : (P.info? e).map (·.size) = some size)
    (hlen : cs.length = n * size) (hk : k < n) (hsz : 0 < size) :
    ∃ b o, b < w.heap.size ∧ (∀ w', (Instr.indexAt t (.slice A n c) (.int .i64 (k : Int))).run P w' = .ok (.pointer (some ⟨b, o, none⟩)) w') ∧ ∀ j, j < size → ∃ v, cs[k * size + j]? = some v ∧ w.cell? ⟨b, o + j, none⟩ = some v := by
  obtain ⟨hl, b, off, _, hA, hc⟩ := h
  have hpos : 0 < cs.length := by
    rw [hlen]; exact Nat.mul_pos (by omega) hsz
  have hne : cs ≠ [] := by rintro rfl; simp at hpos
  obtain ⟨rfl, hb⟩ := hA hne
  have hkn : k * size + size ≤ n * size := by
    have : (k + 1) * size ≤ n * size := Nat.mul_le_mul_right _ (by omega)
    rw [Nat.add_mul, Nat.one_mul] at this
    exact this
  refine ⟨b, off + k * size, hb, fun w' => ?_, fun j hj => ?_⟩
  · obtain ⟨i, hi, hie⟩ : ∃ i, P.info? e = some i ∧ i.size = size := by
      cases hx : P.info? e with
      | none => rw [hx] at hs; cases hs
      | some i => rw [hx] at hs; exact ⟨i, rfl, by simpa using hs⟩
    have hin : (0 : Int) ≤ (k : Int) ∧ (k : Int) < (n : Int) := by omega
    simp [Instr.indexAt, run_underlying ht, asIntOf, hin, sizeOf, typeInfo, hi, hie, hk]
    by_cases h0 : k * size = 0
    · simp [Addr.add, h0]
    · simp [Addr.add, h0]
  · have hlt : k * size + j < cs.length := by omega
    refine ⟨cs[k * size + j], List.getElem?_eq_getElem hlt, ?_⟩
    rw [Nat.add_assoc]
    exact hc _ _ (List.getElem?_eq_getElem hlt)

/-- Index k of a slice of ints. -/
theorem ints_at {P : Program} {w : World} {A : Option Addr} {xs : List Int} {t e : TypeId} {c k : Nat} (h : Cells w A (ints xs)) (ht : P.underlying t = some (.slice e)) (hs : (P.info? e).map (·.size) = some 1) (hk : k < xs.length) :
    ∃ r b o, xs[k]? = some r ∧ b < w.heap.size ∧ (∀ w', (Instr.indexAt t (.slice A xs.length c) (.int .i64 (k : Int))).run P w' = .ok (.pointer (some ⟨b, o, none⟩)) w') ∧ w.cell? ⟨b, o, none⟩ = some (.int .i64 r) := by
  obtain ⟨b, o, hb, hix, hcell⟩ := h.at_ (c := c) (n := xs.length) ht hs (by simp [ints]) hk (by decide)
  obtain ⟨u, hu, hc⟩ := hcell 0 (by decide)
  have hr : xs[k]? = some xs[k] := List.getElem?_eq_getElem hk
  simp [ints] at hu
  rw [hr] at hu
  simp at hu
  subst hu
  exact ⟨xs[k], b, o, hr, hb, hix, by simpa using hc⟩

/-- The facts about a slice type and its element type that an append needs. -/
structure ElemRow (P : Program) (t e : TypeId) (size bytes : Nat) : Prop where
  ut : P.underlying t = some (.slice e)
  row : ∃ i z, P.info? e = some i ∧ i.zero = some z ∧ i.size = size ∧ i.bytes = bytes ∧ z.cells.size = size
  pos : 0 < size
  pos' : 0 < bytes

theorem ElemRow.mk' {P : Program} {t e : TypeId} {size bytes : Nat} {z : Value} (ht : P.underlying t = some (.slice e)) (hi : (P.info? e).map (fun i => (i.zero, i.size, i.bytes)) = some (some z, size, bytes)) (hz : z.cells.size = size) (h1 : 0 < size) (h2 : 0 < bytes) :
    ElemRow P t e size bytes := by
  obtain ⟨i, hi', h3, h4, h5⟩ := info_parts hi
  exact ⟨ht, ⟨i, z, hi', h3, h4, h5, hz⟩, h1, h2⟩

theorem ElemRow.size_eq {P : Program} {t e : TypeId} {size bytes : Nat} (R : ElemRow P t e size bytes) : (P.info? e).map (·.size) = some size := by
  obtain ⟨i, z, h, _, hs, _⟩ := R.row
  rw [h]; simp [hs]

theorem below_of_grown {base : Nat} {w w' : World} {v : Value} {e : TypeId} {size n : Nat} {xs : List Value} (h : w.ownsRow base e size v n xs) (hg : w.grownBy w' v.ownBlock) (hB : base ≤ w.heap.size) : Below base w w' :=
  (Below.refl _ _).grown hg hB fun k hk => (h.lt k hk).1

/-- append of one element, which lies in the block that was made for it last. -/
theorem wpList_app1 {P : Program} {t e : TypeId} {size bytes : Nat} (R : ElemRow P t e size bytes) (w : World) {ops : Array Oper} {rest : List Oper} {o : Oper} {a : Act} {Q : Exit → Act → World → Prop} (hgd : o.guard = none) (s x : Operand)
    (ho : o.op = .call { callee := .builtin .append, args := #[s, x], argTypes := #[t, t] })
    {base : Nat} {v : Value} {n : Nat} {xs : List Value} (hown : w.ownsRow base e size v n xs) (hs : a.eval s = v) (news : List Value) (c : Nat) (hx : a.eval x = .slice (some ⟨w.heap.size, 0, none⟩) 1 c)
    (hnl : news.length = size) (hone : ∀ u ∈ news, u.oneCell' = true) (hbytes : (n + 1) * bytes ≤ 140737488355328) (hbase : base ≤ w.heap.size)
    (h : ∀ v' w', w'.ownsRow base e size v' (n + 1) (xs ++ news) → Below base w w' → wpList P ops Q rest (a.put o.dst v') w') :
    wpList P ops Q (o :: rest) a (w.alloc (.cells news.toArray e)) := by
  obtain ⟨i, z, hi, hz, hs1, hb1, hzs⟩ := R.row
  have hm : n + 1 ≤ maxLen := by
    have h1 : (n + 1) * 1 ≤ (n + 1) * bytes := Nat.mul_le_mul_left _ R.pos'
    unfold maxLen; omega
  refine wpList_append_own_at _ hgd s x t ho base e i z size bytes R.ut hi hz hs1 hb1 hzs R.pos v n xs hs (hown.alloc _) ⟨w.heap.size, 0, none⟩ 1 c news hx (by omega) ?_ hone hm hbytes (by simp; omega) ?_
  · intro j u hj
    have h1 : (w.alloc (.cells news.toArray e)).heap[w.heap.size]? = some (.cells news.toArray e (0, 0)) := heap_alloc_new w _
    have h2 : ((⟨w.heap.size, 0, none⟩ : Addr).add j) = ⟨w.heap.size, j, none⟩ := by
      unfold Addr.add; split <;> simp_all
    rw [h2]
    simp only [World.cell?, h1]
    simpa using hj
  · intro v' w' ho' hg _ _
    exact h v' w' ho' (((Below.refl _ w).alloc hbase _).trans (below_of_grown (hown.alloc _) hg (by simp; omega)))

/-- A region that draws its order: n operations that only read, then a forced tail. -/
theorem stail {P : Program} {id : Nat} {Q : Exit → Act → World → Prop} {a : Act} {w : World} {l : List Oper} (n : Nat) (hm : P.follows .mixedOrders = true) (hB : Region.lexTailB .any l.toArray n = true)
    (h : ∀ K : Act → Prop, (∀ a', wpList P l.toArray Q (l.drop n) a' w.drew → K a') → wpStill P l.toArray w.drew K (l.take n) a) : (Code.region id l.toArray true).wp P Q a w :=
  wp_region_still_tail n hm hB (h _ fun _ h => h)


/-- A region that draws its order: all operations only read. -/
theorem sall {P : Program} {id : Nat} {Q : Exit → Act → World → Prop} {a : Act} {w : World} {l : List Oper} (hm : P.follows .mixedOrders = true) (hB : Region.lexB .any l.toArray = true)
    (h : ∀ K : Act → Prop, (∀ a', Q .normal a' w.drew → K a') → wpStill P l.toArray w.drew K l a) : (Code.region id l.toArray true).wp P Q a w :=
  wp_region_still_lit hm hB (h _ fun _ h => h)

theorem box_cell (w : World) (cs : Array Value) (t : TypeId) (i : Nat) {v : Value} (h : cs[i]? = some v) : (w.alloc (.cells cs t)).cell? ⟨w.heap.size, i, none⟩ = some v := by
  have h1 : (w.alloc (.cells cs t)).heap[w.heap.size]? = some (.cells cs t (0, 0)) := heap_alloc_new w _
  simp only [World.cell?, h1]
  simpa using h

/-- A cell of the box that was made first, later. -/
theorem box_at {w wr : World} {cs : Array Value} {t : TypeId} (hB : Below (w.heap.size + 1) (w.alloc (.cells cs t)) wr) (i : Nat) {v : Value} (h : cs[i]? = some v) : wr.cell? ⟨w.heap.size, i, none⟩ = some v :=
  (hB.cell (p := ⟨w.heap.size, i, none⟩) (by simp)).trans (box_cell w cs t i h)

theorem box_sz {w wr : World} {o : Obj} (hB : Below (w.heap.size + 1) (w.alloc o) wr) : w.heap.size + 1 ≤ wr.heap.size := by
  have h := hB.size
  simpa using h

theorem below_box {w wr : World} {o : Obj} (hB : Below (w.heap.size + 1) (w.alloc o) wr) : Below w.heap.size w wr :=
  ((Below.refl _ w).alloc (Nat.le_refl _) _).trans (hB.mono (by omega))

theorem Cells.box {w wr : World} {o : Obj} {A : Option Addr} {cs : List Value} (h : Cells w A cs) (hB : Below (w.heap.size + 1) (w.alloc o) wr) : Cells wr A cs :=
  h.below (below_box hB) (Nat.le_refl _)

section
variable {α : Type} {p : α → Bool} {xs : List α} {k : Nat} {x : α}
theorem all_no (h : xs[k]? = some x) (hp : p x = false) : xs.all p = false := by
  rw [List.all_eq_false]
  exact ⟨x, List.mem_of_getElem? h, by simp [hp]⟩
theorem take_succ_of (h : xs[k]? = some x) : xs.take (k + 1) = xs.take k ++ [x] := by
  rw [List.take_add_one, h]; rfl
theorem all_step (h : (xs.take k).all p = true) (hx : xs[k]? = some x) (hp : p x = true) : (xs.take (k + 1)).all p = true := by
  rw [take_succ_of hx, List.all_append, h]; simp [hp]
theorem all_done (h : (xs.take xs.length).all p = true) : xs.all p = true := by
  rwa [List.take_length] at h
end

/-! ### elements of several cells -/
section
variable {α : Type}
theorem flat_get {f : α → List Value} {size : Nat} (hf : ∀ x, (f x).length = size) : ∀ (xs : List α) (k j : Nat), j < size → (xs.flatMap f)[k * size + j]? = (xs[k]?).bind fun x => (f x)[j]?
  | [], k, j, _ => by simp
  | x :: xs, 0, j, hj => by
    rw [List.flatMap_cons, List.getElem?_append_left (by rw [hf]; omega)]
    simp
  | x :: xs, k + 1, j, hj => by
    have e : (k + 1) * size + j = (f x).length + (k * size + j) := by rw [hf, Nat.add_mul]; omega
    rw [List.flatMap_cons, e, List.getElem?_append_right (by omega), Nat.add_sub_cancel_left, flat_get hf xs k j hj]
    simp
theorem flat_len {f : α → List Value} {size : Nat} (hf : ∀ x, (f x).length = size) : ∀ xs : List α, (xs.flatMap f).length = xs.length * size
  | [] => by simp
  | x :: xs => by rw [List.flatMap_cons, List.length_append, hf, flat_len hf xs, List.length_cons, Nat.add_mul]; omega

/-- Index k of a slice of elements of several cells. -/
theorem flat_at {P : Program} {w : World} {A : Option Addr} {f : α → List Value} {xs : List α} {t e : TypeId} {c k size : Nat} (h : Cells w A (xs.flatMap f)) (hf : ∀ x, (f x).length = size) (ht : P.underlying t = some (.slice e)) (hs : (P.info? e).map (·.size) = some size)
    (hsz : 0 < size) (hk : k < xs.length) :
    ∃ x b o, xs[k]? = some x ∧ b < w.heap.size ∧ (∀ w', (Instr.indexAt t (.slice A xs.length c) (.int .i64 (k : Int))).run P w' = .ok (.pointer (some ⟨b, o, none⟩)) w') ∧ ∀ j v, (f x)[j]? = some v → w.cell? ⟨b, o + j, none⟩ = some v := by
  obtain ⟨b, o, hb, hix, hcell⟩ := h.at_ (c := c) (n := xs.length) ht hs (flat_len hf xs) hk hsz
  have hr : xs[k]? = some xs[k] := List.getElem?_eq_getElem hk
  refine ⟨xs[k], b, o, hr, hb, hix, fun j v hv => ?_⟩
  have hj : j < size := by rw [← hf xs[k]]; exact (List.getElem?_eq_some_iff.1 hv).1
  obtain ⟨u, hu, hc⟩ := hcell j hj
  rw [flat_get hf _ _ _ hj, hr] at hu
  simp only [Option.bind_some, hv] at hu
  cases hu
  exact hc
end

theorem Cells.grown {w w' : World} {A : Option Addr} {cs : List Value} {row : Option Nat} (h : Cells w A cs) (hg : w.grownBy w' row) (hne : cs ≠ [] → ∀ a, A = some a → some a.block ≠ row) : Cells w' A cs := by
  obtain ⟨hl, b, off, hb0, hA, hc⟩ := h
  refine ⟨hl, b, off, by have := hg.size; omega, fun hn => ⟨(hA hn).1, by have := (hA hn).2; have := hg.size; omega⟩, fun k v hk => ?_⟩
  have hn : cs ≠ [] := by rintro rfl; simp at hk
  exact hg.cell (hc k v hk) (by simpa using hne hn _ (hA hn).1)

/-- A new slice: it reads as cs, and lies from block base on. -/
def New (w : World) (base : Nat) (A : Option Addr) (cs : List Value) : Prop := Cells w A cs ∧ ∀ a, A = some a → base ≤ a.block
theorem New.below {w w' : World} {A : Option Addr} {cs : List Value} {B base : Nat} (h : New w base A cs) (hb : Below B w w') (hB : w.heap.size ≤ B) : New w' base A cs := ⟨h.1.below hb hB, h.2⟩
theorem New.mono {w : World} {A : Option Addr} {cs : List Value} {b b' : Nat} (h : New w b A cs) (hb : b' ≤ b) : New w b' A cs := ⟨h.1, fun a ha => Nat.le_trans hb (h.2 a ha)⟩
theorem own_new {w : World} {base : Nat} {e : TypeId} {size n : Nat} {v : Value} {xs : List Value} (h : w.ownsRow base e size v n xs) (hl : xs.length ≤ 17592186043904) :
    ∃ A c, v = .slice A n c ∧ New w base A xs := by
  obtain ⟨A, c, rfl, hc⟩ := own_out h hl
  exact ⟨A, c, rfl, hc, fun a ha => (h.lt a.block (by subst ha; rfl)).1⟩
theorem below_size {w w' : World} (h : Below w.heap.size w w') : w.heap.size ≤ w'.heap.size := h.size

/-- append of one element; what is said besides: which block has turned, where the new slice lies. -/
theorem wpList_app1' {P : Program} {t e : TypeId} {size bytes : Nat} (R : ElemRow P t e size bytes) (w : World) {ops : Array Oper} {rest : List Oper} {o : Oper} {a : Act} {Q : Exit → Act → World → Prop} (hgd : o.guard = none) (s x : Operand)
    (ho : o.op = .call { callee := .builtin .append, args := #[s, x], argTypes := #[t, t] })
    {base : Nat} {v : Value} {n : Nat} {xs : List Value} (hown : w.ownsRow base e size v n xs) (hs : a.eval s = v) (news : List Value) (c : Nat) (hx : a.eval x = .slice (some ⟨w.heap.size, 0, none⟩) 1 c)
    (hnl : news.length = size) (hone : ∀ u ∈ news, u.oneCell' = true) (hbytes : (n + 1) * bytes ≤ 140737488355328) (hbase : base ≤ w.heap.size)
    (h : ∀ v' w', w'.ownsRow base e size v' (n + 1) (xs ++ news) → Below base w w' → w.grownBy w' v.ownBlock → (∀ g, v'.ownBlock = some g → v.ownBlock = some g ∨ w.heap.size ≤ g) → wpList P ops Q rest (a.put o.dst v') w') :
    wpList P ops Q (o :: rest) a (w.alloc (.cells news.toArray e)) := by
  obtain ⟨i, z, hi, hz, hs1, hb1, hzs⟩ := R.row
  have hm : n + 1 ≤ maxLen := by
    have h1 : (n + 1) * 1 ≤ (n + 1) * bytes := Nat.mul_le_mul_left _ R.pos'
    unfold maxLen; omega
  refine wpList_append_own_at _ hgd s x t ho base e i z size bytes R.ut hi hz hs1 hb1 hzs R.pos v n xs hs (hown.alloc _) ⟨w.heap.size, 0, none⟩ 1 c news hx (by omega) ?_ hone hm hbytes (by simp; omega) ?_
  · intro j u hj
    have h1 : (w.alloc (.cells news.toArray e)).heap[w.heap.size]? = some (.cells news.toArray e (0, 0)) := heap_alloc_new w _
    have h2 : ((⟨w.heap.size, 0, none⟩ : Addr).add j) = ⟨w.heap.size, j, none⟩ := by
      unfold Addr.add; split <;> simp_all
    rw [h2]
    simp only [World.cell?, h1]
    simpa using hj
  · intro v' w' ho' hg _ hloc
    refine h v' w' ho' (((Below.refl _ w).alloc hbase _).trans (below_of_grown (hown.alloc _) hg (by simp; omega))) ((World.grownBy_alloc w _ _).trans hg) fun g hg' => ?_
    rcases hloc with hl | hl
    · exact .inl (hl ▸ hg')
    · rw [hl] at hg'
      have e : (w.alloc (.cells news.toArray e)).heap.size = g := by injection hg'
      simp at e
      exact .inr (by omega)

section
variable {P : Program} {ops : Array Oper} {w : World} {Q : Act → Prop} {a : Act} {o : Oper} {rest : List Oper}
theorem still_off (h : Region.wanted o (yielded ops a.tmps) = false) (hr : wpStill P ops w Q rest (a.put o.dst undef)) : wpStill P ops w Q (o :: rest) a := by
  unfold wpStill; rw [if_neg (by simp [h])]; exact hr
theorem still_on (h : Region.wanted o (yielded ops a.tmps) = true) (hr : ∀ K : Act → Prop, (∀ a, wpStill P ops w Q rest a → K a) → o.still P a w K) : wpStill P ops w Q (o :: rest) a := by
  unfold wpStill; rw [if_pos h]; exact hr _ fun _ h => h
end

theorem New.drew {w : World} {b : Nat} {A : Option Addr} {cs : List Value} (h : New w b A cs) : New w.drew b A cs := h
/-- A new block of cells, as a slice. -/
theorem lit_new (W : World) (cs : List Value) (t : TypeId) (hl : cs.length ≤ 17592186043904) : New (W.alloc (.cells cs.toArray t)) W.heap.size (some ⟨W.heap.size, 0, none⟩) cs := by
  refine ⟨⟨hl, W.heap.size, 0, by simp; omega, fun _ => ⟨rfl, by simp⟩, fun k v hk => ?_⟩, fun a ha => by injection ha with ha; subst ha; exact Nat.le_refl _⟩
  rw [Nat.zero_add]
  exact box_cell W cs.toArray t k (by simpa using hk)
/-- The first element of a slice that is not empty. -/
theorem ints_hd {P : Program} {w : World} {A : Option Addr} {x : Int} {xs : List Int} {t e : TypeId} {n c : Nat} (h : Cells w A (ints (x :: xs))) (hn : n = xs.length + 1) (ht : P.underlying t = some (.slice e)) (hs : (P.info? e).map (·.size) = some 1) :
    ∃ b o, b < w.heap.size ∧ (∀ w', (Instr.indexAt t (.slice A n c) (.int .i64 0)).run P w' = .ok (.pointer (some ⟨b, o, none⟩)) w') ∧ w.cell? ⟨b, o, none⟩ = some (.int .i64 x) := by
  obtain ⟨r, b, o, hr, hb, hix, hc⟩ := ints_at (c := c) (k := 0) h ht hs (by simp)
  simp at hr
  subst hr hn
  exact ⟨b, o, hb, by simpa using hix, hc⟩
theorem below_drew {B : Nat} {a w : World} (h : Below B a w) : Below B a w.drew := h.drew

theorem cell_chain {W wr : World} {B : Nat} (hB : Below B W wr) {b i : Nat} (h : b < B) {v : Value} (hc : W.cell? ⟨b, i, none⟩ = some v) : wr.cell? ⟨b, i, none⟩ = some v := (hB.cell (p := ⟨b, i, none⟩) h).trans hc

/-! ### all elements, with their places -/
section
variable {α : Type}
def allTo (p : Nat → α → Bool) (xs : List α) (k : Nat) : Bool := (List.range k).all fun i => (xs[i]?).all (p i)
theorem allTo_step {p : Nat → α → Bool} {xs : List α} {k : Nat} {x : α} (h : allTo p xs k = true) (hx : xs[k]? = some x) (hp : p k x = true) : allTo p xs (k + 1) = true := by
  unfold allTo at h ⊢
  rw [List.range_succ, List.all_append, h]
  simp [hx, hp]
theorem allTo_no {p : Nat → α → Bool} {xs : List α} {k n : Nat} {x : α} (hx : xs[k]? = some x) (hp : p k x = false) (hk : k < n) : allTo p xs n = false := by
  unfold allTo
  rw [List.all_eq_false]
  exact ⟨k, List.mem_range.2 hk, by simp [hx, hp]⟩
theorem allTo_at {p : Nat → α → Bool} {xs : List α} {k n : Nat} {x : α} (h : allTo p xs n = true) (hx : xs[k]? = some x) (hk : k < n) : p k x = true := by
  cases hp : p k x
  · rw [allTo_no hx hp hk] at h; cases h
  · rfl
end

end Go.Proofs.Ytlnonadkdonhmaa

/- Contracts of the small functions over sets and groups (auto, cabotageref08). -/
namespace Go.Proofs.Ytlnonadkdonhmaa
open Go.RowKit

theorem rInt : ElemRow Try.prog 22 3 1 8 := ElemRow.mk' (z := .int .i64 0) Try.underlying22 (by kernel_rfl) rfl (by decide) (by decide)
theorem szInt : (Try.prog.info? 3).map (·.size) = some 1 := rInt.size_eq

/-! ### sets -/
def inI (s c : Int) : Bool := bits BinOp.and .i64 (s / 2 ^ c.toNat) 1 == 1
def withinI (r set : Int) : Bool := bits BinOp.andNot .i64 r set == 0
def setI (n s : Int) : Bool := decide (0 ≤ s) && decide (s < 2 ^ n.toNat)
def goodR (n r : Int) : Bool := decide (1 ≤ r) && setI n r
def grpOk (n : Int) (rs : List Int) : Bool := decide (1 ≤ n) && decide (n ≤ 6) && decide (rs.length ≤ 10) && rs.all (goodR n)

theorem p2_wrap {n : Int} (h0 : 0 ≤ n) (h1 : n ≤ 62) : wrap64 (2 ^ n.toNat) = 2 ^ n.toNat := by
  have h : (2 : Nat) ^ n.toNat ≤ 2 ^ 62 := Nat.pow_le_pow_right (by decide) (by omega)
  have h' : (2 : Int) ^ n.toNat = ((2 ^ n.toNat : Nat) : Int) := by simp
  rw [h']
  generalize (2 : Nat) ^ n.toNat = z at h
  exact IntWalk.wrap64_in _ ⟨by omega, by omega⟩

theorem p2_wrap' {n : Int} (h0 : 0 ≤ n) (h1 : n ≤ 62) : IntKind.i64.wrap (2 ^ n.toNat) = 2 ^ n.toNat := by
  have h := p2_wrap h0 h1
  rw [IntKind.wrap_i64]
  unfold wrap64 at h
  exact h

theorem in_any (s c : Int) (w : World) (h0 : 0 ≤ c) (h1 : c ≤ 60) : Calls Try.prog 107 #[.int .i64 s, .int .i64 c] w fun e w' => e = .returned (.bool (inI s c)) ∧ w = w' := by
  go_enter Try.func107, Try.ntmps107
  go_wp2
  go_ret
  exact ⟨rfl, rfl⟩
theorem has_any (s c : Int) (w : World) (h0 : 0 ≤ c) (h1 : c ≤ 60) : Calls Try.prog 66 #[.int .i64 s, .int .i64 c] w fun e w' => e = .returned (.bool (inI s c)) ∧ w = w' := by
  go_enter Try.func66, Try.ntmps66
  go_wp2
  go_ret
  exact ⟨rfl, rfl⟩
theorem within_any (a b : Int) (w : World) : Calls Try.prog 96 #[.int .i64 a, .int .i64 b] w fun e w' => e = .returned (.bool (withinI a b)) ∧ w = w' := by
  go_enter Try.func96, Try.ntmps96
  go_wp2
  go_ret
  exact ⟨rfl, rfl⟩

theorem isSet_any (n s : Int) (A : Option Addr) (l c : Nat) (w : World) (h0 : 0 ≤ n) (h1 : n ≤ 62) :
    Calls Try.prog 80 #[.agg #[.int .i64 n, .slice A l c], .int .i64 s] w fun e w' => e = .returned (.bool (setI n s)) ∧ Below w.heap.size w w' := by
  have hp := p2_wrap h0 h1
  by_cases h : 0 ≤ s
  · go_enter Try.func80, Try.ntmps80
    go_wp2
    go_ret
    exact ⟨by simp [setI]; try omega, (Below.refl _ _).alloc (Nat.le_refl _) _⟩
  · go_enter Try.func80, Try.ntmps80
    go_wp2
    go_ret
    exact ⟨by simp [setI]; try omega, (Below.refl _ _).alloc (Nat.le_refl _) _⟩
theorem set_any (n s : Int) (A : Option Addr) (l c : Nat) (w : World) (h0 : 0 ≤ n) (h1 : n ≤ 62) :
    Calls Try.prog 52 #[.agg #[.int .i64 n, .slice A l c], .int .i64 s] w fun e w' => e = .returned (.bool (setI n s)) ∧ Below w.heap.size w w' := by
  have hp := p2_wrap h0 h1
  by_cases h : 0 ≤ s
  · go_enter Try.func52, Try.ntmps52
    go_wp2
    go_ret
    exact ⟨by simp [setI]; try omega, (Below.refl _ _).alloc (Nat.le_refl _) _⟩
  · go_enter Try.func52, Try.ntmps52
    go_wp2
    go_ret
    exact ⟨by simp [setI]; try omega, (Below.refl _ _).alloc (Nat.le_refl _) _⟩
theorem small_any (n : Int) (A : Option Addr) (l c : Nat) (w : World) :
    Calls Try.prog 18 #[.agg #[.int .i64 n, .slice A l c]] w fun e w' => e = .returned (.bool (decide (l ≤ 30))) ∧ Below w.heap.size w w' := by
  go_enter Try.func18, Try.ntmps18
  go_wp2
  go_ret
  exact ⟨by congr 2; simp; omega, (Below.refl _ _).alloc (Nat.le_refl _) _⟩

/-! ### Check, Group -/
/-- Errno: OK or ErrArg. -/
def errI (b : Bool) : Int := if b then 0 else 2
theorem grpOk_false {n : Int} {rs : List Int} (h : grpOk n rs = false) : n < 1 ∨ (1 ≤ n ∧ 6 < n) ∨ (1 ≤ n ∧ n ≤ 6 ∧ 10 < rs.length) ∨ (1 ≤ n ∧ n ≤ 6 ∧ rs.length ≤ 10 ∧ rs.all (goodR n) = false) := by
  unfold grpOk at h
  by_cases h1 : 1 ≤ n
  · by_cases h2 : n ≤ 6
    · by_cases h3 : rs.length ≤ 10
      · simp only [h1, h2, h3, decide_true, Bool.and_true, Bool.true_and] at h
        exact .inr (.inr (.inr ⟨h1, h2, h3, h⟩))
      · exact .inr (.inr (.inl ⟨h1, h2, by omega⟩))
    · exact .inr (.inl ⟨h1, by omega⟩)
  · exact .inl (by omega)
theorem grpOk_true {n : Int} {rs : List Int} (h : grpOk n rs = true) : 1 ≤ n ∧ n ≤ 6 ∧ rs.length ≤ 10 ∧ rs.all (goodR n) = true := by
  unfold grpOk at h
  simp only [Bool.and_eq_true, decide_eq_true_eq] at h
  exact ⟨h.1.1.1, h.1.1.2, h.1.2, h.2⟩

set_option maxRecDepth 100000 in
set_option maxHeartbeats 1000000 in
theorem check_loop (n : Int) (A : Option Addr) (c : Nat) (rs : List Int) (w : World) (hA : Cells w A (ints rs)) (h1 : 1 ≤ n) (h2 : n ≤ 6) (h3 : rs.length ≤ 10) :
    Calls Try.prog 48 #[.agg #[.int .i64 n, .slice A rs.length c]] w fun e w' => e = .returned (.int .i64 (errI (rs.all (goodR n)))) ∧ Below w.heap.size w w' := by
  have hd1 : decide (n < 1) = false := by simp; omega
  have hd2 : decide (6 < n) = false := by simp; omega
  have hd3 : decide ((10 : Int) < (rs.length : Int)) = false := by simp; omega
  go_enter Try.func48, Try.ntmps48
  go_wp2
  go_loopw [22] (fun i wr => ∃ k : Nat, k ≤ rs.length ∧ i = .int .i64 k ∧ (rs.take k).all (goodR n) = true ∧ Below (w.heap.size + 1) (w.alloc (.cells #[.int .i64 n, .slice A rs.length c] 24)) wr)
    (fun i _ => rs.length - (intOf i).toNat)
  case atStart => exact ⟨0, Nat.zero_le _, rfl, rfl, Below.refl _ _⟩
  case round =>
    obtain ⟨k, hk, rfl, hall, hB⟩ := hrel
    have Hall := Lib.hid hall
    clear hall
    by_cases hlt : k < rs.length
    · obtain ⟨r, b, o, hr, hb, hix, hc⟩ := ints_at (c := c) (hA.box hB) Try.underlying22 szInt hlt
      have HR := Lib.hid hr
      clear hr
      have g0 := box_at hB 0 (v := .int .i64 n) rfl
      have g1 := box_at hB 1 (v := .slice A rs.length c) rfl
      by_cases hr1 : r < 1
      · go_wp2
        go_ret
        exact ⟨by rw [all_no HR.out (by simp [goodR]; omega)]; rfl, below_box hB⟩
      · by_cases hs : setI n r = true
        · have HS := Lib.hid hs
          clear hs
          go_wp2_with (go_at_call 80; refine (isSet_any n r A rs.length c _ (by omega) (by omega)).mono ?_; rintro e w1 ⟨rfl, hB1⟩; rw [HS.out])
          go_roundw
          case rel => exact ⟨k + 1, by omega, by go_num, all_step Hall.out HR.out (by simp [goodR, HS.out]; omega), hB.trans (hB1.mono (box_sz hB))⟩
          case measure => simp [intOf]; omega
        · simp only [Bool.not_eq_true] at hs
          have HS := Lib.hid hs
          clear hs
          go_wp2_with (go_at_call 80; refine (isSet_any n r A rs.length c _ (by omega) (by omega)).mono ?_; rintro e w1 ⟨rfl, hB1⟩; rw [HS.out])
          go_ret
          exact ⟨by rw [all_no HR.out (by simp [goodR, HS.out])]; rfl, below_box (hB.trans (hB1.mono (box_sz hB)))⟩
    · obtain rfl : k = rs.length := by omega
      go_wp2
      go_ret
      exact ⟨by rw [all_done Hall.out]; rfl, below_box hB⟩

set_option maxRecDepth 100000 in
set_option maxHeartbeats 1000000 in
theorem check_any (n : Int) (A : Option Addr) (c : Nat) (rs : List Int) (w : World) (hA : Cells w A (ints rs)) :
    Calls Try.prog 48 #[.agg #[.int .i64 n, .slice A rs.length c]] w fun e w' => e = .returned (.int .i64 (errI (grpOk n rs))) ∧ Below w.heap.size w w' := by
  by_cases h1 : n < 1
  · have hg : grpOk n rs = false := by simp [grpOk]; omega
    rw [hg]
    go_enter Try.func48, Try.ntmps48
    go_wp2
    go_ret
    exact ⟨rfl, (Below.refl _ _).alloc (Nat.le_refl _) _⟩
  · by_cases h2 : 6 < n
    · have hg : grpOk n rs = false := by simp [grpOk]; omega
      rw [hg]
      have hd1 : decide (n < 1) = false := by simp; omega
      go_enter Try.func48, Try.ntmps48
      go_wp2
      go_ret
      exact ⟨rfl, (Below.refl _ _).alloc (Nat.le_refl _) _⟩
    · by_cases h3 : 10 < rs.length
      · have hg : grpOk n rs = false := by simp [grpOk]; omega
        rw [hg]
        have hd1 : decide (n < 1) = false := by simp; omega
        have hd2 : decide (6 < n) = false := by simp; omega
        have hd3 : (10 : Int) < (rs.length : Int) := by omega
        go_enter Try.func48, Try.ntmps48
        go_wp2
        go_ret
        exact ⟨rfl, (Below.refl _ _).alloc (Nat.le_refl _) _⟩
      · have hg : grpOk n rs = rs.all (goodR n) := by
          have e1 : 1 ≤ n := by omega
          have e2 : n ≤ 6 := by omega
          have e3 : rs.length ≤ 10 := by omega
          simp [grpOk, e1, e2, e3]
        rw [hg]
        exact check_loop n A c rs w hA (by omega) (by omega) (by omega)
end Go.Proofs.Ytlnonadkdonhmaa

/- Contracts: ready rules, others, keeps, place, number, both. -/
namespace Go.Proofs.Ytlnonadkdonhmaa
open Go.RowKit

def readyP (rs : List Int) (set : Int) (i : Nat) : Bool := withinI (rs.getD i 0) set
def readyL (rs : List Int) (set : Int) : List Int := pickTo (readyP rs set) rs.length
theorem readyP_of {rs : List Int} {set : Int} {k : Nat} {r : Int} (h : rs[k]? = some r) : readyP rs set k = withinI r set := by simp [readyP, List.getD, h]

set_option maxRecDepth 100000 in
set_option maxHeartbeats 1000000 in
theorem ready_any (n set : Int) (A : Option Addr) (c : Nat) (rs : List Int) (w : World) (hA : Cells w A (ints rs)) :
    Calls Try.prog 100 #[.agg #[.int .i64 n, .slice A rs.length c], .int .i64 set] w fun e w' => ∃ A' c', e = .returned (.slice A' (readyL rs set).length c') ∧ Cells w' A' (ints (readyL rs set)) ∧ Below w.heap.size w w' := by
  have hlr : rs.length ≤ 17592186043904 := by simpa [ints] using hA.1
  go_enter Try.func100, Try.ntmps100
  go_wp2
  go_loopw [5, 11] (fun v i wr => ∃ k : Nat, k ≤ rs.length ∧ i = .int .i64 k ∧ wr.ownsRow w.heap.size 3 1 v (pickTo (readyP rs set) k).length (ints (pickTo (readyP rs set) k)) ∧ Below w.heap.size w wr)
    (fun _ i _ => rs.length - (intOf i).toNat)
  case atStart => exact ⟨0, Nat.zero_le _, rfl, World.ownsRow_nil _ _ _ _, (Below.refl _ _).alloc (Nat.le_refl _) _⟩
  case round =>
    obtain ⟨k, hk, rfl, hown, hB⟩ := hrel
    by_cases hlt : k < rs.length
    · obtain ⟨r, b, o, hr, hb, hix, hc⟩ := ints_at (c := c) (hA.below hB (Nat.le_refl _)) Try.underlying22 szInt hlt
      have hl := pickTo_len (readyP rs set) k
      have HR := Lib.hid (readyP_of (set := set) hr)
      clear hr
      by_cases h : withinI r set = true
      · have H := Lib.hid h
        unfold withinI at h
        go_wp2_with (at_builtin; refine wpList_app1 rInt _ rfl _ _ rfl hown rfl [_] 1 rfl rfl (by simp [Value.oneCell']) (by omega) hB.size ?_; intro v' w1 hown1 hB1)
        go_roundw
        case rel => exact ⟨k + 1, by omega, by go_num, by rw [pickTo_hit (HR.out.trans H.out)]; simpa [ints] using hown1, hB.trans hB1⟩
        case measure => simp [intOf]; omega
      · simp only [Bool.not_eq_true] at h
        have H := Lib.hid h
        unfold withinI at h
        go_wp2
        go_roundw
        case rel => exact ⟨k + 1, by omega, by go_num, by rw [pickTo_miss (HR.out.trans H.out)]; exact hown, hB⟩
        case measure => simp [intOf]; omega
    · obtain rfl : k = rs.length := by omega
      go_wp2
      obtain ⟨A', c', rfl, hcs⟩ := own_out hown (by have := pickTo_len (readyP rs set) rs.length; simp [ints]; omega)
      go_ret
      exact ⟨A', c', rfl, hcs, hB⟩

set_option maxRecDepth 100000 in
set_option maxHeartbeats 1000000 in
theorem Ready_any (n set : Int) (A : Option Addr) (c : Nat) (rs : List Int) (w : World) (hA : Cells w A (ints rs)) :
    Calls Try.prog 53 #[.agg #[.int .i64 n, .slice A rs.length c], .int .i64 set] w fun e w' => ∃ A' c', e = .returned (.slice A' (readyL rs set).length c') ∧ Cells w' A' (ints (readyL rs set)) ∧ Below w.heap.size w w' := by
  have hlr : rs.length ≤ 17592186043904 := by simpa [ints] using hA.1
  go_enter Try.func53, Try.ntmps53
  go_wp2
  go_loopw [5, 11] (fun v i wr => ∃ k : Nat, k ≤ rs.length ∧ i = .int .i64 k ∧ wr.ownsRow w.heap.size 3 1 v (pickTo (readyP rs set) k).length (ints (pickTo (readyP rs set) k)) ∧ Below w.heap.size w wr)
    (fun _ i _ => rs.length - (intOf i).toNat)
  case atStart => exact ⟨0, Nat.zero_le _, rfl, World.ownsRow_nil _ _ _ _, (Below.refl _ _).alloc (Nat.le_refl _) _⟩
  case round =>
    obtain ⟨k, hk, rfl, hown, hB⟩ := hrel
    by_cases hlt : k < rs.length
    · obtain ⟨r, b, o, hr, hb, hix, hc⟩ := ints_at (c := c) (hA.below hB (Nat.le_refl _)) Try.underlying22 szInt hlt
      have hl := pickTo_len (readyP rs set) k
      have HR := Lib.hid (readyP_of (set := set) hr)
      clear hr
      by_cases h : withinI r set = true
      · have H := Lib.hid h
        clear h
        go_wp2_with (first
          | (go_at_call 96; refine (within_any r set _).mono ?_; rintro e w1 ⟨rfl, rfl⟩; rw [H.out])
          | (at_builtin; refine wpList_app1 rInt _ rfl _ _ rfl hown rfl [_] 1 rfl rfl (by simp [Value.oneCell']) (by omega) hB.size ?_; intro v' w1 hown1 hB1))
        go_roundw
        case rel => exact ⟨k + 1, by omega, by go_num, by rw [pickTo_hit (HR.out.trans H.out)]; simpa [ints] using hown1, hB.trans hB1⟩
        case measure => simp [intOf]; omega
      · simp only [Bool.not_eq_true] at h
        have H := Lib.hid h
        clear h
        go_wp2_with (go_at_call 96; refine (within_any r set _).mono ?_; rintro e w1 ⟨rfl, rfl⟩; rw [H.out])
        go_roundw
        case rel => exact ⟨k + 1, by omega, by go_num, by rw [pickTo_miss (HR.out.trans H.out)]; exact hown, hB⟩
        case measure => simp [intOf]; omega
    · obtain rfl : k = rs.length := by omega
      go_wp2
      obtain ⟨A', c', rfl, hcs⟩ := own_out hown (by have := pickTo_len (readyP rs set) rs.length; simp [ints]; omega)
      go_ret
      exact ⟨A', c', rfl, hcs, hB⟩

theorem rest_any (n set : Int) (A : Option Addr) (c : Nat) (rs : List Int) (w : World) (hA : Cells w A (ints rs)) :
    Calls Try.prog 101 #[.agg #[.int .i64 n, .slice A rs.length c], .int .i64 set] w fun e w' => e = .returned (.bool (((readyL rs set).length : Int) == 0)) ∧ Below w.heap.size w w' := by
  go_enter Try.func101, Try.ntmps101
  go_wp2_with (go_at_call 53; refine (Ready_any n set A c rs _ (hA.below ((Below.refl _ w).alloc (Nat.le_refl _) _) (Nat.le_refl _))).mono ?_; rintro e w1 ⟨A', c', rfl, hcs, hB1⟩)
  go_ret
  exact ⟨rfl, below_box (hB1.mono (by simp))⟩

/-- The channels of a set but one. -/
def otherP (set c : Int) (i : Nat) : Bool := inI set i && ((i : Int) != c)
def othersI (set c : Int) : List Int := pickTo (otherP set c) 6

set_option maxRecDepth 100000 in
set_option maxHeartbeats 1000000 in
theorem Others_any (set ch : Int) (w : World) :
    Calls Try.prog 78 #[.int .i64 set, .int .i64 ch] w fun e w' => ∃ A' c', e = .returned (.slice A' (othersI set ch).length c') ∧ Cells w' A' (ints (othersI set ch)) ∧ Below w.heap.size w w' := by
  go_enter Try.func78, Try.ntmps78
  go_wp2
  go_loopw [5, 6] (fun v i wr => ∃ k : Nat, k ≤ 6 ∧ i = .int .i64 k ∧ wr.ownsRow w.heap.size 3 1 v (pickTo (otherP set ch) k).length (ints (pickTo (otherP set ch) k)) ∧ Below w.heap.size w wr)
    (fun _ i _ => 6 - (intOf i).toNat)
  case atStart => exact ⟨0, Nat.zero_le _, rfl, World.ownsRow_nil _ _ _ _, Below.refl _ _⟩
  case round =>
    obtain ⟨k, hk, rfl, hown, hB⟩ := hrel
    have hl := pickTo_len (otherP set ch) k
    by_cases hlt : k < 6
    · by_cases h : inI set k = true
      · by_cases h2 : (k : Int) = ch
        · have H : Hid (otherP set ch k = false) := by show _ = _; simp [otherP, h2]
          have H1 := Lib.hid h
          have h3 : ((k : Int) != ch) = false := by simp [h2]
          clear h h2
          go_wp2_with (go_at_call 66; refine (has_any set k _ (by omega) (by omega)).mono ?_; rintro e w1 ⟨rfl, rfl⟩; rw [H1.out])
          go_roundw
          case rel => exact ⟨k + 1, by omega, by go_num, by rw [pickTo_miss H.out]; exact hown, hB⟩
          case measure => simp [intOf]; omega
        · have H : Hid (otherP set ch k = true) := by show _ = _; simp [otherP, h, h2]
          have H1 := Lib.hid h
          have h3 : ((k : Int) != ch) = true := by simp [h2]
          clear h h2
          go_wp2_with (first
            | (go_at_call 66; refine (has_any set k _ (by omega) (by omega)).mono ?_; rintro e w1 ⟨rfl, rfl⟩; rw [H1.out])
            | (at_builtin; refine wpList_app1 rInt _ rfl _ _ rfl hown rfl [_] 1 rfl rfl (by simp [Value.oneCell']) (by omega) hB.size ?_; intro v' w1 hown1 hB1))
          go_roundw
          case rel => exact ⟨k + 1, by omega, by go_num, by rw [pickTo_hit H.out]; simpa [ints] using hown1, hB.trans hB1⟩
          case measure => simp [intOf]; omega
      · simp only [Bool.not_eq_true] at h
        have H : Hid (otherP set ch k = false) := by show _ = _; simp [otherP, h]
        have H1 := Lib.hid h
        clear h
        go_wp2_with (go_at_call 66; refine (has_any set k _ (by omega) (by omega)).mono ?_; rintro e w1 ⟨rfl, rfl⟩; rw [H1.out])
        go_roundw
        case rel => exact ⟨k + 1, by omega, by go_num, by rw [pickTo_miss H.out]; exact hown, hB⟩
        case measure => simp [intOf]; omega
    · obtain rfl : k = 6 := by omega
      go_wp2
      obtain ⟨A', c', rfl, hcs⟩ := own_out hown (by have := pickTo_len (otherP set ch) 6; simp [ints]; omega)
      go_ret
      exact ⟨A', c', rfl, hcs, hB⟩

/-! ### keeps, place -/
def keepF (os : List Int) (n : Int) (i : Nat) : Int := if inI n i then 2 ^ (os.getD i 0).toNat else 0
def keepsI (os : List Int) (n : Int) : Int := sumTo (keepF os n) os.length
def placeF (os : List Int) (keep : Int) (i : Nat) : Int := if inI keep (os.getD i 0) then 2 ^ i else 0
def placeI (os : List Int) (keep : Int) : Int := sumTo (placeF os keep) os.length

theorem keepF_bd {os : List Int} {n : Int} (h : ∀ x ∈ os, 0 ≤ x ∧ x < 6) (i : Nat) : 0 ≤ keepF os n i ∧ keepF os n i ≤ 32 := by
  unfold keepF
  split
  · have := p2_bd (os.getD i 0).toNat (m := 5) (by
      by_cases hi : i < os.length
      · have := h _ (List.getElem_mem hi); simp [List.getD, List.getElem?_eq_getElem hi]; omega
      · simp [List.getD, List.getElem?_eq_none (Nat.le_of_not_lt hi)])
    simpa using this
  · omega
theorem placeF_bd {os : List Int} {n : Int} {i : Nat} (h : i < 6) : 0 ≤ placeF os n i ∧ placeF os n i ≤ 32 := by
  unfold placeF
  split
  · have := p2_bd i (m := 5) (by omega)
    simpa using this
  · omega

set_option maxRecDepth 100000 in
set_option maxHeartbeats 1000000 in
theorem keeps_any (os : List Int) (n : Int) (A : Option Addr) (c : Nat) (w : World) (hA : Cells w A (ints os)) (hl : os.length ≤ 6) (ho : ∀ x ∈ os, 0 ≤ x ∧ x < 6) :
    Calls Try.prog 88 #[.slice A os.length c, .int .i64 n] w fun e w' => e = .returned (.int .i64 (keepsI os n)) ∧ w = w' := by
  go_enter Try.func88, Try.ntmps88
  go_wp2
  go_loop [5, 10] (fun v i => ∃ k : Nat, k ≤ os.length ∧ i = .int .i64 k ∧ v = .int .i64 (sumTo (keepF os n) k)) (fun _ i => os.length - (intOf i).toNat)
  case atStart => exact ⟨0, Nat.zero_le _, rfl, rfl⟩
  case round =>
    obtain ⟨k, hk, rfl, rfl⟩ := hrel
    by_cases hlt : k < os.length
    · obtain ⟨x, b, o, hr, hb, hix, hc⟩ := ints_at (c := c) hA Try.underlying22 szInt hlt
      have hx := ho x (List.mem_of_getElem? hr)
      have hx0 := hx.1
      have hx1 := hx.2
      clear hx
      have hp := p2_wrap (n := x) (by omega) (by omega)
      obtain ⟨hp1, hp2⟩ := p2_bd x.toNat (m := 5) (by omega)
      obtain ⟨hs1, hs2⟩ := sumTo_bd (M := 32) k (fun i _ => keepF_bd (n := n) ho i)
      have HF : Hid (keepF os n k = if inI n k then 2 ^ x.toNat else 0) := by show _ = _; simp [keepF, List.getD, hr]
      clear hr
      by_cases h : inI n k = true
      · have H := Lib.hid h
        clear h
        go_wp2_with (go_at_call 66; refine (has_any n k _ (by omega) (by omega)).mono ?_; rintro e w1 ⟨rfl, rfl⟩; rw [H.out])
        go_round
        case rel => exact ⟨k + 1, by omega, by go_num, by rw [sumTo_succ, HF.out, if_pos H.out]⟩
        case measure => simp [intOf]; omega
      · simp only [Bool.not_eq_true] at h
        have H := Lib.hid h
        clear h
        go_wp2_with (go_at_call 66; refine (has_any n k _ (by omega) (by omega)).mono ?_; rintro e w1 ⟨rfl, rfl⟩; rw [H.out])
        go_round
        case rel => exact ⟨k + 1, by omega, by go_num, by rw [sumTo_succ, HF.out, H.out]; simp⟩
        case measure => simp [intOf]; omega
    · obtain rfl : k = os.length := by omega
      go_wp2
      go_ret
      exact ⟨rfl, rfl⟩

set_option maxRecDepth 100000 in
set_option maxHeartbeats 1000000 in
theorem place_any (os : List Int) (keep : Int) (A : Option Addr) (c : Nat) (w : World) (hA : Cells w A (ints os)) (hl : os.length ≤ 6) (ho : ∀ x ∈ os, 0 ≤ x ∧ x < 6) :
    Calls Try.prog 116 #[.slice A os.length c, .int .i64 keep] w fun e w' => e = .returned (.int .i64 (placeI os keep)) ∧ w = w' := by
  go_enter Try.func116, Try.ntmps116
  go_wp2
  go_loop [5, 10] (fun v i => ∃ k : Nat, k ≤ os.length ∧ i = .int .i64 k ∧ v = .int .i64 (sumTo (placeF os keep) k)) (fun _ i => os.length - (intOf i).toNat)
  case atStart => exact ⟨0, Nat.zero_le _, rfl, rfl⟩
  case round =>
    obtain ⟨k, hk, rfl, rfl⟩ := hrel
    by_cases hlt : k < os.length
    · obtain ⟨x, b, o, hr, hb, hix, hc⟩ := ints_at (c := c) hA Try.underlying22 szInt hlt
      have hx := ho x (List.mem_of_getElem? hr)
      have hx0 := hx.1
      have hx1 := hx.2
      clear hx
      have hp := p2_wrap (n := (k : Int)) (by omega) (by omega)
      obtain ⟨hp1, hp2⟩ := p2_bd (k : Int).toNat (m := 5) (by omega)
      rw [Int.toNat_natCast] at hp hp1 hp2
      obtain ⟨hs1, hs2⟩ := sumTo_bd (M := 32) (f := placeF os keep) k (fun i _ => placeF_bd (by omega))
      have HF : Hid (placeF os keep k = if inI keep x then 2 ^ k else 0) := by show _ = _; simp [placeF, List.getD, hr]
      clear hr
      by_cases h : inI keep x = true
      · have H := Lib.hid h
        clear h
        go_wp2_with (go_at_call 66; refine (has_any keep x _ (by omega) (by omega)).mono ?_; rintro e w1 ⟨rfl, rfl⟩; rw [H.out])
        go_round
        case rel => exact ⟨k + 1, by omega, by go_num, by rw [sumTo_succ, HF.out, if_pos H.out]⟩
        case measure => simp [intOf]; omega
      · simp only [Bool.not_eq_true] at h
        have H := Lib.hid h
        clear h
        go_wp2_with (go_at_call 66; refine (has_any keep x _ (by omega) (by omega)).mono ?_; rintro e w1 ⟨rfl, rfl⟩; rw [H.out])
        go_round
        case rel => exact ⟨k + 1, by omega, by go_num, by rw [sumTo_succ, HF.out, H.out]; simp⟩
        case measure => simp [intOf]; omega
    · obtain rfl : k = os.length := by omega
      go_wp2
      go_ret
      exact ⟨rfl, rfl⟩
end Go.Proofs.Ytlnonadkdonhmaa

/- Contracts: Group, Ints, Letters, Nodes, both, State, Letter, Come, Picks. -/
namespace Go.Proofs.Ytlnonadkdonhmaa
open Go.RowKit

set_option maxRecDepth 100000 in
set_option maxHeartbeats 1000000 in
theorem group_loop (n : Int) (A : Option Addr) (c : Nat) (rs : List Int) (w : World) (hA : Cells w A (ints rs)) (h1 : 1 ≤ n) (h2 : n ≤ 6) (h3 : rs.length ≤ 10) :
    Calls Try.prog 23 #[.agg #[.int .i64 n, .slice A rs.length c]] w fun e w' => e = .returned (.bool (rs.all (goodR n))) ∧ Below w.heap.size w w' := by
  have hd1 : decide (n < 1) = false := by simp; omega
  have hd2 : decide (6 < n) = false := by simp; omega
  have hd3 : decide ((10 : Int) < (rs.length : Int)) = false := by simp; omega
  go_enter Try.func23, Try.ntmps23
  go_wp2
  go_loopw [3] (fun i wr => ∃ k : Nat, k ≤ rs.length ∧ i = .int .i64 k ∧ (rs.take k).all (goodR n) = true ∧ Below (w.heap.size + 1) (w.alloc (.cells #[.int .i64 n, .slice A rs.length c] 24)) wr)
    (fun i _ => rs.length - (intOf i).toNat)
  case atStart => exact ⟨0, Nat.zero_le _, rfl, rfl, Below.refl _ _⟩
  case round =>
    obtain ⟨k, hk, rfl, hall, hB⟩ := hrel
    have Hall := Lib.hid hall
    clear hall
    have g0 := box_at hB 0 (v := .int .i64 n) rfl
    have g1 := box_at hB 1 (v := .slice A rs.length c) rfl
    by_cases hlt : k < rs.length
    · obtain ⟨r, b, o, hr, hb, hix, hc⟩ := ints_at (c := c) (hA.box hB) Try.underlying22 szInt hlt
      have HR := Lib.hid hr
      clear hr
      by_cases hr1 : r < 1
      · have hd4 : decide (r < 1) = true := by simp; omega
        go_wp2
        refine stail 13 (by kernel_rfl) (by kernel_rfl) (fun Kq hKq => ?_)
        simp only [List.take_succ_cons, List.take_zero, List.drop_succ_cons, List.drop_zero] at hKq ⊢
        repeat still_step
        refine wpStill_nil (hKq _ ?_)
        clear hKq Kq
        go_wp2
        go_ret
        exact ⟨by rw [all_no HR.out (by simp [goodR]; omega)]; rfl, below_box hB.drew⟩
      · have hd4 : decide (r < 1) = false := by simp; omega
        by_cases hs : setI n r = true
        · have HS := Lib.hid hs
          clear hs
          go_wp2
          refine stail 13 (by kernel_rfl) (by kernel_rfl) (fun Kq hKq => ?_)
          simp only [List.take_succ_cons, List.take_zero, List.drop_succ_cons, List.drop_zero] at hKq ⊢
          repeat still_step
          refine wpStill_nil (hKq _ ?_)
          clear hKq Kq
          go_wp2_with (go_at_call 52; refine (set_any n r A rs.length c _ (by omega) (by omega)).mono ?_; rintro e w1 ⟨rfl, hB1⟩; rw [HS.out])
          go_roundw
          case rel => exact ⟨k + 1, by omega, by go_num, all_step Hall.out HR.out (by simp [goodR, HS.out]; omega), hB.drew.trans (hB1.mono (box_sz hB.drew))⟩
          case measure => simp [intOf]; omega
        · simp only [Bool.not_eq_true] at hs
          have HS := Lib.hid hs
          clear hs
          go_wp2
          refine stail 13 (by kernel_rfl) (by kernel_rfl) (fun Kq hKq => ?_)
          simp only [List.take_succ_cons, List.take_zero, List.drop_succ_cons, List.drop_zero] at hKq ⊢
          repeat still_step
          refine wpStill_nil (hKq _ ?_)
          clear hKq Kq
          go_wp2_with (go_at_call 52; refine (set_any n r A rs.length c _ (by omega) (by omega)).mono ?_; rintro e w1 ⟨rfl, hB1⟩; rw [HS.out])
          go_ret
          exact ⟨by rw [all_no HR.out (by simp [goodR, HS.out])]; rfl, below_box (hB.drew.trans (hB1.mono (box_sz hB.drew)))⟩
    · obtain rfl : k = rs.length := by omega
      go_wp2
      go_ret
      exact ⟨by rw [all_done Hall.out]; rfl, below_box hB⟩

set_option maxRecDepth 100000 in
set_option maxHeartbeats 1000000 in
theorem group_any (n : Int) (A : Option Addr) (c : Nat) (rs : List Int) (w : World) (hA : Cells w A (ints rs)) :
    Calls Try.prog 23 #[.agg #[.int .i64 n, .slice A rs.length c]] w fun e w' => e = .returned (.bool (grpOk n rs)) ∧ Below w.heap.size w w' := by
  by_cases h1 : n < 1
  · have hg : grpOk n rs = false := by simp [grpOk]; omega
    rw [hg]
    go_enter Try.func23, Try.ntmps23
    go_wp2
    go_ret
    exact ⟨rfl, (Below.refl _ _).alloc (Nat.le_refl _) _⟩
  · by_cases h2 : 6 < n
    · have hg : grpOk n rs = false := by simp [grpOk]; omega
      rw [hg]
      have hd1 : decide (n < 1) = false := by simp; omega
      go_enter Try.func23, Try.ntmps23
      go_wp2
      go_ret
      exact ⟨rfl, (Below.refl _ _).alloc (Nat.le_refl _) _⟩
    · by_cases h3 : 10 < rs.length
      · have hg : grpOk n rs = false := by simp [grpOk]; omega
        rw [hg]
        have hd1 : decide (n < 1) = false := by simp; omega
        have hd2 : decide (6 < n) = false := by simp; omega
        have hd3 : (10 : Int) < (rs.length : Int) := by omega
        go_enter Try.func23, Try.ntmps23
        go_wp2
        go_ret
        exact ⟨rfl, (Below.refl _ _).alloc (Nat.le_refl _) _⟩
      · have hg : grpOk n rs = rs.all (goodR n) := by
          have e1 : 1 ≤ n := by omega
          have e2 : n ≤ 6 := by omega
          have e3 : rs.length ≤ 10 := by omega
          simp [grpOk, e1, e2, e3]
        rw [hg]
        exact group_loop n A c rs w hA (by omega) (by omega) (by omega)

/-! ### comparing -/
theorem ne_of_get {α : Type} {xs ys : List α} {k : Nat} {x y : α} (hx : xs[k]? = some x) (hy : ys[k]? = some y) (h : x ≠ y) : xs ≠ ys := by
  rintro rfl; rw [hx] at hy; exact h (by injection hy)
theorem eq_step {α : Type} {xs ys : List α} {k : Nat} {x : α} (h : xs.take k = ys.take k) (hx : xs[k]? = some x) (hy : ys[k]? = some x) : xs.take (k + 1) = ys.take (k + 1) := by
  rw [take_succ_of hx, take_succ_of hy, h]
theorem eq_done {α : Type} {xs ys : List α} (hl : xs.length = ys.length) (h : xs.take xs.length = ys.take xs.length) : xs = ys := by
  rw [List.take_length, hl, List.take_length] at h; exact h

set_option maxRecDepth 100000 in
set_option maxHeartbeats 1000000 in
theorem Ints_any (xs ys : List Int) (A B : Option Addr) (c d : Nat) (w : World) (hA : Cells w A (ints xs)) (hB : Cells w B (ints ys)) :
    Calls Try.prog 32 #[.slice A xs.length c, .slice B ys.length d] w fun e w' => e = .returned (.bool (decide (xs = ys))) ∧ Below w.heap.size w w' := by
  have hlx : xs.length ≤ 17592186043904 := by simpa [ints] using hA.1
  have hly : ys.length ≤ 17592186043904 := by simpa [ints] using hB.1
  by_cases hl : xs.length = ys.length
  · have hd : ((xs.length : Int) != (ys.length : Int)) = false := by simp [hl]
    have HL := Lib.hid hl
    clear hl
    go_enter Try.func32, Try.ntmps32
    go_wp2
    go_loopw [13] (fun i wr => ∃ k : Nat, k ≤ xs.length ∧ i = .int .i64 k ∧ xs.take k = ys.take k ∧ Below w.heap.size w wr) (fun i _ => xs.length - (intOf i).toNat)
    case atStart => exact ⟨0, Nat.zero_le _, rfl, rfl, Below.refl _ _⟩
    case round =>
      obtain ⟨k, hk, rfl, heq, hbw⟩ := hrel
      have HE := Lib.hid heq
      clear heq
      by_cases hlt : k < xs.length
      · obtain ⟨x, b, o, hx, hb, hix, hc⟩ := ints_at (c := c) (hA.below hbw (Nat.le_refl _)) Try.underlying22 szInt hlt
        obtain ⟨y, b', o', hy, hb', hix', hc'⟩ := ints_at (c := d) (hB.below hbw (Nat.le_refl _)) Try.underlying22 szInt (by rw [← HL.out]; exact hlt)
        have HX := Lib.hid hx
        have HY := Lib.hid hy
        clear hx hy
        by_cases hxy : x = y
        · subst hxy
          go_wp2
          refine sall (by kernel_rfl) (by kernel_rfl) (fun Kq hKq => ?_)
          repeat still_step
          refine wpStill_nil (hKq _ ?_)
          clear hKq Kq
          go_wp2
          go_roundw
          case rel => exact ⟨k + 1, by omega, by go_num, eq_step HE.out HX.out HY.out, hbw.drew⟩
          case measure => simp [intOf]; omega
        · have hn : (x != y) = true := by simp [hxy]
          have HN := Lib.hid hxy
          clear hxy
          go_wp2
          refine sall (by kernel_rfl) (by kernel_rfl) (fun Kq hKq => ?_)
          repeat still_step
          refine wpStill_nil (hKq _ ?_)
          clear hKq Kq
          go_wp2
          go_ret
          exact ⟨by rw [decide_eq_false (ne_of_get HX.out HY.out HN.out)]; rfl, hbw.drew⟩
      · obtain rfl : k = xs.length := by omega
        go_wp2
        go_ret
        exact ⟨by rw [decide_eq_true (eq_done HL.out HE.out)]; rfl, hbw⟩
  · have hd : ((xs.length : Int) != (ys.length : Int)) = true := by simp; omega
    have hne : decide (xs = ys) = false := decide_eq_false (fun h => hl (by rw [h]))
    rw [hne]
    clear hl hne
    go_enter Try.func32, Try.ntmps32
    go_wp2
    go_ret
    exact ⟨rfl, Below.refl _ _⟩

end Go.Proofs.Ytlnonadkdonhmaa

/- Contracts: Letters, Nodes. -/
namespace Go.Proofs.Ytlnonadkdonhmaa
open Go.RowKit

/-! ### letters -/
structure Lt where
  ch : Int
  keep : Int
deriving DecidableEq
def ltCells (l : Lt) : List Value := [.int .i64 l.ch, .int .i64 l.keep]
def lts (l : List Lt) : List Value := l.flatMap ltCells
theorem ltCells_len (x : Lt) : (ltCells x).length = 2 := rfl
theorem rLt : ElemRow Try.prog 38 118 2 16 := ElemRow.mk' (z := .agg #[.int .i64 0, .int .i64 0]) Try.underlying38 (by kernel_rfl) rfl (by decide) (by decide)

set_option maxRecDepth 100000 in
set_option maxHeartbeats 1000000 in
theorem Letters_any (xs ys : List Lt) (A B : Option Addr) (c d : Nat) (w : World) (hA : Cells w A (lts xs)) (hB : Cells w B (lts ys)) :
    Calls Try.prog 35 #[.slice A xs.length c, .slice B ys.length d] w fun e w' => e = .returned (.bool (decide (xs = ys))) ∧ Below w.heap.size w w' := by
  have hlx : xs.length * 2 ≤ 17592186043904 := by simpa [lts, flat_len ltCells_len] using hA.1
  have hly : ys.length * 2 ≤ 17592186043904 := by simpa [lts, flat_len ltCells_len] using hB.1
  have hst : Try.prog.stoodInHeld 118 = false := by kernel_rfl
  have hgd : Try.prog.eqGuardType Try.prog.depth 118 = false := by kernel_rfl
  by_cases hl : xs.length = ys.length
  · have hd : ((xs.length : Int) != (ys.length : Int)) = false := by simp [hl]
    have HL := Lib.hid hl
    clear hl
    go_enter Try.func35, Try.ntmps35
    go_wp2
    go_loopw [13] (fun i wr => ∃ k : Nat, k ≤ xs.length ∧ i = .int .i64 k ∧ xs.take k = ys.take k ∧ Below w.heap.size w wr) (fun i _ => xs.length - (intOf i).toNat)
    case atStart => exact ⟨0, Nat.zero_le _, rfl, rfl, Below.refl _ _⟩
    case round =>
      obtain ⟨k, hk, rfl, heq, hbw⟩ := hrel
      have HE := Lib.hid heq
      clear heq
      by_cases hlt : k < xs.length
      · obtain ⟨x, b, o, hx, hb, hix, hc⟩ := flat_at (c := c) (hA.below hbw (Nat.le_refl _)) ltCells_len Try.underlying38 rLt.size_eq (by decide) hlt
        obtain ⟨y, b', o', hy, hb', hix', hc'⟩ := flat_at (c := d) (hB.below hbw (Nat.le_refl _)) ltCells_len Try.underlying38 rLt.size_eq (by decide) (by rw [← HL.out]; exact hlt)
        obtain ⟨x0, x1⟩ := x
        obtain ⟨y0, y1⟩ := y
        have c0 := hc 0 _ rfl
        have d0 := hc' 0 _ rfl
        have c1 := hc 1 _ rfl
        have d1 := hc' 1 _ rfl
        rw [Nat.add_zero] at c0 d0
        have HX := Lib.hid hx
        have HY := Lib.hid hy
        clear hx hy hc hc'
        by_cases e0 : x0 = y0
        rotate_left
        · have HN : Hid ((⟨x0, x1⟩ : Lt) ≠ ⟨y0, y1⟩) := by intro hh; injection hh; exact e0 ‹_›
          go_wp2
          refine sall (by kernel_rfl) (by kernel_rfl) (fun Kq hKq => ?_)
          repeat still_step
          refine wpStill_nil (hKq _ ?_)
          clear hKq Kq
          go_wp2
          go_ret
          exact ⟨by rw [decide_eq_false (ne_of_get HX.out HY.out HN.out)]; rfl, hbw.drew⟩
        obtain rfl := e0
        by_cases e1 : x1 = y1
        rotate_left
        · have HN : Hid ((⟨x0, x1⟩ : Lt) ≠ ⟨x0, y1⟩) := by intro hh; injection hh; exact e1 ‹_›
          go_wp2
          refine sall (by kernel_rfl) (by kernel_rfl) (fun Kq hKq => ?_)
          repeat still_step
          refine wpStill_nil (hKq _ ?_)
          clear hKq Kq
          go_wp2
          go_ret
          exact ⟨by rw [decide_eq_false (ne_of_get HX.out HY.out HN.out)]; rfl, hbw.drew⟩
        obtain rfl := e1
        go_wp2
        refine sall (by kernel_rfl) (by kernel_rfl) (fun Kq hKq => ?_)
        repeat still_step
        refine wpStill_nil (hKq _ ?_)
        clear hKq Kq
        go_wp2
        go_roundw
        case rel => exact ⟨k + 1, by omega, by go_num, eq_step HE.out HX.out HY.out, hbw.drew⟩
        case measure => simp [intOf]; omega
      · obtain rfl : k = xs.length := by omega
        go_wp2
        go_ret
        exact ⟨by rw [decide_eq_true (eq_done HL.out HE.out)]; rfl, hbw⟩
  · have hd : ((xs.length : Int) != (ys.length : Int)) = true := by simp; omega
    have hne : decide (xs = ys) = false := decide_eq_false (fun h => hl (by rw [h]))
    rw [hne]
    clear hl hne
    go_enter Try.func35, Try.ntmps35
    go_wp2
    go_ret
    exact ⟨rfl, Below.refl _ _⟩

/-! ### nodes -/
structure Nd where
  ch : Int
  yes : Int
  no : Int
  rule : Int
deriving DecidableEq
def ndCells (l : Nd) : List Value := [.int .i64 l.ch, .int .i64 l.yes, .int .i64 l.no, .int .i64 l.rule]
def nds (l : List Nd) : List Value := l.flatMap ndCells
theorem ndCells_len (x : Nd) : (ndCells x).length = 4 := rfl
theorem rNd : ElemRow Try.prog 79 107 4 32 := ElemRow.mk' (z := .agg #[.int .i64 0, .int .i64 0, .int .i64 0, .int .i64 0]) Try.underlying79 (by kernel_rfl) rfl (by decide) (by decide)

set_option maxRecDepth 100000 in
set_option maxHeartbeats 1000000 in
theorem Nodes_any (xs ys : List Nd) (A B : Option Addr) (c d : Nat) (w : World) (hA : Cells w A (nds xs)) (hB : Cells w B (nds ys)) :
    Calls Try.prog 63 #[.slice A xs.length c, .slice B ys.length d] w fun e w' => e = .returned (.bool (decide (xs = ys))) ∧ Below w.heap.size w w' := by
  have hlx : xs.length * 4 ≤ 17592186043904 := by simpa [nds, flat_len ndCells_len] using hA.1
  have hly : ys.length * 4 ≤ 17592186043904 := by simpa [nds, flat_len ndCells_len] using hB.1
  have hst : Try.prog.stoodInHeld 107 = false := by kernel_rfl
  have hgd : Try.prog.eqGuardType Try.prog.depth 107 = false := by kernel_rfl
  by_cases hl : xs.length = ys.length
  · have hd : ((xs.length : Int) != (ys.length : Int)) = false := by simp [hl]
    have HL := Lib.hid hl
    clear hl
    go_enter Try.func63, Try.ntmps63
    go_wp2
    go_loopw [13] (fun i wr => ∃ k : Nat, k ≤ xs.length ∧ i = .int .i64 k ∧ xs.take k = ys.take k ∧ Below w.heap.size w wr) (fun i _ => xs.length - (intOf i).toNat)
    case atStart => exact ⟨0, Nat.zero_le _, rfl, rfl, Below.refl _ _⟩
    case round =>
      obtain ⟨k, hk, rfl, heq, hbw⟩ := hrel
      have HE := Lib.hid heq
      clear heq
      by_cases hlt : k < xs.length
      · obtain ⟨x, b, o, hx, hb, hix, hc⟩ := flat_at (c := c) (hA.below hbw (Nat.le_refl _)) ndCells_len Try.underlying79 rNd.size_eq (by decide) hlt
        obtain ⟨y, b', o', hy, hb', hix', hc'⟩ := flat_at (c := d) (hB.below hbw (Nat.le_refl _)) ndCells_len Try.underlying79 rNd.size_eq (by decide) (by rw [← HL.out]; exact hlt)
        obtain ⟨x0, x1, x2, x3⟩ := x
        obtain ⟨y0, y1, y2, y3⟩ := y
        have c0 := hc 0 _ rfl
        have d0 := hc' 0 _ rfl
        have c1 := hc 1 _ rfl
        have d1 := hc' 1 _ rfl
        have c2 := hc 2 _ rfl
        have d2 := hc' 2 _ rfl
        have c3 := hc 3 _ rfl
        have d3 := hc' 3 _ rfl
        rw [Nat.add_zero] at c0 d0
        have HX := Lib.hid hx
        have HY := Lib.hid hy
        clear hx hy hc hc'
        by_cases e0 : x0 = y0
        rotate_left
        · have HN : Hid ((⟨x0, x1, x2, x3⟩ : Nd) ≠ ⟨y0, y1, y2, y3⟩) := by intro hh; injection hh; exact e0 ‹_›
          go_wp2
          refine sall (by kernel_rfl) (by kernel_rfl) (fun Kq hKq => ?_)
          repeat still_step
          refine wpStill_nil (hKq _ ?_)
          clear hKq Kq
          go_wp2
          go_ret
          exact ⟨by rw [decide_eq_false (ne_of_get HX.out HY.out HN.out)]; rfl, hbw.drew⟩
        obtain rfl := e0
        by_cases e1 : x1 = y1
        rotate_left
        · have HN : Hid ((⟨x0, x1, x2, x3⟩ : Nd) ≠ ⟨x0, y1, y2, y3⟩) := by intro hh; injection hh; exact e1 ‹_›
          go_wp2
          refine sall (by kernel_rfl) (by kernel_rfl) (fun Kq hKq => ?_)
          repeat still_step
          refine wpStill_nil (hKq _ ?_)
          clear hKq Kq
          go_wp2
          go_ret
          exact ⟨by rw [decide_eq_false (ne_of_get HX.out HY.out HN.out)]; rfl, hbw.drew⟩
        obtain rfl := e1
        by_cases e2 : x2 = y2
        rotate_left
        · have HN : Hid ((⟨x0, x1, x2, x3⟩ : Nd) ≠ ⟨x0, x1, y2, y3⟩) := by intro hh; injection hh; exact e2 ‹_›
          go_wp2
          refine sall (by kernel_rfl) (by kernel_rfl) (fun Kq hKq => ?_)
          repeat still_step
          refine wpStill_nil (hKq _ ?_)
          clear hKq Kq
          go_wp2
          go_ret
          exact ⟨by rw [decide_eq_false (ne_of_get HX.out HY.out HN.out)]; rfl, hbw.drew⟩
        obtain rfl := e2
        by_cases e3 : x3 = y3
        rotate_left
        · have HN : Hid ((⟨x0, x1, x2, x3⟩ : Nd) ≠ ⟨x0, x1, x2, y3⟩) := by intro hh; injection hh; exact e3 ‹_›
          go_wp2
          refine sall (by kernel_rfl) (by kernel_rfl) (fun Kq hKq => ?_)
          repeat still_step
          refine wpStill_nil (hKq _ ?_)
          clear hKq Kq
          go_wp2
          go_ret
          exact ⟨by rw [decide_eq_false (ne_of_get HX.out HY.out HN.out)]; rfl, hbw.drew⟩
        obtain rfl := e3
        go_wp2
        refine sall (by kernel_rfl) (by kernel_rfl) (fun Kq hKq => ?_)
        repeat still_step
        refine wpStill_nil (hKq _ ?_)
        clear hKq Kq
        go_wp2
        go_roundw
        case rel => exact ⟨k + 1, by omega, by go_num, eq_step HE.out HX.out HY.out, hbw.drew⟩
        case measure => simp [intOf]; omega
      · obtain rfl : k = xs.length := by omega
        go_wp2
        go_ret
        exact ⟨by rw [decide_eq_true (eq_done HL.out HE.out)]; rfl, hbw⟩
  · have hd : ((xs.length : Int) != (ys.length : Int)) = true := by simp; omega
    have hne : decide (xs = ys) = false := decide_eq_false (fun h => hl (by rw [h]))
    rw [hne]
    clear hl hne
    go_enter Try.func63, Try.ntmps63
    go_wp2
    go_ret
    exact ⟨rfl, Below.refl _ _⟩
end Go.Proofs.Ytlnonadkdonhmaa

/- Memory that a call keeps: frames, blocks that are known whole, maps. -/
namespace Go.Proofs.Ytlnonadkdonhmaa
open Go.RowKit Go.Maps
open Go.ChangeMaps (setBlock)

/-- w' is w, but for the blocks in S, and for new ones. -/
structure Frame (S : Nat → Prop) (w w' : World) : Prop where
  os : w'.os = w.os
  tape : w'.tape = w.tape
  output : w'.output = w.output
  size : w.heap.size ≤ w'.heap.size
  block : ∀ k, k < w.heap.size → ¬ S k → w'.heap[k]? = w.heap[k]?

section
variable {S T : Nat → Prop} {w w' w'' : World}
theorem Frame.refl (S : Nat → Prop) (w : World) : Frame S w w := ⟨rfl, rfl, rfl, Nat.le_refl _, fun _ _ _ => rfl⟩
theorem Frame.trans (h : Frame S w w') (k : Frame T w' w'') (hT : ∀ b, b < w.heap.size → T b → S b) : Frame S w w'' :=
  ⟨k.os.trans h.os, k.tape.trans h.tape, k.output.trans h.output, Nat.le_trans h.size k.size, fun b hb hn => (k.block b (Nat.lt_of_lt_of_le hb h.size) (fun ht => hn (hT b hb ht))).trans (h.block b hb hn)⟩
theorem Frame.mono (h : Frame S w w') (hS : ∀ b, b < w.heap.size → S b → T b) : Frame T w w' :=
  ⟨h.os, h.tape, h.output, h.size, fun b hb hn => h.block b hb (fun hs => hn (hS b hb hs))⟩
theorem Frame.of_below {B : Nat} (h : Below B w w') : Frame (fun k => B ≤ k) w w' := ⟨h.os, h.tape, h.output, h.size, fun k _ hn => h.block k (by omega)⟩
theorem Frame.of_all (h : Below w.heap.size w w') : Frame S w w' := ⟨h.os, h.tape, h.output, h.size, fun k hk _ => h.block k hk⟩
theorem Frame.of_grown {row : Option Nat} (h : w.grownBy w' row) : Frame (fun k => row = some k) w w' := ⟨h.os, h.tape, h.output, h.size, fun k hk hn => h.block k hk (fun e => hn e.symm)⟩
theorem Frame.alloc (h : Frame S w w') (o : Obj) : Frame S w (w'.alloc o) :=
  ⟨h.os, h.tape, h.output, Nat.le_trans h.size (by simp), fun k hk hn => (Below.heap_alloc w' o k (Nat.lt_of_lt_of_le hk h.size)).trans (h.block k hk hn)⟩
theorem Frame.setCell (h : Frame S w w') {p : Addr} (hp : S p.block ∨ w.heap.size ≤ p.block) (u : Value) : Frame S w (w'.setCell p u) :=
  ⟨h.os, h.tape, h.output, by simpa [World.setCell] using h.size, fun k hk hn => (Below.heap_setCell w' p u k (by rintro rfl; rcases hp with hp | hp; exact hn hp; omega)).trans (h.block k hk hn)⟩
theorem Frame.drew (h : Frame S w w') : Frame S w w'.drew := ⟨h.os, h.tape, h.output, h.size, h.block⟩
theorem Frame.below (h : Frame S w w') {B : Nat} (hS : ∀ b, S b → B ≤ b) (hB : B ≤ w.heap.size) : Below B w w' :=
  ⟨h.os, h.tape, h.output, h.size, fun k hk => h.block k (by omega) (fun hs => by have := hS k hs; omega)⟩

theorem Cells.frame {A : Option Addr} {cs : List Value} (h : Cells w A cs) (hf : Frame S w w') (hne : cs ≠ [] → ∀ a, A = some a → ¬ S a.block) : Cells w' A cs := by
  obtain ⟨hl, b, off, hb0, hA, hc⟩ := h
  refine ⟨hl, b, off, by have := hf.size; omega, fun hn => ⟨(hA hn).1, by have := (hA hn).2; have := hf.size; omega⟩, fun k v hk => ?_⟩
  have hn : cs ≠ [] := by rintro rfl; simp at hk
  have hh : w'.heap[b]? = w.heap[b]? := hf.block b (hA hn).2 (by simpa using hne hn _ (hA hn).1)
  exact (World.cell?_of_block (w := w) (w' := w') (a := ⟨b, off + k, none⟩) hh).trans (hc k v hk)
end

/-- The block b is just this. -/
def Blk (w : World) (b : Nat) (o : Obj) : Prop := w.heap[b]? = some o
section
variable {S : Nat → Prop} {w w' : World} {b : Nat} {o : Obj}
theorem Blk.lt (h : Blk w b o) : b < w.heap.size := by
  rcases Nat.lt_or_ge b w.heap.size with hlt | hge
  · exact hlt
  · unfold Blk at h; rw [Array.getElem?_eq_none hge] at h; cases h
theorem Blk.frame (h : Blk w b o) (hf : Frame S w w') (hn : ¬ S b) : Blk w' b o := (hf.block b h.lt hn).trans h
theorem Blk.below {B : Nat} (h : Blk w b o) (hf : Below B w w') (hb : b < B) : Blk w' b o := (hf.block b hb).trans h
theorem Blk.alloc (h : Blk w b o) (x : Obj) : Blk (w.alloc x) b o := (Below.heap_alloc w x b h.lt).trans h
theorem Blk.new (w : World) (o : Obj) : Blk (w.alloc o) w.heap.size o := World.alloc_heap_new w o
theorem Blk.drew (h : Blk w b o) : Blk w.drew b o := h
theorem Blk.far (h : Blk w b o) {p : Addr} (hp : b ≠ p.block) (u : Value) : Blk (w.setCell p u) b o := (Below.heap_setCell w p u b hp).trans h
theorem Blk.grown {row : Option Nat} (h : Blk w b o) (hg : w.grownBy w' row) (hn : row ≠ some b) : Blk w' b o := (hg.block b h.lt (fun e => hn e.symm)).trans h
variable {cs : Array Value} {t : TypeId}
theorem Blk.cell (h : Blk w b (.cells cs t)) (i : Nat) {v : Value} (hi : cs[i]? = some v) : w.cell? ⟨b, i, none⟩ = some v := by
  unfold Blk at h; simp only [World.cell?, h]; simpa using hi
theorem Blk.free (h : Blk w b (.cells cs t)) (i : Nat) : w.frozen? ⟨b, i, none⟩ = false := by
  unfold Blk at h; simp [World.frozen?, h]
theorem Blk.set (h : Blk w b (.cells cs t)) (i : Nat) (u : Value) : Blk (w.setCell ⟨b, i, none⟩ u) b (.cells (cs.setIfInBounds i u) t) := by
  unfold Blk at h ⊢; simp [World.setCell, Array.getElem?_modify, h]
theorem Blk.set1 {v : Value} (h : Blk w b (.cells #[v] t)) (u : Value) : Blk (w.setCell ⟨b, 0, none⟩ u) b (.cells #[u] t) := h.set 0 u
/-- A row of elements of another type lies elsewhere. -/
theorem own_ne {base : Nat} {e : TypeId} {size n : Nat} {v : Value} {xs : List Value} (hr : w.ownsRow base e size v n xs) (h : Blk w b (.cells cs t)) (hne : e ≠ t) : v.ownBlock ≠ some b := by
  rcases hr.2 with ⟨rfl, _⟩ | ⟨g, cap, cur, rfl, _, hh, _⟩
  · simp [Value.ownBlock]
  · intro he
    have hg : g = b := by simpa [Value.ownBlock] using he
    subst hg
    unfold Blk at h
    rw [hh] at h
    injection h with h
    injection h with _ ht
    exact hne ht
theorem own_ne_map {base : Nat} {e : TypeId} {size n : Nat} {v : Value} {xs : List Value} {es : Array MapEntry} {c : Nat} (hr : w.ownsRow base e size v n xs) (h : Blk w b (.map es c)) : v.ownBlock ≠ some b := by
  rcases hr.2 with ⟨rfl, _⟩ | ⟨g, cap, cur, rfl, _, hh, _⟩
  · simp [Value.ownBlock]
  · intro he
    have hg : g = b := by simpa [Value.ownBlock] using he
    subst hg
    unfold Blk at h
    rw [hh] at h
    cases h
theorem own_frame {base : Nat} {e : TypeId} {size n : Nat} {v : Value} {xs : List Value} (hr : w.ownsRow base e size v n xs) (hf : Frame S w w') (hn : ∀ g, v.ownBlock = some g → ¬ S g) : w'.ownsRow base e size v n xs := by
  refine ⟨hr.1, ?_⟩
  rcases hr.2 with h0 | ⟨g, cap, cur, hv, hb, hh, h1, h2, h3, h4⟩
  · exact .inl h0
  · refine .inr ⟨g, cap, cur, hv, hb, ?_, h1, h2, h3, h4⟩
    have hlt : g < w.heap.size := Blk.lt (o := .cells cur e) hh
    exact (hf.block g hlt (hn g (by subst hv; rfl))).trans hh
end

/-! ### maps -/
/-- The block b is a map with these entries, each key once. -/
def MapIs (P : Program) (kt : TypeId) (w : World) (b : Nat) (m : List (Value × Value)) : Prop :=
  ∃ es clock, Blk w b (.map es clock) ∧ es.toList.map (fun e => (e.key, e.val)) = m ∧ (∀ p ∈ m, ∃ l, keyOf P kt p.1 = some l) ∧ (m.map (·.1)).Nodup
section
variable {P : Program} {kt : TypeId} {w w' : World} {b : Nat} {m : List (Value × Value)} {S : Nat → Prop}
theorem MapIs.frame (h : MapIs P kt w b m) (hf : Frame S w w') (hn : ¬ S b) : MapIs P kt w' b m := by
  obtain ⟨es, c, hb, r⟩ := h
  exact ⟨es, c, hb.frame hf hn, r⟩
theorem MapIs.lt (h : MapIs P kt w b m) : b < w.heap.size := by
  obtain ⟨es, c, hb, _⟩ := h
  exact hb.lt
theorem MapIs.new (P : Program) (kt : TypeId) (w : World) : MapIs P kt (w.alloc (.map #[] 0)) w.heap.size [] := ⟨#[], 0, Blk.new _ _, rfl, by simp, by simp⟩
theorem MapIs.far (h : MapIs P kt w b m) {p : Addr} (hp : b ≠ p.block) (u : Value) : MapIs P kt (w.setCell p u) b m := by
  obtain ⟨es, c, hb, r⟩ := h
  exact ⟨es, c, hb.far hp u, r⟩
theorem MapIs.alloc (h : MapIs P kt w b m) (o : Obj) : MapIs P kt (w.alloc o) b m := by
  obtain ⟨es, c, hb, r⟩ := h
  exact ⟨es, c, hb.alloc o, r⟩
theorem MapIs.not_own {base : Nat} {e : TypeId} {size n : Nat} {v : Value} {xs : List Value} (h : MapIs P kt w b m) (hr : w.ownsRow base e size v n xs) : v.ownBlock ≠ some b := by
  obtain ⟨es, c, hb, _⟩ := h
  exact own_ne_map hr hb
theorem MapIs.not_blk {b' : Nat} {cs : Array Value} {t : TypeId} (h : MapIs P kt w b m) (hb' : Blk w b' (.cells cs t)) : b ≠ b' := by
  rintro rfl
  obtain ⟨es, c, hb, _⟩ := h
  unfold Blk at hb hb'
  rw [hb] at hb'; cases hb'

theorem nodup_val {m : List (Value × Value)} (h : (m.map (·.1)).Nodup) {k u v : Value} (hu : (k, u) ∈ m) (hv : (k, v) ∈ m) : u = v := by
  induction m with
  | nil => cases hu
  | cons p r ih =>
    rw [List.map_cons, List.nodup_cons] at h
    rcases List.mem_cons.1 hu with e1 | h1 <;> rcases List.mem_cons.1 hv with e2 | h2
    · rw [← e1] at e2; injection e2 with _ e; exact e.symm
    · exact absurd (List.mem_map.2 ⟨_, h2, by rw [← e1]⟩) h.1
    · exact absurd (List.mem_map.2 ⟨_, h1, by rw [← e2]⟩) h.1
    · exact ih h.2 h1 h2

theorem entries_keys (h : ∀ p ∈ m, ∃ l, keyOf P kt p.1 = some l) {es : Array MapEntry} (he : es.toList.map (fun e => (e.key, e.val)) = m) : ∀ e ∈ es.toList, ∃ l, keyOf P kt e.key = some l := by
  intro e hm
  exact h (e.key, e.val) (by rw [← he]; exact List.mem_map_of_mem hm)

theorem MapIs.look_no {t et : TypeId} (K : Keyed P kt) (ht : P.underlying t = some (.map kt et)) (h : MapIs P kt w b m) {k : Value} {l : Lit} (hk : keyOf P kt k = some l) (hno : ∀ p ∈ m, p.1 ≠ k) {z : Value} (hz : (zeroValue et).run P w = .ok z w) (ok : Bool) :
    (Instr.lookup t (.map (some b)) k ok).run P w = .ok (if ok then .tuple #[z, .bool false] else z) w := by
  obtain ⟨es, c, hb, he, hks, hnd⟩ := h
  rcases K.find w hk es.toList (entries_keys hks he) with ⟨hr, _⟩ | ⟨j, e, hr, hj, hek⟩
  · simp [Instr.lookup, run_underlying ht, MapKept.run_getObj_map hb, K.check w _ hk, hr, hz, Result.andThen]
  · exact absurd hek (hno (e.key, e.val) (by rw [← he]; exact List.mem_map.2 ⟨e, List.mem_of_getElem? hj, rfl⟩))

theorem MapIs.look_yes {t et : TypeId} (K : Keyed P kt) (ht : P.underlying t = some (.map kt et)) (h : MapIs P kt w b m) {k v : Value} {l : Lit} (hk : keyOf P kt k = some l) (hin : (k, v) ∈ m) (ok : Bool) :
    (Instr.lookup t (.map (some b)) k ok).run P w = .ok (if ok then .tuple #[v, .bool true] else v) w := by
  obtain ⟨es, c, hb, he, hks, hnd⟩ := h
  have hin' := hin
  rw [← he] at hin'
  obtain ⟨e0, he0, hkv⟩ := List.mem_map.1 hin'
  rcases K.find w hk es.toList (entries_keys hks he) with ⟨_, hn⟩ | ⟨j, e, hr, hj, hek⟩
  · exact absurd (by injection hkv) (hn e0 he0)
  · have hv : e.val = v := by
      have hm : (e.key, e.val) ∈ m := by rw [← he]; exact List.mem_map.2 ⟨e, List.mem_of_getElem? hj, rfl⟩
      rw [hek] at hm
      exact nodup_val hnd hm hin
    subst hv
    simp [Instr.lookup, run_underlying ht, MapKept.run_getObj_map hb, K.check w _ hk, hr, Result.andThen]

theorem MapIs.put_new {t et : TypeId} (K : Keyed P kt) (ht : P.underlying t = some (.map kt et)) (h : MapIs P kt w b m) {k v : Value} {l : Lit} (hk : keyOf P kt k = some l) (hno : ∀ p ∈ m, p.1 ≠ k) :
    ∃ w', (Instr.mapUpdate t (.map (some b)) k v).run P w = .ok () w' ∧ MapIs P kt w' b (m ++ [(k, v)]) ∧ w.grownBy w' (some b) := by
  obtain ⟨es, c, hb, he, hks, hnd⟩ := h
  rcases K.find w hk es.toList (entries_keys hks he) with ⟨hr, _⟩ | ⟨j, e, hr, hj, hek⟩
  · refine ⟨setBlock w b (.map (es.push ⟨k, v, c⟩) (c + 1)), ?_, ⟨es.push ⟨k, v, c⟩, c + 1, ?_, ?_, ?_, ?_⟩, ?_⟩
    · simp [Instr.mapUpdate, run_underlying ht, MapKept.run_getObj_map hb, K.check w false hk, hr, MapKept.run_setObj_map _ hb, Result.andThen, setBlock]
    · have hlt := hb.lt
      show (w.heap.setIfInBounds b _)[b]? = _
      simp [hlt]
    · simp [he]
    · intro p hp
      rcases List.mem_append.1 hp with hp | hp
      · exact hks p hp
      · simp at hp; subst hp; exact ⟨l, hk⟩
    · rw [List.map_append, List.nodup_append]
      refine ⟨hnd, by simp, ?_⟩
      intro x hx y hy
      simp at hy
      subst hy
      obtain ⟨p, hp, rfl⟩ := List.mem_map.1 hx
      exact hno p hp
    · exact ⟨rfl, rfl, rfl, by simp [setBlock], fun i hi hne => by
        show (w.heap.setIfInBounds b _)[i]? = _
        rw [Array.getElem?_setIfInBounds, if_neg (by rintro rfl; exact hne rfl)]⟩
  · exact absurd hek (hno (e.key, e.val) (by rw [← he]; exact List.mem_map.2 ⟨e, List.mem_of_getElem? hj, rfl⟩))
end
end Go.Proofs.Ytlnonadkdonhmaa

/- Regions that draw their order, by steps: operations that read, stable under all the region does, may come first; the others come one by one. -/
namespace Go.Proofs.Ytlnonadkdonhmaa
open Go.RowKit

section
variable {P : Program} {ops : Array Oper} {md : Region.Mode} {I : World → Prop} {Q : Act → World → Prop}

/-- One operation, which ends normally. -/
def opQ (P : Program) (ops : Array Oper) (o : Oper) (K : Act → World → Prop) (a : Act) (w : World) : Prop :=
  if Region.wanted o (yielded ops a.tmps) then o.wp P a w K (fun _ _ _ => False) else K (a.put o.dst undef) w

theorem opQ_mono {o : Oper} {K K' : Act → World → Prop} {a : Act} {w : World} (h : ∀ a w, K a w → K' a w) (hh : opQ P ops o K a w) : opQ P ops o K' a w := by
  unfold opQ at *
  split
  · rename_i hw; simp only [hw, if_true] at hh; exact Oper.wp_mono h hh
  · rename_i hw; simp only [hw] at hh; exact h _ _ hh

/-- All orders of what is left; the worlds on the way are all in I. -/
def anyI (P : Program) (md : Region.Mode) (ops : Array Oper) (I : World → Prop) (Q : Act → World → Prop) : Nat → Array Bool → Act → World → Prop
  | 0, listed, a, w => I w ∧ Region.ready md ops listed = [] ∧ Q a w
  | f + 1, listed, a, w => I w ∧ Region.ready md ops listed ≠ [] ∧ ∀ i ∈ Region.ready md ops listed, ∃ o, ops[i]? = some o ∧ opQ P ops o (anyI P md ops I Q f (listed.setIfInBounds i true)) a w

theorem anyI_in : ∀ {f : Nat} {listed : Array Bool} {a : Act} {w : World}, anyI P md ops I Q f listed a w → I w
  | 0, _, _, _, h => h.1
  | _ + 1, _, _, _, h => h.1

theorem wp_mono_q {o : Oper} {K : Act → World → Prop} {a : Act} {w : World} {Q' : Exit → Act → World → Prop} (hh : o.wp P a w K (fun _ _ _ => False)) : o.wp P a w K Q' := by
  unfold Oper.wp at *
  generalize (execOp a.eval o).run P w = r at *
  cases r with
  | ok n w' =>
    cases n <;> simp only [Oper.upon] at hh ⊢ <;>
      first
        | exact hh
        | exact Calls.mono hh (fun e w'' he => by
            cases e
            · exact he
            · exact he.elim
            · obtain ⟨_, _, h⟩ := he; exact h.elim)
  | halt x w' =>
    cases x <;> simp only [Oper.upon] at hh ⊢

theorem any_of_anyI {Q' : Exit → Act → World → Prop} (hQ : ∀ a w, Q a w → Q' .normal a w) : ∀ (f : Nat) (listed : Array Bool) (a : Act) (w : World), anyI P md ops I Q f listed a w → wpAny P md ops Q' f listed a w
  | 0, _, _, _, h => ⟨h.2.1, hQ _ _ h.2.2⟩
  | f + 1, _, _, _, h => by
    refine ⟨fun h0 => absurd h0 h.2.1, fun i hi => ?_⟩
    obtain ⟨o, ho, hop⟩ := h.2.2 i hi
    have h2 := opQ_mono (fun a w h => any_of_anyI hQ f _ a w h) hop
    unfold wpOp
    simp only [ho]
    unfold opQ at h2
    split
    · rename_i hw; simp only [hw, if_true] at h2; exact .inl (wp_mono_q h2)
    · rename_i hw; simp only [hw] at h2; exact h2

theorem yields_opQ {o : Oper} {v : Value} {a : Act} {w : World} (hy : YieldsAt P ops w o v a) {K : Act → World → Prop} (h : K (a.put o.dst v) w) : opQ P ops o K a w := by
  unfold opQ
  rcases hy with ⟨hw, hv | ⟨hv, rfl⟩ | ⟨f, args, hv, hc⟩⟩ | ⟨hw, rfl⟩
  · simp only [hw, if_true, Oper.wp, hv, Oper.upon]; exact h
  · simp only [hw, if_true, Oper.wp, hv, Oper.upon]; exact h
  · simp only [hw, if_true, Oper.wp, hv, Oper.upon]
    exact hc.mono fun e w'' ⟨he, hw⟩ => by subst he; subst hw; exact h
  · simp only [hw]; exact h

theorem opQ_put {oi oj : Oper} {v : Value} (hap : oi.apart ops oj = true)
    (hsi : ∀ cs b, oi.op ≠ .select cs b) (hsj : ∀ cs b, oj.op ≠ .select cs b) {K : Act → World → Prop} {a : Act} {w : World}
    (hy : ∀ w, I w → YieldsAt P ops w oi v a) (h : opQ P ops oj K (a.put oi.dst v) w) :
    opQ P ops oj (fun a' w' => (∀ w, I w → YieldsAt P ops w oi v a') ∧ K (a'.put oi.dst v) w') a w := by
  obtain ⟨h1, h2, h3⟩ := Oper.apart_spec hap
  have keep : ∀ (a : Act), (∀ w, I w → YieldsAt P ops w oi v a) → ∀ u, ∀ w, I w → YieldsAt P ops w oi v (a.put oj.dst u) := fun a hy u w hw =>
    (hy w hw).of_same (execOp_put oi hsi a oj.dst u h3) (wanted_put oi a oj.dst u h3)
  have keepD : ∀ d, ∀ w, I w → YieldsAt P ops w oi v { a with defers := d :: a.defers } := fun d w hw => (hy w hw).of_same rfl rfl
  unfold opQ at *
  rw [wanted_put oj a oi.dst v h1] at h
  split
  · rename_i hw
    simp only [hw, if_true] at h
    unfold Oper.wp at *
    rw [execOp_put oj hsj a oi.dst v h1] at h
    generalize (execOp a.eval oj).run P w = r at *
    cases r with
    | ok n w' =>
      cases n <;> simp only [Oper.upon] at h ⊢
      case value u => exact ⟨keep a hy u, by rw [← Act.put_comm a v u h2]; exact h⟩
      case skip => exact ⟨keep a hy _, by rw [← Act.put_comm a v undef h2]; exact h⟩
      case defer d =>
        refine ⟨keep _ (keepD d) _, ?_⟩
        rw [← Act.put_comm _ v undef h2, ← Act.put_defers]
        exact h
      case enter f args =>
        refine Calls.mono h fun e w'' he => ?_
        cases e with
        | returned u => exact ⟨keep a hy u, by rw [← Act.put_comm a v u h2]; exact he⟩
        | panicked c => exact he
        | outgrown => exact he
      case row row args => exact Rows.mono h fun u w'' he => ⟨keep a hy u, by rw [← Act.put_comm a v u h2]; exact he⟩
    | halt x w' => cases x <;> simp only [Oper.upon] at h ⊢
  · rename_i hw
    simp only [hw] at h
    exact ⟨keep a hy _, by rw [← Act.put_comm a v undef h2]; exact h⟩

theorem anyI_first {i : Nat} {oi : Oper} {v : Value} (hi : ops[i]? = some oi) (hsel : ∀ (j : Nat) (o : Oper) cs b, ops[j]? = some o → o.op ≠ .select cs b) :
    ∀ (f : Nat) (listed : Array Bool) (a : Act) (w : World),
      (∀ j oj, ops[j]? = some oj → j ≠ i → listed.getD j true = false → (∀ e ∈ oj.after, Region.binds md e = true → e.on ≠ i) → oi.apart ops oj = true) →
      i ∈ Region.ready md ops listed → (∀ w, I w → YieldsAt P ops w oi v a) →
      anyI P md ops I Q f (listed.setIfInBounds i true) (a.put oi.dst v) w → anyI P md ops I Q (f + 1) listed a w := by
  intro f
  induction f with
  | zero =>
    intro listed a w hfree hr hy H
    refine ⟨H.1, fun h => (by rw [h] at hr; cases hr), fun j hj => ?_⟩
    by_cases hji : j = i
    · subst hji; exact ⟨oi, hi, yields_opQ (hy w H.1) H⟩
    · have := ready_mono hj hji
      rw [H.2.1] at this
      cases this
  | succ f ih =>
    intro listed a w hfree hr hy H
    refine ⟨H.1, fun h => (by rw [h] at hr; cases hr), fun j hj => ?_⟩
    by_cases hji : j = i
    · subst hji; exact ⟨oi, hi, yields_opQ (hy w H.1) H⟩
    · obtain ⟨oj', hoj', h1⟩ := H.2.2 j (ready_mono hj hji)
      obtain ⟨hjun, oj, hoj, hall⟩ := mem_ready.1 hj
      obtain rfl : oj' = oj := Option.some.inj (hoj'.symm.trans hoj)
      have hnot : ∀ e ∈ oj'.after, Region.binds md e = true → e.on ≠ i := fun e he hb heq => by
        have h1 := hall e he hb
        have h0 := (mem_ready.1 hr).1
        rw [heq, getD_both h0] at h1
        cases h1
      have h2 := opQ_put (I := I) (hfree j oj' hoj hji hjun hnot) (fun cs b => hsel i oi cs b hi) (fun cs b => hsel j oj' cs b hoj) hy h1
      have hfree' : ∀ k ok, ops[k]? = some ok → k ≠ i → (listed.setIfInBounds j true).getD k true = false →
          (∀ e ∈ ok.after, Region.binds md e = true → e.on ≠ i) → oi.apart ops ok = true := fun k ok hk hki hun hno => by
        refine hfree k ok hk hki ?_ hno
        by_cases hjk : j = k
        · subst hjk; exact hjun
        · rw [getD_set_ne true hjk] at hun; exact hun
      refine ⟨oj', hoj, opQ_mono (fun a' w' h3 => ih (listed.setIfInBounds j true) a' w' hfree' (ready_mono hr (Ne.symm hji)) h3.1 ?_) h2⟩
      rw [Array.setIfInBounds_comm _ _ hji]
      exact h3.2

/-- Some operations that read, in a given order of their numbers. -/
def stillOk (md : Region.Mode) (ops : Array Oper) : List Nat → Array Bool → Bool
  | [], _ => true
  | k :: ks, listed => (Region.ready md ops listed).contains k && Region.free md ops listed k && stillOk md ops ks (listed.setIfInBounds k true)
def listAll : List Nat → Array Bool → Array Bool
  | [], l => l
  | k :: ks, l => listAll ks (l.setIfInBounds k true)

/-- The same operations read to the same act in all worlds in I. -/
def wpSame (P : Program) (ops : Array Oper) (I : World → Prop) (K : Act → Prop) : List Oper → Act → Prop
  | [], a => K a
  | o :: rest, a => ∃ v, (∀ w, I w → YieldsAt P ops w o v a) ∧ wpSame P ops I K rest (a.put o.dst v)

theorem anyI_same (hsel : Region.noSelect ops = true) : ∀ (ks : List Nat) (l : List Oper) (f : Nat) (listed : Array Bool) (a : Act) (w : World), ks.map (ops[·]?) = l.map some →
    stillOk md ops ks listed = true → wpSame P ops I (fun a' => anyI P md ops I Q f (listAll ks listed) a' w) l a → anyI P md ops I Q (f + ks.length) listed a w
  | [], [], _, _, _, _, _, _, h => h
  | [], _ :: _, _, _, _, _, hl, _, _ => by simp at hl
  | _ :: _, [], _, _, _, _, hl, _, _ => by simp at hl
  | k :: ks, o :: l, f, listed, a, w, hl, hB, ⟨v, hy, h⟩ => by
    simp only [List.map_cons, List.cons.injEq] at hl
    simp only [stillOk, Bool.and_eq_true] at hB
    obtain ⟨⟨hr, hf⟩, hB'⟩ := hB
    exact anyI_first hl.1 (Region.noSelect_spec hsel) (f + ks.length) listed a w (Region.free_spec hl.1 hf) (by simpa using hr) hy
      (anyI_same hsel ks l f _ _ w hl.2 hB' h)

theorem same_step {K : Act → Prop} {o : Oper} {rest : List Oper} {a : Act} (v : Value) (hw : Region.wanted o (yielded ops a.tmps) = true) (h : ∀ w, I w → (execOp a.eval o).run P w = .ok (.value v) w)
    (hr : wpSame P ops I K rest (a.put o.dst v)) : wpSame P ops I K (o :: rest) a :=
  ⟨v, fun w hI => .inl ⟨hw, .inl (h w hI)⟩, hr⟩
theorem same_skip {K : Act → Prop} {o : Oper} {rest : List Oper} {a : Act} (hw : Region.wanted o (yielded ops a.tmps) = true) (h : ∀ w, I w → (execOp a.eval o).run P w = .ok .skip w)
    (hr : wpSame P ops I K rest (a.put o.dst undef)) : wpSame P ops I K (o :: rest) a :=
  ⟨undef, fun w hI => .inl ⟨hw, .inr (.inl ⟨h w hI, rfl⟩)⟩, hr⟩
theorem same_off {K : Act → Prop} {o : Oper} {rest : List Oper} {a : Act} (hw : Region.wanted o (yielded ops a.tmps) = false) (hr : wpSame P ops I K rest (a.put o.dst undef)) : wpSame P ops I K (o :: rest) a :=
  ⟨undef, fun _ _ => .inr ⟨hw, rfl⟩, hr⟩
theorem same_call {K : Act → Prop} {o : Oper} {rest : List Oper} {a : Act} (v : Value) {F : FuncId} {args : Array Value} (hw : Region.wanted o (yielded ops a.tmps) = true)
    (h : ∀ w, I w → (execOp a.eval o).run P w = .ok (.enter F args) w) (hc : ∀ w, I w → Calls P F args w (fun e w'' => e = .returned v ∧ w'' = w))
    (hr : wpSame P ops I K rest (a.put o.dst v)) : wpSame P ops I K (o :: rest) a :=
  ⟨v, fun w hI => .inl ⟨hw, .inr (.inr ⟨F, args, h w hI, hc w hI⟩)⟩, hr⟩

theorem lets_no {Q' : Act → World → Prop} (h : LetsOut (fun e a w => e = .normal ∧ Q' a w)) : False := by
  obtain ⟨a, w, h, _⟩ := h; cases h

/-- One operation, the only one that is ready. -/
theorem anyI_one (i : Nat) {o : Oper} {f : Nat} {listed : Array Bool} {a : Act} {w : World} (hi : ops[i]? = some o) (hr : Region.ready md ops listed = [i]) (hI : I w)
    (h : ∀ K : Act → World → Prop, (∀ a' w', anyI P md ops I Q f (listed.setIfInBounds i true) a' w' → K a' w') → wpList P ops (fun e a' w' => e = .normal ∧ K a' w') [o] a w) : anyI P md ops I Q (f + 1) listed a w := by
  refine ⟨hI, by rw [hr]; simp, fun j hj => ?_⟩
  rw [hr] at hj
  obtain rfl : j = i := by simpa using hj
  refine ⟨o, hi, ?_⟩
  have h1 := h _ fun _ _ h => h
  unfold wpList at h1
  unfold opQ
  split
  · rename_i hw
    simp only [hw, if_true] at h1
    rcases h1 with h1 | h1
    · unfold Oper.wp at *
      generalize (execOp a.eval o).run P w = r at *
      cases r with
      | ok n w' =>
        cases n <;> simp only [Oper.upon, wpList] at h1 ⊢
        case enter F args =>
          refine Calls.mono h1 fun e w'' he => ?_
          cases e with
          | returned u => exact he.2
          | panicked c => cases he.1
          | outgrown => exact (lets_no he).elim
        case row row args => exact Rows.mono h1 fun u w'' he => he.2
        all_goals exact h1.2
      | halt x w' =>
        cases x <;> simp only [Oper.upon] at h1 ⊢
        cases h1.1
    · exact (lets_no h1.2).elim
  · rename_i hw
    simp only [hw] at h1
    simp only [wpList] at h1
    exact h1.2

/-- Two operations are ready. -/
theorem anyI_two (i j : Nat) {o o' : Oper} {f : Nat} {listed : Array Bool} {a : Act} {w : World} (hi : ops[i]? = some o) (hj : ops[j]? = some o') (hr : Region.ready md ops listed = [i, j]) (hI : I w)
    (h1 : opQ P ops o (anyI P md ops I Q f (listed.setIfInBounds i true)) a w) (h2 : opQ P ops o' (anyI P md ops I Q f (listed.setIfInBounds j true)) a w) : anyI P md ops I Q (f + 1) listed a w := by
  refine ⟨hI, by rw [hr]; simp, fun k hk => ?_⟩
  rw [hr] at hk
  simp at hk
  rcases hk with rfl | rfl
  · exact ⟨o, hi, h1⟩
  · exact ⟨o', hj, h2⟩

theorem opQ_of_list {o : Oper} {K : Act → World → Prop} {a : Act} {w : World} (h : ∀ K' : Act → World → Prop, (∀ a w, K a w → K' a w) → wpList P ops (fun e a' w' => e = .normal ∧ K' a' w') [o] a w) : opQ P ops o K a w := by
  have h1 := h _ fun _ _ h => h
  unfold wpList at h1
  unfold opQ
  split
  · rename_i hw
    simp only [hw, if_true] at h1
    rcases h1 with h1 | h1
    · unfold Oper.wp at *
      generalize (execOp a.eval o).run P w = r at *
      cases r with
      | ok n w' =>
        cases n <;> simp only [Oper.upon, wpList] at h1 ⊢
        case enter F args =>
          refine Calls.mono h1 fun e w'' he => ?_
          cases e with
          | returned u => exact he.2
          | panicked c => cases he.1
          | outgrown => exact (lets_no he).elim
        case row row args => exact Rows.mono h1 fun u w'' he => he.2
        all_goals exact h1.2
      | halt x w' =>
        cases x <;> simp only [Oper.upon] at h1 ⊢
        cases h1.1
    · exact (lets_no h1.2).elim
  · rename_i hw
    simp only [hw] at h1
    simp only [wpList] at h1
    exact h1.2

/-- The end: nothing is left. -/
theorem anyI_end {listed : Array Bool} {a : Act} {w : World} (hr : (Region.ready md ops listed).isEmpty = true) (hI : I w) (h : Q a w) : anyI P md ops I Q 0 listed a w :=
  ⟨hI, by simpa using hr, h⟩

/-- What an operation that reads yields. -/
def stillUponV (P : Program) (w : World) (K : Value → Prop) : Result Next → Prop
  | .ok (.value v) w' => w' = w ∧ K v
  | .ok .skip w' => w' = w ∧ K undef
  | .ok (.enter f args) w' => w' = w ∧ ∃ v, Calls P f args w (fun e w'' => e = .returned v ∧ w'' = w) ∧ K v
  | _ => False
def stillV (P : Program) (ops : Array Oper) (o : Oper) (a : Act) (w : World) (K : Value → Prop) : Prop :=
  if Region.wanted o (yielded ops a.tmps) then stillUponV P w K ((execOp a.eval o).run P w) else K undef

theorem yields_of_stillV {o : Oper} {a : Act} {w : World} {v : Value} (h : ∀ K : Value → Prop, K v → stillV P ops o a w K) : YieldsAt P ops w o v a := by
  have h1 := h (fun u => u = v) rfl
  unfold stillV at h1
  unfold YieldsAt
  by_cases hw : Region.wanted o (yielded ops a.tmps) = true
  · simp only [hw, if_true] at h1
    refine .inl ⟨hw, ?_⟩
    generalize hr : (execOp a.eval o).run P w = r at h1
    cases r with
    | ok n w' =>
      cases n <;> simp only [stillUponV] at h1
      case value u => obtain ⟨rfl, rfl⟩ := h1; exact .inl rfl
      case skip => obtain ⟨rfl, rfl⟩ := h1; exact .inr (.inl ⟨rfl, rfl⟩)
      case enter f args => obtain ⟨rfl, u, hc, rfl⟩ := h1; exact .inr (.inr ⟨f, args, rfl, hc⟩)
    | halt x w' => simp only [stillUponV] at h1
  · simp only [hw] at h1
    exact .inr ⟨by simpa using hw, h1.symm⟩

def stepOk (md : Region.Mode) (ops : Array Oper) (i : Nat) (listed : Array Bool) : Bool := Region.noSelect ops && (Region.ready md ops listed).contains i && Region.free md ops listed i

/-- One operation that reads comes first. -/
theorem anyI_step {l : List Oper} (i : Nat) {oi : Oper} {v : Value} {f : Nat} {listed : Array Bool} {a : Act} {w : World} (hi : l[i]? = some oi) (hB : stepOk md l.toArray i listed = true)
    (h1 : ∀ w', I w' → ∀ K : Value → Prop, K v → stillV P l.toArray oi a w' K)
    (h2 : ∀ K : Act → Prop, (∀ a', anyI P md l.toArray I Q f (listed.setIfInBounds i true) a' w → K a') → K (a.put oi.dst v)) : anyI P md l.toArray I Q (f + 1) listed a w := by
  simp only [stepOk, Bool.and_eq_true] at hB
  have hi' : l.toArray[i]? = some oi := by simpa using hi
  exact anyI_first hi' (Region.noSelect_spec hB.1.1) f listed a w (Region.free_spec hi' hB.2) (by simpa using hB.1.2) (fun w' hI => yields_of_stillV (h1 w' hI)) (h2 _ fun _ h => h)

theorem anyI_one' {l : List Oper} (i : Nat) {o : Oper} {f : Nat} {listed : Array Bool} {a : Act} {w : World} (hi : l[i]? = some o) (hr : Region.ready md l.toArray listed = [i]) (hI : I w)
    (h : ∀ K : Act → World → Prop, (∀ a' w', anyI P md l.toArray I Q f (listed.setIfInBounds i true) a' w' → K a' w') → wpList P l.toArray (fun e a' w' => e = .normal ∧ K a' w') [o] a w) : anyI P md l.toArray I Q (f + 1) listed a w :=
  anyI_one i (by simpa using hi) hr hI h

theorem anyI_two' {l : List Oper} (i j : Nat) {o o' : Oper} {f : Nat} {listed : Array Bool} {a : Act} {w : World} (hi : l[i]? = some o) (hj : l[j]? = some o') (hr : Region.ready md l.toArray listed = [i, j]) (hI : I w)
    (h1 : ∀ K : Act → World → Prop, (∀ a' w', anyI P md l.toArray I Q f (listed.setIfInBounds i true) a' w' → K a' w') → wpList P l.toArray (fun e a' w' => e = .normal ∧ K a' w') [o] a w)
    (h2 : ∀ K : Act → World → Prop, (∀ a' w', anyI P md l.toArray I Q f (listed.setIfInBounds j true) a' w' → K a' w') → wpList P l.toArray (fun e a' w' => e = .normal ∧ K a' w') [o'] a w) : anyI P md l.toArray I Q (f + 1) listed a w :=
  anyI_two i j (by simpa using hi) (by simpa using hj) hr hI (opQ_of_list h1) (opQ_of_list h2)

/-- A region that draws its order. -/
theorem draw (I : World → Prop) {id : Nat} {Q : Exit → Act → World → Prop} {a : Act} {w : World} {l : List Oper} (f : Nat) (hf : l.length = f) (hm : P.follows .mixedOrders = true)
    (h : ∀ Q' : Act → World → Prop, (∀ a' w', Q .normal a' w' → Q' a' w') → anyI P .any l.toArray I Q' f (Array.replicate f false) a w.drew) : (Code.region id l.toArray true).wp P Q a w := by
  subst hf
  refine wp_region_any hm ?_
  have := h _ fun _ _ h => h
  have h2 := any_of_anyI (Q' := Q) (fun _ _ h => h) _ _ _ _ this
  simpa using h2
end
attribute [go_sem] stillV stillUponV
end Go.Proofs.Ytlnonadkdonhmaa

/- Regions that draw their order: four operations that may come in any order that the region lets. -/
namespace Go.Proofs.Ytlnonadkdonhmaa
open Go.RowKit

section
variable {P : Program} {ops : Array Oper} {md : Region.Mode} {I : World → Prop} {Q : Act → World → Prop}

/-- In each order that the region lets: m operations, all of them in S, behind which just fin are listed. -/
def phaseOk (md : Region.Mode) (ops : Array Oper) (S : List Nat) (fin : Array Bool) : Nat → Array Bool → Bool
  | 0, l => decide (l = fin)
  | m + 1, l => !(Region.ready md ops l).isEmpty && (Region.ready md ops l).all fun i => S.contains i && phaseOk md ops S fin m (l.setIfInBounds i true)

theorem anyI_phase {Φ : Array Bool → Act → World → Prop} {S : List Nat} {fin : Array Bool} {f : Nat} (hI : ∀ l a w, Φ l a w → I w)
    (hstep : ∀ l a w, Φ l a w → ∀ i, i ∈ S → i ∈ Region.ready md ops l → ∃ o, ops[i]? = some o ∧ opQ P ops o (Φ (l.setIfInBounds i true)) a w)
    (hfin : ∀ a w, Φ fin a w → anyI P md ops I Q f fin a w) :
    ∀ (m : Nat) (l : Array Bool) (a : Act) (w : World), phaseOk md ops S fin m l = true → Φ l a w → anyI P md ops I Q (f + m) l a w
  | 0, l, a, w, hB, h => by
    simp only [phaseOk, decide_eq_true_eq] at hB
    subst hB
    exact hfin a w h
  | m + 1, l, a, w, hB, h => by
    simp only [phaseOk, Bool.and_eq_true, List.all_eq_true] at hB
    refine ⟨hI _ _ _ h, by have := hB.1; intro e; rw [e] at this; simp at this, fun i hi => ?_⟩
    obtain ⟨hS, hB2⟩ := hB.2 i hi
    obtain ⟨o, ho, hq⟩ := hstep l a w h i (by simpa using hS) hi
    exact ⟨o, ho, opQ_mono (fun a' w' h' => anyI_phase hI hstep hfin m _ a' w' hB2 h') hq⟩

def put4 (a : Act) (t1 t2 t3 t4 : Nat) (v1 v2 v3 v4 : Value) : Act := { tmps := (((a.tmps.setIfInBounds t1 v1).setIfInBounds t2 v2).setIfInBounds t3 v3).setIfInBounds t4 v4, defers := a.defers }
theorem set_self (a : Array Value) (t : Nat) : a.setIfInBounds t (a.getD t undef) = a := by
  apply Array.ext
  · simp
  · intro i h1 h2
    rw [Array.getElem_setIfInBounds h2]
    split
    · rename_i h; subst h; simp [Array.getD, h2]
    · rfl
theorem put4_self (a : Act) (t1 t2 t3 t4 : Nat) : put4 a t1 t2 t3 t4 (a.tmps.getD t1 undef) (a.tmps.getD t2 undef) (a.tmps.getD t3 undef) (a.tmps.getD t4 undef) = a := by
  unfold put4
  simp only [set_self]

theorem anyI_phase4 {a0 : Act} {w0 : World} {l : List Oper} (t1 t2 t3 t4 i1 i2 i3 i4 : Nat) (fin : Array Bool) {o1 o2 o3 o4 : Oper} {f : Nat} {l0 : Array Bool} (Ψ : Bool → Bool → Bool → Bool → Value → Value → Value → Value → World → Prop)
    (h1 : l[i1]? = some o1) (h2 : l[i2]? = some o2) (h3 : l[i3]? = some o3) (h4 : l[i4]? = some o4)
    (hne : i1 ≠ i2 ∧ i1 ≠ i3 ∧ i1 ≠ i4 ∧ i2 ≠ i3 ∧ i2 ≠ i4 ∧ i3 ≠ i4)
    (hB : phaseOk md l.toArray [i1, i2, i3, i4] fin 4 l0 = true) (hb0 : l0.getD i1 true = false ∧ l0.getD i2 true = false ∧ l0.getD i3 true = false ∧ l0.getD i4 true = false)
    (hbf : fin.getD i1 true = true ∧ fin.getD i2 true = true ∧ fin.getD i3 true = true ∧ fin.getD i4 true = true)
    (hst : Ψ false false false false (a0.tmps.getD t1 undef) (a0.tmps.getD t2 undef) (a0.tmps.getD t3 undef) (a0.tmps.getD t4 undef) w0)
    (hI : ∀ b1 b2 b3 b4 v1 v2 v3 v4 w, Ψ b1 b2 b3 b4 v1 v2 v3 v4 w → I w)
    (hs1 : ∀ b2 b3 b4 v1 v2 v3 v4 w, Ψ false b2 b3 b4 v1 v2 v3 v4 w → opQ P l.toArray o1 (fun a' w' => ∃ v, a' = put4 a0 t1 t2 t3 t4 v v2 v3 v4 ∧ Ψ true b2 b3 b4 v v2 v3 v4 w') (put4 a0 t1 t2 t3 t4 v1 v2 v3 v4) w)
    (hs2 : ∀ b1 b3 b4 v1 v2 v3 v4 w, Ψ b1 false b3 b4 v1 v2 v3 v4 w → opQ P l.toArray o2 (fun a' w' => ∃ v, a' = put4 a0 t1 t2 t3 t4 v1 v v3 v4 ∧ Ψ b1 true b3 b4 v1 v v3 v4 w') (put4 a0 t1 t2 t3 t4 v1 v2 v3 v4) w)
    (hs3 : ∀ b1 b2 b4 v1 v2 v3 v4 w, Ψ b1 b2 false b4 v1 v2 v3 v4 w → opQ P l.toArray o3 (fun a' w' => ∃ v, a' = put4 a0 t1 t2 t3 t4 v1 v2 v v4 ∧ Ψ b1 b2 true b4 v1 v2 v v4 w') (put4 a0 t1 t2 t3 t4 v1 v2 v3 v4) w)
    (hs4 : ∀ b1 b2 b3 v1 v2 v3 v4 w, Ψ b1 b2 b3 false v1 v2 v3 v4 w → opQ P l.toArray o4 (fun a' w' => ∃ v, a' = put4 a0 t1 t2 t3 t4 v1 v2 v3 v ∧ Ψ b1 b2 b3 true v1 v2 v3 v w') (put4 a0 t1 t2 t3 t4 v1 v2 v3 v4) w)
    (hfin : ∀ v1 v2 v3 v4 w, Ψ true true true true v1 v2 v3 v4 w → anyI P md l.toArray I Q f fin (put4 a0 t1 t2 t3 t4 v1 v2 v3 v4) w) :
    anyI P md l.toArray I Q (f + 4) l0 a0 w0 := by
  obtain ⟨n12, n13, n14, n23, n24, n34⟩ := hne
  refine anyI_phase (Φ := fun l a w => ∃ v1 v2 v3 v4, a = put4 a0 t1 t2 t3 t4 v1 v2 v3 v4 ∧ Ψ (l.getD i1 true) (l.getD i2 true) (l.getD i3 true) (l.getD i4 true) v1 v2 v3 v4 w) (S := [i1, i2, i3, i4]) (fin := fin) ?_ ?_ ?_ 4 l0 a0 w0 hB ?_
  · rintro l a w ⟨v1, v2, v3, v4, rfl, h⟩
    exact hI _ _ _ _ _ _ _ _ _ h
  · rintro ls a w ⟨v1, v2, v3, v4, rfl, h⟩ i hi hr
    have hun := (mem_ready.1 hr).1
    have hsz : i < ls.size := by
      rcases Nat.lt_or_ge i ls.size with h | h
      · exact h
      · simp [Array.getD, Nat.not_lt.2 h] at hun
    have same : (ls.setIfInBounds i true).getD i true = true := by simp [Array.getD, hsz]
    have other : ∀ k, i ≠ k → (ls.setIfInBounds i true).getD k true = ls.getD k true := fun k hk => getD_set_ne true hk
    simp only [List.mem_cons, List.not_mem_nil, or_false] at hi
    rcases hi with rfl | rfl | rfl | rfl
    · rw [hun] at h
      refine ⟨o1, by simpa using h1, opQ_mono ?_ (hs1 _ _ _ _ _ _ _ _ h)⟩
      rintro a' w' ⟨v, rfl, h'⟩
      refine ⟨_, _, _, _, rfl, ?_⟩
      rw [same, other _ n12, other _ n13, other _ n14]
      exact h'
    · rw [hun] at h
      refine ⟨o2, by simpa using h2, opQ_mono ?_ (hs2 _ _ _ _ _ _ _ _ h)⟩
      rintro a' w' ⟨v, rfl, h'⟩
      refine ⟨_, _, _, _, rfl, ?_⟩
      rw [same, other _ n12.symm, other _ n23, other _ n24]
      exact h'
    · rw [hun] at h
      refine ⟨o3, by simpa using h3, opQ_mono ?_ (hs3 _ _ _ _ _ _ _ _ h)⟩
      rintro a' w' ⟨v, rfl, h'⟩
      refine ⟨_, _, _, _, rfl, ?_⟩
      rw [same, other _ n13.symm, other _ n23.symm, other _ n34]
      exact h'
    · rw [hun] at h
      refine ⟨o4, by simpa using h4, opQ_mono ?_ (hs4 _ _ _ _ _ _ _ _ h)⟩
      rintro a' w' ⟨v, rfl, h'⟩
      refine ⟨_, _, _, _, rfl, ?_⟩
      rw [same, other _ n14.symm, other _ n24.symm, other _ n34.symm]
      exact h'
  · rintro a w ⟨v1, v2, v3, v4, rfl, h⟩
    rw [hbf.1, hbf.2.1, hbf.2.2.1, hbf.2.2.2] at h
    exact hfin _ _ _ _ _ h
  · exact ⟨_, _, _, _, (put4_self a0 t1 t2 t3 t4).symm, by rw [hb0.1, hb0.2.1, hb0.2.2.1, hb0.2.2.2]; exact hst⟩
end
end Go.Proofs.Ytlnonadkdonhmaa
