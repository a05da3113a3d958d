/- Contracts and lemmas that the claim uses. -/
import Derived.WalkKit
import Derived.WalkSpells
import Derived.WalkLawsBesides
import Derived.Maps.AppendAt
import Derived.Lib.Hide
import Derived.StillTailTactics
import Derived.Maps.OwnSet
import Derived.RangeFuncBox
set_option maxRecDepth 100000
set_option maxHeartbeats 16000000
namespace Go.Proofs.Ytejabnoidhlfaaa
open Go.RowKit
def ints (xs : List Int) : List Value := xs.map (Value.int .i64)
def Cells (w : World) (A : Option Addr) (cs : List Value) : Prop :=
 cs.length ≤ 17592186043904 ∧ ∃ b off, b < w.heap.size + 1 ∧ (cs ≠ [] → A = some ⟨b, off, none⟩ ∧ b < w.heap.size) ∧ ∀ k v, cs[k]? = some v → w.cell? ⟨b, off + k, none⟩ = some v
theorem Cells.below {w w' : World} {A : Option Addr} {cs : List Value} {B : Nat} (h : Cells w A cs) (hb : Below B w w') (hB : w.heap.size ≤ B) : Cells w' A cs := by
 obtain ⟨hl, b, off, hb0, hA, hc⟩ := h; refine ⟨hl, b, off, by have := hb.size; omega, fun hn => ⟨(hA hn).1, by have := (hA hn).2; have := hb.size; omega⟩, fun k v hk => ?_⟩; have hn : cs ≠ [] := by rintro rfl; simp at hk
 exact (hb.cell (p := ⟨b, off + k, none⟩) (by have := (hA hn).2; simp; omega)).trans (hc k v hk)
theorem Cells.drew {w : World} {A : Option Addr} {cs : List Value} (h : Cells w A cs) : Cells w.drew A cs := h
theorem Cells.nil (w : World) (A : Option Addr) : Cells w A [] := ⟨by simp, 0, 0, by omega, fun h => absurd rfl h, fun k v h => by simp at h⟩
theorem Cells.of_own {w : World} {base : Nat} {e : TypeId} {size n : Nat} {A : Option Addr} {m c : Nat} {xs : List Value} (h : w.ownsRow base e size (.slice A m c) n xs) (hl : xs.length ≤ 17592186043904) :
  Cells w A xs ∧ m = n := by
 obtain ⟨hlen, ⟨hv, hn⟩ | ⟨g, cap, cur, hv, hg, hh, hnc, hcm, hcs, hcur⟩⟩ := h
 ·injection hv with h1 h2 h3; subst h2 hn; have : xs = [] := List.eq_nil_of_length_eq_zero (by simpa using hlen); subst this; exact ⟨Cells.nil _ _, rfl⟩
 ·injection hv with h1 h2 h3; subst h1 h2 h3; have hlt : g < w.heap.size := by
   rcases Nat.lt_or_ge g w.heap.size with h | h
   ·exact h
   ·rw [Array.getElem?_eq_none h] at hh; cases hh
  refine ⟨⟨hl, g, 0, by omega, fun _ => ⟨rfl, hlt⟩, fun k v hk => ?_⟩, rfl⟩; have hkl : k < xs.length := (List.getElem?_eq_some_iff.1 hk).1; rw [← hcur] at hk; rw [List.getElem?_take_of_lt (by omega)] at hk; simp [World.cell?, hh]; simpa using hk
theorem Cells.at_ {P : Program} {w : World} {A : Option Addr} {cs : List Value} {t e : TypeId} {n c size k : Nat} (h : Cells w A cs) (ht : P.underlying t = some (.slice e)) (hs : (P.info? e).map (·.size) = some size)
  (hlen : cs.length = n * size) (hk : k < n) (hsz : 0 < size) :
  ∃ b o, b < w.heap.size ∧ (∀ w', (Instr.indexAt t (.slice A n c) (.int .i64 (k : Int))).run P w' = .ok (.pointer (some ⟨b, o, none⟩)) w') ∧ ∀ j, j < size → ∃ v, cs[k * size + j]? = some v ∧ w.cell? ⟨b, o + j, none⟩ = some v := by
 obtain ⟨hl, b, off, _, hA, hc⟩ := h; have hpos : 0 < cs.length := by
  rw [hlen]; exact Nat.mul_pos (by omega) hsz
 have hne : cs ≠ [] := by rintro rfl; simp at hpos
 obtain ⟨rfl, hb⟩ := hA hne; have hkn : k * size + size ≤ n * size := by
  have : (k + 1) * size ≤ n * size := Nat.mul_le_mul_right _ (by omega); rw [Nat.add_mul, Nat.one_mul] at this; exact this
 refine ⟨b, off + k * size, hb, fun w' => ?_, fun j hj => ?_⟩
 ·obtain ⟨i, hi, hie⟩ : ∃ i, P.info? e = some i ∧ i.size = size := by
   cases hx : P.info? e with
   | none => rw [hx] at hs; cases hs
   | some i => rw [hx] at hs; exact ⟨i, rfl, by simpa using hs⟩
  have hin : (0 : Int) ≤ (k : Int) ∧ (k : Int) < (n : Int) := by omega
  simp [Instr.indexAt, run_underlying ht, asIntOf, hin, sizeOf, typeInfo, hi, hie, hk]; by_cases h0 : k * size = 0
  ·simp [Addr.add, h0]
  ·simp [Addr.add, h0]
 ·have hlt : k * size + j < cs.length := by omega
  refine ⟨cs[k * size + j], List.getElem?_eq_getElem hlt, ?_⟩; rw [Nat.add_assoc]; exact hc _ _ (List.getElem?_eq_getElem hlt)
theorem ints_at {P : Program} {w : World} {A : Option Addr} {xs : List Int} {t e : TypeId} {c k : Nat} (h : Cells w A (ints xs)) (ht : P.underlying t = some (.slice e)) (hs : (P.info? e).map (·.size) = some 1) (hk : k < xs.length) :
  ∃ r b o, xs[k]? = some r ∧ b < w.heap.size ∧ (∀ w', (Instr.indexAt t (.slice A xs.length c) (.int .i64 (k : Int))).run P w' = .ok (.pointer (some ⟨b, o, none⟩)) w') ∧ w.cell? ⟨b, o, none⟩ = some (.int .i64 r) := by
 obtain ⟨b, o, hb, hix, hcell⟩ := h.at_ (c := c) (n := xs.length) ht hs (by simp [ints]) hk (by decide); obtain ⟨u, hu, hc⟩ := hcell 0 (by decide); have hr : xs[k]? = some xs[k] := List.getElem?_eq_getElem hk; simp [ints] at hu; rw [hr] at hu; simp at hu; subst hu; exact ⟨xs[k], b, o, hr, hb, hix, by simpa using hc⟩
structure ElemRow (P : Program) (t e : TypeId) (size bytes : Nat) : Prop where
 ut : P.underlying t = some (.slice e)
 row : ∃ i z, P.info? e = some i ∧ i.zero = some z ∧ i.size = size ∧ i.bytes = bytes ∧ z.cells.size = size
 pos : 0 < size
 pos' : 0 < bytes
theorem ElemRow.mk' {P : Program} {t e : TypeId} {size bytes : Nat} {z : Value} (ht : P.underlying t = some (.slice e)) (hi : (P.info? e).map (fun i => (i.zero, i.size, i.bytes)) = some (some z, size, bytes)) (hz : z.cells.size = size) (h1 : 0 < size) (h2 : 0 < bytes) :
  ElemRow P t e size bytes := by
 obtain ⟨i, hi', h3, h4, h5⟩ := info_parts hi; exact ⟨ht, ⟨i, z, hi', h3, h4, h5, hz⟩, h1, h2⟩
theorem ElemRow.size_eq {P : Program} {t e : TypeId} {size bytes : Nat} (R : ElemRow P t e size bytes) : (P.info? e).map (·.size) = some size := by
 obtain ⟨i, z, h, _, hs, _⟩ := R.row; rw [h]; simp [hs]
theorem below_of_grown {base : Nat} {w w' : World} {v : Value} {e : TypeId} {size n : Nat} {xs : List Value} (h : w.ownsRow base e size v n xs) (hg : w.grownBy w' v.ownBlock) (hB : base ≤ w.heap.size) : Below base w w' :=
 (Below.refl _ _).grown hg hB fun k hk => (h.lt k hk).1
theorem stail {P : Program} {id : Nat} {Q : Exit → Act → World → Prop} {a : Act} {w : World} {l : List Oper} (n : Nat) (hm : P.follows .mixedOrders = true) (hB : Region.lexTailB .any l.toArray n = true)
  (h : ∀ K : Act → Prop, (∀ a', wpList P l.toArray Q (l.drop n) a' w.drew → K a') → wpStill P l.toArray w.drew K (l.take n) a) : (Code.region id l.toArray true).wp P Q a w :=
 wp_region_still_tail n hm hB (h _ fun _ h => h)
theorem sall {P : Program} {id : Nat} {Q : Exit → Act → World → Prop} {a : Act} {w : World} {l : List Oper} (hm : P.follows .mixedOrders = true) (hB : Region.lexB .any l.toArray = true)
  (h : ∀ K : Act → Prop, (∀ a', Q .normal a' w.drew → K a') → wpStill P l.toArray w.drew K l a) : (Code.region id l.toArray true).wp P Q a w :=
 wp_region_still_lit hm hB (h _ fun _ h => h)
section
variable {α : Type} {p : α → Bool} {xs : List α} {k : Nat} {x : α}
theorem take_succ_of (h : xs[k]? = some x) : xs.take (k + 1) = xs.take k ++ [x] := by
 rw [List.take_add_one, h]; rfl
end
/-! ### elements of several cells -/
section
variable {α : Type}
theorem flat_get {f : α → List Value} {size : Nat} (hf : ∀ x, (f x).length = size) : ∀ (xs : List α) (k j : Nat), j < size → (xs.flatMap f)[k * size + j]? = (xs[k]?).bind fun x => (f x)[j]?
 | [], k, j, _ => by simp
 | x :: xs, 0, j, hj => by
  rw [List.flatMap_cons, List.getElem?_append_left (by rw [hf]; omega)]; simp
 | x :: xs, k + 1, j, hj => by
  have e : (k + 1) * size + j = (f x).length + (k * size + j) := by rw [hf, Nat.add_mul]; omega
  rw [List.flatMap_cons, e, List.getElem?_append_right (by omega), Nat.add_sub_cancel_left, flat_get hf xs k j hj]; simp
theorem flat_len {f : α → List Value} {size : Nat} (hf : ∀ x, (f x).length = size) : ∀ xs : List α, (xs.flatMap f).length = xs.length * size
 | [] => by simp
 | x :: xs => by rw [List.flatMap_cons, List.length_append, hf, flat_len hf xs, List.length_cons, Nat.add_mul]; omega
theorem flat_at {P : Program} {w : World} {A : Option Addr} {f : α → List Value} {xs : List α} {t e : TypeId} {c k size : Nat} (h : Cells w A (xs.flatMap f)) (hf : ∀ x, (f x).length = size) (ht : P.underlying t = some (.slice e)) (hs : (P.info? e).map (·.size) = some size)
  (hsz : 0 < size) (hk : k < xs.length) :
  ∃ x b o, xs[k]? = some x ∧ b < w.heap.size ∧ (∀ w', (Instr.indexAt t (.slice A xs.length c) (.int .i64 (k : Int))).run P w' = .ok (.pointer (some ⟨b, o, none⟩)) w') ∧ ∀ j v, (f x)[j]? = some v → w.cell? ⟨b, o + j, none⟩ = some v := by
 obtain ⟨b, o, hb, hix, hcell⟩ := h.at_ (c := c) (n := xs.length) ht hs (flat_len hf xs) hk hsz; have hr : xs[k]? = some xs[k] := List.getElem?_eq_getElem hk; refine ⟨xs[k], b, o, hr, hb, hix, fun j v hv => ?_⟩; have hj : j < size := by rw [← hf xs[k]]; exact (List.getElem?_eq_some_iff.1 hv).1
 obtain ⟨u, hu, hc⟩ := hcell j hj; rw [flat_get hf _ _ _ hj, hr] at hu; simp only [Option.bind_some, hv] at hu; cases hu; exact hc
end
theorem wpList_app1' {P : Program} {t e : TypeId} {size bytes : Nat} (R : ElemRow P t e size bytes) (w : World) {ops : Array Oper} {rest : List Oper} {o : Oper} {a : Act} {Q : Exit → Act → World → Prop} (hgd : o.guard = none) (s x : Operand)
  (ho : o.op = .call { callee := .builtin .append, args := #[s, x], argTypes := #[t, t] })
  {base : Nat} {v : Value} {n : Nat} {xs : List Value} (hown : w.ownsRow base e size v n xs) (hs : a.eval s = v) (news : List Value) (c : Nat) (hx : a.eval x = .slice (some ⟨w.heap.size, 0, none⟩) 1 c)
  (hnl : news.length = size) (hone : ∀ u ∈ news, u.oneCell' = true) (hbytes : (n + 1) * bytes ≤ 140737488355328) (hbase : base ≤ w.heap.size)
  (h : ∀ v' w', w'.ownsRow base e size v' (n + 1) (xs ++ news) → Below base w w' → w.grownBy w' v.ownBlock → (∀ g, v'.ownBlock = some g → v.ownBlock = some g ∨ w.heap.size ≤ g) → wpList P ops Q rest (a.put o.dst v') w') :
  wpList P ops Q (o :: rest) a (w.alloc (.cells news.toArray e)) := by
 obtain ⟨i, z, hi, hz, hs1, hb1, hzs⟩ := R.row; have hm : n + 1 ≤ maxLen := by
  have h1 : (n + 1) * 1 ≤ (n + 1) * bytes := Nat.mul_le_mul_left _ R.pos'; unfold maxLen; omega
 refine wpList_append_own_at _ hgd s x t ho base e i z size bytes R.ut hi hz hs1 hb1 hzs R.pos v n xs hs (hown.alloc _) ⟨w.heap.size, 0, none⟩ 1 c news hx (by omega) ?_ hone hm hbytes (by simp; omega) ?_
 ·intro j u hj; have h1 : (w.alloc (.cells news.toArray e)).heap[w.heap.size]? = some (.cells news.toArray e (0, 0)) := heap_alloc_new w _; have h2 : ((⟨w.heap.size, 0, none⟩ : Addr).add j) = ⟨w.heap.size, j, none⟩ := by
   unfold Addr.add; split <;> simp_all
  rw [h2]; simp only [World.cell?, h1]; simpa using hj
 ·intro v' w' ho' hg _ hloc; refine h v' w' ho' (((Below.refl _ w).alloc hbase _).trans (below_of_grown (hown.alloc _) hg (by simp; omega))) ((World.grownBy_alloc w _ _).trans hg) fun g hg' => ?_; rcases hloc with hl | hl
  ·exact .inl (hl ▸ hg')
  ·rw [hl] at hg'; have e : (w.alloc (.cells news.toArray e)).heap.size = g := by injection hg'
   simp at e; exact .inr (by omega)
section
variable {P : Program} {ops : Array Oper} {w : World} {Q : Act → Prop} {a : Act} {o : Oper} {rest : List Oper}
theorem still_off (h : Region.wanted o (yielded ops a.tmps) = false) (hr : wpStill P ops w Q rest (a.put o.dst undef)) : wpStill P ops w Q (o :: rest) a := by
 unfold wpStill; rw [if_neg (by simp [h])]; exact hr
theorem still_on (h : Region.wanted o (yielded ops a.tmps) = true) (hr : ∀ K : Act → Prop, (∀ a, wpStill P ops w Q rest a → K a) → o.still P a w K) : wpStill P ops w Q (o :: rest) a := by
 unfold wpStill; rw [if_pos h]; exact hr _ fun _ h => h
end
theorem cell_chain {W wr : World} {B : Nat} (hB : Below B W wr) {b i : Nat} (h : b < B) {v : Value} (hc : W.cell? ⟨b, i, none⟩ = some v) : wr.cell? ⟨b, i, none⟩ = some v := (hB.cell (p := ⟨b, i, none⟩) h).trans hc
/-! ### all elements, with their places -/
section
variable {α : Type}
end
end Go.Proofs.Ytejabnoidhlfaaa
namespace Go.Proofs.Ytejabnoidhlfaaa
open Go.RowKit Go.Maps
open Go.ChangeMaps (setBlock)
structure Frame (S : Nat → Prop) (w w' : World) : Prop where
 os : w'.os = w.os
 tape : w'.tape = w.tape
 output : w'.output = w.output
 size : w.heap.size ≤ w'.heap.size
 block : ∀ k, k < w.heap.size → ¬ S k → w'.heap[k]? = w.heap[k]?
section
variable {S T : Nat → Prop} {w w' w'' : World}
theorem Frame.refl (S : Nat → Prop) (w : World) : Frame S w w := ⟨rfl, rfl, rfl, Nat.le_refl _, fun _ _ _ => rfl⟩
theorem Frame.trans (h : Frame S w w') (k : Frame T w' w'') (hT : ∀ b, b < w.heap.size → T b → S b) : Frame S w w'' :=
 ⟨k.os.trans h.os, k.tape.trans h.tape, k.output.trans h.output, Nat.le_trans h.size k.size, fun b hb hn => (k.block b (Nat.lt_of_lt_of_le hb h.size) (fun ht => hn (hT b hb ht))).trans (h.block b hb hn)⟩
theorem Frame.mono (h : Frame S w w') (hS : ∀ b, b < w.heap.size → S b → T b) : Frame T w w' :=
 ⟨h.os, h.tape, h.output, h.size, fun b hb hn => h.block b hb (fun hs => hn (hS b hb hs))⟩
theorem Frame.of_all (h : Below w.heap.size w w') : Frame S w w' := ⟨h.os, h.tape, h.output, h.size, fun k hk _ => h.block k hk⟩
theorem Frame.of_grown {row : Option Nat} (h : w.grownBy w' row) : Frame (fun k => row = some k) w w' := ⟨h.os, h.tape, h.output, h.size, fun k hk hn => h.block k hk (fun e => hn e.symm)⟩
theorem Frame.alloc (h : Frame S w w') (o : Obj) : Frame S w (w'.alloc o) :=
 ⟨h.os, h.tape, h.output, Nat.le_trans h.size (by simp), fun k hk hn => (Below.heap_alloc w' o k (Nat.lt_of_lt_of_le hk h.size)).trans (h.block k hk hn)⟩
theorem Frame.setCell (h : Frame S w w') {p : Addr} (hp : S p.block ∨ w.heap.size ≤ p.block) (u : Value) : Frame S w (w'.setCell p u) :=
 ⟨h.os, h.tape, h.output, by simpa [World.setCell] using h.size, fun k hk hn => (Below.heap_setCell w' p u k (by rintro rfl; rcases hp with hp | hp; exact hn hp; omega)).trans (h.block k hk hn)⟩
theorem Frame.drew (h : Frame S w w') : Frame S w w'.drew := ⟨h.os, h.tape, h.output, h.size, h.block⟩
theorem Frame.below (h : Frame S w w') {B : Nat} (hS : ∀ b, S b → B ≤ b) (hB : B ≤ w.heap.size) : Below B w w' :=
 ⟨h.os, h.tape, h.output, h.size, fun k hk => h.block k (by omega) (fun hs => by have := hS k hs; omega)⟩
theorem Cells.frame {A : Option Addr} {cs : List Value} (h : Cells w A cs) (hf : Frame S w w') (hne : cs ≠ [] → ∀ a, A = some a → ¬ S a.block) : Cells w' A cs := by
 obtain ⟨hl, b, off, hb0, hA, hc⟩ := h; refine ⟨hl, b, off, by have := hf.size; omega, fun hn => ⟨(hA hn).1, by have := (hA hn).2; have := hf.size; omega⟩, fun k v hk => ?_⟩; have hn : cs ≠ [] := by rintro rfl; simp at hk
 have hh : w'.heap[b]? = w.heap[b]? := hf.block b (hA hn).2 (by simpa using hne hn _ (hA hn).1); exact (World.cell?_of_block (w := w) (w' := w') (a := ⟨b, off + k, none⟩) hh).trans (hc k v hk)
end
def Blk (w : World) (b : Nat) (o : Obj) : Prop := w.heap[b]? = some o
section
variable {S : Nat → Prop} {w w' : World} {b : Nat} {o : Obj}
theorem Blk.lt (h : Blk w b o) : b < w.heap.size := by
 rcases Nat.lt_or_ge b w.heap.size with hlt | hge
 ·exact hlt
 ·unfold Blk at h; rw [Array.getElem?_eq_none hge] at h; cases h
theorem Blk.frame (h : Blk w b o) (hf : Frame S w w') (hn : ¬ S b) : Blk w' b o := (hf.block b h.lt hn).trans h
theorem Blk.below {B : Nat} (h : Blk w b o) (hf : Below B w w') (hb : b < B) : Blk w' b o := (hf.block b hb).trans h
theorem Blk.alloc (h : Blk w b o) (x : Obj) : Blk (w.alloc x) b o := (Below.heap_alloc w x b h.lt).trans h
theorem Blk.new (w : World) (o : Obj) : Blk (w.alloc o) w.heap.size o := World.alloc_heap_new w o
theorem Blk.drew (h : Blk w b o) : Blk w.drew b o := h
theorem Blk.far (h : Blk w b o) {p : Addr} (hp : b ≠ p.block) (u : Value) : Blk (w.setCell p u) b o := (Below.heap_setCell w p u b hp).trans h
theorem Blk.grown {row : Option Nat} (h : Blk w b o) (hg : w.grownBy w' row) (hn : row ≠ some b) : Blk w' b o := (hg.block b h.lt (fun e => hn e.symm)).trans h
variable {cs : Array Value} {t : TypeId}
theorem Blk.cell (h : Blk w b (.cells cs t)) (i : Nat) {v : Value} (hi : cs[i]? = some v) : w.cell? ⟨b, i, none⟩ = some v := by
 unfold Blk at h; simp only [World.cell?, h]; simpa using hi
theorem Blk.free (h : Blk w b (.cells cs t)) (i : Nat) : w.frozen? ⟨b, i, none⟩ = false := by
 unfold Blk at h; simp [World.frozen?, h]
theorem Blk.set (h : Blk w b (.cells cs t)) (i : Nat) (u : Value) : Blk (w.setCell ⟨b, i, none⟩ u) b (.cells (cs.setIfInBounds i u) t) := by
 unfold Blk at h ⊢; simp [World.setCell, Array.getElem?_modify, h]
theorem own_ne {base : Nat} {e : TypeId} {size n : Nat} {v : Value} {xs : List Value} (hr : w.ownsRow base e size v n xs) (h : Blk w b (.cells cs t)) (hne : e ≠ t) : v.ownBlock ≠ some b := by
 rcases hr.2 with ⟨rfl, _⟩ | ⟨g, cap, cur, rfl, _, hh, _⟩
 ·simp [Value.ownBlock]
 ·intro he; have hg : g = b := by simpa [Value.ownBlock] using he
  subst hg; unfold Blk at h; rw [hh] at h; injection h with h; injection h with _ ht; exact hne ht
theorem own_ne_map {base : Nat} {e : TypeId} {size n : Nat} {v : Value} {xs : List Value} {es : Array MapEntry} {c : Nat} (hr : w.ownsRow base e size v n xs) (h : Blk w b (.map es c)) : v.ownBlock ≠ some b := by
 rcases hr.2 with ⟨rfl, _⟩ | ⟨g, cap, cur, rfl, _, hh, _⟩
 ·simp [Value.ownBlock]
 ·intro he; have hg : g = b := by simpa [Value.ownBlock] using he
  subst hg; unfold Blk at h; rw [hh] at h; cases h
theorem own_frame {base : Nat} {e : TypeId} {size n : Nat} {v : Value} {xs : List Value} (hr : w.ownsRow base e size v n xs) (hf : Frame S w w') (hn : ∀ g, v.ownBlock = some g → ¬ S g) : w'.ownsRow base e size v n xs := by
 refine ⟨hr.1, ?_⟩; rcases hr.2 with h0 | ⟨g, cap, cur, hv, hb, hh, h1, h2, h3, h4⟩
 ·exact .inl h0
 ·refine .inr ⟨g, cap, cur, hv, hb, ?_, h1, h2, h3, h4⟩; have hlt : g < w.heap.size := Blk.lt (o := .cells cur e) hh; exact (hf.block g hlt (hn g (by subst hv; rfl))).trans hh
end
/-! ### maps -/
def MapIs (P : Program) (kt : TypeId) (w : World) (b : Nat) (m : List (Value × Value)) : Prop :=
 ∃ es clock, Blk w b (.map es clock) ∧ es.toList.map (fun e => (e.key, e.val)) = m ∧ (∀ p ∈ m, ∃ l, keyOf P kt p.1 = some l) ∧ (m.map (·.1)).Nodup
section
variable {P : Program} {kt : TypeId} {w w' : World} {b : Nat} {m : List (Value × Value)} {S : Nat → Prop}
theorem MapIs.frame (h : MapIs P kt w b m) (hf : Frame S w w') (hn : ¬ S b) : MapIs P kt w' b m := by
 obtain ⟨es, c, hb, r⟩ := h; exact ⟨es, c, hb.frame hf hn, r⟩
theorem MapIs.lt (h : MapIs P kt w b m) : b < w.heap.size := by
 obtain ⟨es, c, hb, _⟩ := h; exact hb.lt
theorem MapIs.new (P : Program) (kt : TypeId) (w : World) : MapIs P kt (w.alloc (.map #[] 0)) w.heap.size [] := ⟨#[], 0, Blk.new _ _, rfl, by simp, by simp⟩
theorem MapIs.not_own {base : Nat} {e : TypeId} {size n : Nat} {v : Value} {xs : List Value} (h : MapIs P kt w b m) (hr : w.ownsRow base e size v n xs) : v.ownBlock ≠ some b := by
 obtain ⟨es, c, hb, _⟩ := h; exact own_ne_map hr hb
theorem MapIs.not_blk {b' : Nat} {cs : Array Value} {t : TypeId} (h : MapIs P kt w b m) (hb' : Blk w b' (.cells cs t)) : b ≠ b' := by
 rintro rfl; obtain ⟨es, c, hb, _⟩ := h; unfold Blk at hb hb'; rw [hb] at hb'; cases hb'
theorem nodup_val {m : List (Value × Value)} (h : (m.map (·.1)).Nodup) {k u v : Value} (hu : (k, u) ∈ m) (hv : (k, v) ∈ m) : u = v := by
 induction m with
 | nil => cases hu
 | cons p r ih =>
  rw [List.map_cons, List.nodup_cons] at h; rcases List.mem_cons.1 hu with e1 | h1 <;> rcases List.mem_cons.1 hv with e2 | h2
  ·rw [← e1] at e2; injection e2 with _ e; exact e.symm
  ·exact absurd (List.mem_map.2 ⟨_, h2, by rw [← e1]⟩) h.1
  ·exact absurd (List.mem_map.2 ⟨_, h1, by rw [← e2]⟩) h.1
  ·exact ih h.2 h1 h2
theorem entries_keys (h : ∀ p ∈ m, ∃ l, keyOf P kt p.1 = some l) {es : Array MapEntry} (he : es.toList.map (fun e => (e.key, e.val)) = m) : ∀ e ∈ es.toList, ∃ l, keyOf P kt e.key = some l := by
 intro e hm; exact h (e.key, e.val) (by rw [← he]; exact List.mem_map_of_mem hm)
theorem MapIs.look_no {t et : TypeId} (K : Keyed P kt) (ht : P.underlying t = some (.map kt et)) (h : MapIs P kt w b m) {k : Value} {l : Lit} (hk : keyOf P kt k = some l) (hno : ∀ p ∈ m, p.1 ≠ k) {z : Value} (hz : (zeroValue et).run P w = .ok z w) (ok : Bool) :
  (Instr.lookup t (.map (some b)) k ok).run P w = .ok (if ok then .tuple #[z, .bool false] else z) w := by
 obtain ⟨es, c, hb, he, hks, hnd⟩ := h; rcases K.find w hk es.toList (entries_keys hks he) with ⟨hr, _⟩ | ⟨j, e, hr, hj, hek⟩
 ·simp [Instr.lookup, run_underlying ht, MapKept.run_getObj_map hb, K.check w _ hk, hr, hz, Result.andThen]
 ·exact absurd hek (hno (e.key, e.val) (by rw [← he]; exact List.mem_map.2 ⟨e, List.mem_of_getElem? hj, rfl⟩))
theorem MapIs.look_yes {t et : TypeId} (K : Keyed P kt) (ht : P.underlying t = some (.map kt et)) (h : MapIs P kt w b m) {k v : Value} {l : Lit} (hk : keyOf P kt k = some l) (hin : (k, v) ∈ m) (ok : Bool) :
  (Instr.lookup t (.map (some b)) k ok).run P w = .ok (if ok then .tuple #[v, .bool true] else v) w := by
 obtain ⟨es, c, hb, he, hks, hnd⟩ := h; have hin' := hin; rw [← he] at hin'; obtain ⟨e0, he0, hkv⟩ := List.mem_map.1 hin'; rcases K.find w hk es.toList (entries_keys hks he) with ⟨_, hn⟩ | ⟨j, e, hr, hj, hek⟩
 ·exact absurd (by injection hkv) (hn e0 he0)
 ·have hv : e.val = v := by
   have hm : (e.key, e.val) ∈ m := by rw [← he]; exact List.mem_map.2 ⟨e, List.mem_of_getElem? hj, rfl⟩
   rw [hek] at hm; exact nodup_val hnd hm hin
  subst hv; simp [Instr.lookup, run_underlying ht, MapKept.run_getObj_map hb, K.check w _ hk, hr, Result.andThen]
theorem MapIs.put_new {t et : TypeId} (K : Keyed P kt) (ht : P.underlying t = some (.map kt et)) (h : MapIs P kt w b m) {k v : Value} {l : Lit} (hk : keyOf P kt k = some l) (hno : ∀ p ∈ m, p.1 ≠ k) :
  ∃ w', (Instr.mapUpdate t (.map (some b)) k v).run P w = .ok () w' ∧ MapIs P kt w' b (m ++ [(k, v)]) ∧ w.grownBy w' (some b) := by
 obtain ⟨es, c, hb, he, hks, hnd⟩ := h; rcases K.find w hk es.toList (entries_keys hks he) with ⟨hr, _⟩ | ⟨j, e, hr, hj, hek⟩
 ·refine ⟨setBlock w b (.map (es.push ⟨k, v, c⟩) (c + 1)), ?_, ⟨es.push ⟨k, v, c⟩, c + 1, ?_, ?_, ?_, ?_⟩, ?_⟩
  ·simp [Instr.mapUpdate, run_underlying ht, MapKept.run_getObj_map hb, K.check w false hk, hr, MapKept.run_setObj_map _ hb, Result.andThen, setBlock]
  ·have hlt := hb.lt; show (w.heap.setIfInBounds b _)[b]? = _; simp [hlt]
  ·simp [he]
  ·intro p hp; rcases List.mem_append.1 hp with hp | hp
   ·exact hks p hp
   ·simp at hp; subst hp; exact ⟨l, hk⟩
  ·rw [List.map_append, List.nodup_append]; refine ⟨hnd, by simp, ?_⟩; intro x hx y hy; simp at hy; subst hy; obtain ⟨p, hp, rfl⟩ := List.mem_map.1 hx; exact hno p hp
  ·exact ⟨rfl, rfl, rfl, by simp [setBlock], fun i hi hne => by
    show (w.heap.setIfInBounds b _)[i]? = _; rw [Array.getElem?_setIfInBounds, if_neg (by rintro rfl; exact hne rfl)]⟩
 ·exact absurd hek (hno (e.key, e.val) (by rw [← he]; exact List.mem_map.2 ⟨e, List.mem_of_getElem? hj, rfl⟩))
end
end Go.Proofs.Ytejabnoidhlfaaa
namespace Go.Proofs.Ytejabnoidhlfaaa
open Go.RowKit Go.Maps
theorem Blk.c3 {w : World} {b : Nat} {v0 v1 v2 : Value} {t : TypeId} (h : Blk w b (.cells #[v0, v1, v2] t)) : w.cell? ⟨b, 0, none⟩ = some v0 ∧ w.cell? ⟨b, 1, none⟩ = some v1 ∧ w.cell? ⟨b, 2, none⟩ = some v2 :=
 ⟨h.cell 0 rfl, h.cell 1 rfl, h.cell 2 rfl⟩
theorem Blk.d3 {w : World} {b : Nat} {v0 v1 v2 : Value} {t : TypeId} (h : Blk w b (.cells #[v0, v1, v2] t)) : w.cell? ⟨b, 0, none⟩ = some v0 ∧ w.cell? ⟨b, 1, none⟩ = some v1 ∧ w.cell? ⟨b, 2, none⟩ = some v2 ∧ b < w.heap.size :=
 ⟨h.cell 0 rfl, h.cell 1 rfl, h.cell 2 rfl, h.lt⟩
theorem Blk.c4 {w : World} {b : Nat} {v0 v1 v2 v3 : Value} {t : TypeId} (h : Blk w b (.cells #[v0, v1, v2, v3] t)) : w.cell? ⟨b, 0, none⟩ = some v0 ∧ w.cell? ⟨b, 1, none⟩ = some v1 ∧ w.cell? ⟨b, 2, none⟩ = some v2 ∧ w.cell? ⟨b, 3, none⟩ = some v3 :=
 ⟨h.cell 0 rfl, h.cell 1 rfl, h.cell 2 rfl, h.cell 3 rfl⟩
theorem Blk.d4 {w : World} {b : Nat} {v0 v1 v2 v3 : Value} {t : TypeId} (h : Blk w b (.cells #[v0, v1, v2, v3] t)) : w.cell? ⟨b, 0, none⟩ = some v0 ∧ w.cell? ⟨b, 1, none⟩ = some v1 ∧ w.cell? ⟨b, 2, none⟩ = some v2 ∧ w.cell? ⟨b, 3, none⟩ = some v3 ∧ b < w.heap.size :=
 ⟨h.cell 0 rfl, h.cell 1 rfl, h.cell 2 rfl, h.cell 3 rfl, h.lt⟩
theorem Blk.c7 {w : World} {b : Nat} {v0 v1 v2 v3 v4 v5 v6 : Value} {t : TypeId} (h : Blk w b (.cells #[v0, v1, v2, v3, v4, v5, v6] t)) : w.cell? ⟨b, 0, none⟩ = some v0 ∧ w.cell? ⟨b, 1, none⟩ = some v1 ∧ w.cell? ⟨b, 2, none⟩ = some v2 ∧ w.cell? ⟨b, 3, none⟩ = some v3 ∧ w.cell? ⟨b, 4, none⟩ = some v4 ∧ w.cell? ⟨b, 5, none⟩ = some v5 ∧ w.cell? ⟨b, 6, none⟩ = some v6 :=
 ⟨h.cell 0 rfl, h.cell 1 rfl, h.cell 2 rfl, h.cell 3 rfl, h.cell 4 rfl, h.cell 5 rfl, h.cell 6 rfl⟩
theorem Blk.d7 {w : World} {b : Nat} {v0 v1 v2 v3 v4 v5 v6 : Value} {t : TypeId} (h : Blk w b (.cells #[v0, v1, v2, v3, v4, v5, v6] t)) : w.cell? ⟨b, 0, none⟩ = some v0 ∧ w.cell? ⟨b, 1, none⟩ = some v1 ∧ w.cell? ⟨b, 2, none⟩ = some v2 ∧ w.cell? ⟨b, 3, none⟩ = some v3 ∧ w.cell? ⟨b, 4, none⟩ = some v4 ∧ w.cell? ⟨b, 5, none⟩ = some v5 ∧ w.cell? ⟨b, 6, none⟩ = some v6 ∧ b < w.heap.size :=
 ⟨h.cell 0 rfl, h.cell 1 rfl, h.cell 2 rfl, h.cell 3 rfl, h.cell 4 rfl, h.cell 5 rfl, h.cell 6 rfl, h.lt⟩
theorem Blk.c8 {w : World} {b : Nat} {v0 v1 v2 v3 v4 v5 v6 v7 : Value} {t : TypeId} (h : Blk w b (.cells #[v0, v1, v2, v3, v4, v5, v6, v7] t)) : w.cell? ⟨b, 0, none⟩ = some v0 ∧ w.cell? ⟨b, 1, none⟩ = some v1 ∧ w.cell? ⟨b, 2, none⟩ = some v2 ∧ w.cell? ⟨b, 3, none⟩ = some v3 ∧ w.cell? ⟨b, 4, none⟩ = some v4 ∧ w.cell? ⟨b, 5, none⟩ = some v5 ∧ w.cell? ⟨b, 6, none⟩ = some v6 ∧ w.cell? ⟨b, 7, none⟩ = some v7 :=
 ⟨h.cell 0 rfl, h.cell 1 rfl, h.cell 2 rfl, h.cell 3 rfl, h.cell 4 rfl, h.cell 5 rfl, h.cell 6 rfl, h.cell 7 rfl⟩
theorem Blk.d8 {w : World} {b : Nat} {v0 v1 v2 v3 v4 v5 v6 v7 : Value} {t : TypeId} (h : Blk w b (.cells #[v0, v1, v2, v3, v4, v5, v6, v7] t)) : w.cell? ⟨b, 0, none⟩ = some v0 ∧ w.cell? ⟨b, 1, none⟩ = some v1 ∧ w.cell? ⟨b, 2, none⟩ = some v2 ∧ w.cell? ⟨b, 3, none⟩ = some v3 ∧ w.cell? ⟨b, 4, none⟩ = some v4 ∧ w.cell? ⟨b, 5, none⟩ = some v5 ∧ w.cell? ⟨b, 6, none⟩ = some v6 ∧ w.cell? ⟨b, 7, none⟩ = some v7 ∧ b < w.heap.size :=
 ⟨h.cell 0 rfl, h.cell 1 rfl, h.cell 2 rfl, h.cell 3 rfl, h.cell 4 rfl, h.cell 5 rfl, h.cell 6 rfl, h.cell 7 rfl, h.lt⟩
theorem Blk.f3 {w : World} {b : Nat} {cs : Array Value} {t : TypeId} (h : Blk w b (.cells cs t)) : w.frozen? ⟨b, 0, none⟩ = false ∧ w.frozen? ⟨b, 1, none⟩ = false ∧ w.frozen? ⟨b, 2, none⟩ = false :=
 ⟨h.free 0, h.free 1, h.free 2⟩
theorem Blk.g3 {w : World} {b : Nat} {cs : Array Value} {t : TypeId} (h : Blk w b (.cells cs t)) : w.frozen? ⟨b, 0, none⟩ = false ∧ w.frozen? ⟨b, 1, none⟩ = false ∧ w.frozen? ⟨b, 2, none⟩ = false ∧ b < w.heap.size :=
 ⟨h.free 0, h.free 1, h.free 2, h.lt⟩
theorem Blk.f7 {w : World} {b : Nat} {cs : Array Value} {t : TypeId} (h : Blk w b (.cells cs t)) : w.frozen? ⟨b, 0, none⟩ = false ∧ w.frozen? ⟨b, 1, none⟩ = false ∧ w.frozen? ⟨b, 2, none⟩ = false ∧ w.frozen? ⟨b, 3, none⟩ = false ∧ w.frozen? ⟨b, 4, none⟩ = false ∧ w.frozen? ⟨b, 5, none⟩ = false ∧ w.frozen? ⟨b, 6, none⟩ = false :=
 ⟨h.free 0, h.free 1, h.free 2, h.free 3, h.free 4, h.free 5, h.free 6⟩
theorem Blk.g7 {w : World} {b : Nat} {cs : Array Value} {t : TypeId} (h : Blk w b (.cells cs t)) : w.frozen? ⟨b, 0, none⟩ = false ∧ w.frozen? ⟨b, 1, none⟩ = false ∧ w.frozen? ⟨b, 2, none⟩ = false ∧ w.frozen? ⟨b, 3, none⟩ = false ∧ w.frozen? ⟨b, 4, none⟩ = false ∧ w.frozen? ⟨b, 5, none⟩ = false ∧ w.frozen? ⟨b, 6, none⟩ = false ∧ b < w.heap.size :=
 ⟨h.free 0, h.free 1, h.free 2, h.free 3, h.free 4, h.free 5, h.free 6, h.lt⟩
end Go.Proofs.Ytejabnoidhlfaaa
namespace Go.Proofs.Ytejabnoidhlfaaa
open Go.RowKit
section
variable {P : Program} {ops : Array Oper} {md : Region.Mode} {I : World → Prop} {Q : Act → World → Prop}
def opQ (P : Program) (ops : Array Oper) (o : Oper) (K : Act → World → Prop) (a : Act) (w : World) : Prop :=
 if Region.wanted o (yielded ops a.tmps) then o.wp P a w K (fun _ _ _ => False) else K (a.put o.dst undef) w
theorem opQ_mono {o : Oper} {K K' : Act → World → Prop} {a : Act} {w : World} (h : ∀ a w, K a w → K' a w) (hh : opQ P ops o K a w) : opQ P ops o K' a w := by
 unfold opQ at *; split
 ·rename_i hw; simp only [hw, if_true] at hh; exact Oper.wp_mono h hh
 ·rename_i hw; simp only [hw] at hh; exact h _ _ hh
def anyI (P : Program) (md : Region.Mode) (ops : Array Oper) (I : World → Prop) (Q : Act → World → Prop) : Nat → Array Bool → Act → World → Prop
 | 0, listed, a, w => I w ∧ Region.ready md ops listed = [] ∧ Q a w
 | f + 1, listed, a, w => I w ∧ Region.ready md ops listed ≠ [] ∧ ∀ i ∈ Region.ready md ops listed, ∃ o, ops[i]? = some o ∧ opQ P ops o (anyI P md ops I Q f (listed.setIfInBounds i true)) a w
theorem wp_mono_q {o : Oper} {K : Act → World → Prop} {a : Act} {w : World} {Q' : Exit → Act → World → Prop} (hh : o.wp P a w K (fun _ _ _ => False)) : o.wp P a w K Q' := by
 unfold Oper.wp at *; generalize (execOp a.eval o).run P w = r at *; cases r with
 | ok n w' =>
  cases n <;> simp only [Oper.upon] at hh ⊢ <;>
   first
    | exact hh
    | exact Calls.mono hh (fun e w'' he => by
      cases e
      ·exact he
      ·exact he.elim
      ·obtain ⟨_, _, h⟩ := he; exact h.elim)
 | halt x w' =>
  cases x <;> simp only [Oper.upon] at hh ⊢
theorem any_of_anyI {Q' : Exit → Act → World → Prop} (hQ : ∀ a w, Q a w → Q' .normal a w) : ∀ (f : Nat) (listed : Array Bool) (a : Act) (w : World), anyI P md ops I Q f listed a w → wpAny P md ops Q' f listed a w
 | 0, _, _, _, h => ⟨h.2.1, hQ _ _ h.2.2⟩
 | f + 1, _, _, _, h => by
  refine ⟨fun h0 => absurd h0 h.2.1, fun i hi => ?_⟩; obtain ⟨o, ho, hop⟩ := h.2.2 i hi; have h2 := opQ_mono (fun a w h => any_of_anyI hQ f _ a w h) hop; unfold wpOp; simp only [ho]; unfold opQ at h2; split
  ·rename_i hw; simp only [hw, if_true] at h2; exact .inl (wp_mono_q h2)
  ·rename_i hw; simp only [hw] at h2; exact h2
theorem yields_opQ {o : Oper} {v : Value} {a : Act} {w : World} (hy : YieldsAt P ops w o v a) {K : Act → World → Prop} (h : K (a.put o.dst v) w) : opQ P ops o K a w := by
 unfold opQ; rcases hy with ⟨hw, hv | ⟨hv, rfl⟩ | ⟨f, args, hv, hc⟩⟩ | ⟨hw, rfl⟩
 ·simp only [hw, if_true, Oper.wp, hv, Oper.upon]; exact h
 ·simp only [hw, if_true, Oper.wp, hv, Oper.upon]; exact h
 ·simp only [hw, if_true, Oper.wp, hv, Oper.upon]; exact hc.mono fun e w'' ⟨he, hw⟩ => by subst he; subst hw; exact h
 ·simp only [hw]; exact h
theorem opQ_put {oi oj : Oper} {v : Value} (hap : oi.apart ops oj = true)
  (hsi : ∀ cs b, oi.op ≠ .select cs b) (hsj : ∀ cs b, oj.op ≠ .select cs b) {K : Act → World → Prop} {a : Act} {w : World}
  (hy : ∀ w, I w → YieldsAt P ops w oi v a) (h : opQ P ops oj K (a.put oi.dst v) w) :
  opQ P ops oj (fun a' w' => (∀ w, I w → YieldsAt P ops w oi v a') ∧ K (a'.put oi.dst v) w') a w := by
 obtain ⟨h1, h2, h3⟩ := Oper.apart_spec hap; have keep : ∀ (a : Act), (∀ w, I w → YieldsAt P ops w oi v a) → ∀ u, ∀ w, I w → YieldsAt P ops w oi v (a.put oj.dst u) := fun a hy u w hw =>
  (hy w hw).of_same (execOp_put oi hsi a oj.dst u h3) (wanted_put oi a oj.dst u h3)
 have keepD : ∀ d, ∀ w, I w → YieldsAt P ops w oi v { a with defers := d :: a.defers } := fun d w hw => (hy w hw).of_same rfl rfl; unfold opQ at *; rw [wanted_put oj a oi.dst v h1] at h; split
 ·rename_i hw; simp only [hw, if_true] at h; unfold Oper.wp at *; rw [execOp_put oj hsj a oi.dst v h1] at h; generalize (execOp a.eval oj).run P w = r at *; cases r with
  | ok n w' =>
   cases n <;> simp only [Oper.upon] at h ⊢
   case value u => exact ⟨keep a hy u, by rw [← Act.put_comm a v u h2]; exact h⟩
   case skip => exact ⟨keep a hy _, by rw [← Act.put_comm a v undef h2]; exact h⟩
   case defer d =>
    refine ⟨keep _ (keepD d) _, ?_⟩; rw [← Act.put_comm _ v undef h2, ← Act.put_defers]; exact h
   case enter f args =>
    refine Calls.mono h fun e w'' he => ?_; cases e with
    | returned u => exact ⟨keep a hy u, by rw [← Act.put_comm a v u h2]; exact he⟩
    | panicked c => exact he
    | outgrown => exact he
   case row row args => exact Rows.mono h fun u w'' he => ⟨keep a hy u, by rw [← Act.put_comm a v u h2]; exact he⟩
  | halt x w' => cases x <;> simp only [Oper.upon] at h ⊢
 ·rename_i hw; simp only [hw] at h; exact ⟨keep a hy _, by rw [← Act.put_comm a v undef h2]; exact h⟩
theorem anyI_first {i : Nat} {oi : Oper} {v : Value} (hi : ops[i]? = some oi) (hsel : ∀ (j : Nat) (o : Oper) cs b, ops[j]? = some o → o.op ≠ .select cs b) :
  ∀ (f : Nat) (listed : Array Bool) (a : Act) (w : World),
   (∀ j oj, ops[j]? = some oj → j ≠ i → listed.getD j true = false → (∀ e ∈ oj.after, Region.binds md e = true → e.on ≠ i) → oi.apart ops oj = true) →
   i ∈ Region.ready md ops listed → (∀ w, I w → YieldsAt P ops w oi v a) →
   anyI P md ops I Q f (listed.setIfInBounds i true) (a.put oi.dst v) w → anyI P md ops I Q (f + 1) listed a w := by
 intro f; induction f with
 | zero =>
  intro listed a w hfree hr hy H; refine ⟨H.1, fun h => (by rw [h] at hr; cases hr), fun j hj => ?_⟩; by_cases hji : j = i
  ·subst hji; exact ⟨oi, hi, yields_opQ (hy w H.1) H⟩
  ·have := ready_mono hj hji; rw [H.2.1] at this; cases this
 | succ f ih =>
  intro listed a w hfree hr hy H; refine ⟨H.1, fun h => (by rw [h] at hr; cases hr), fun j hj => ?_⟩; by_cases hji : j = i
  ·subst hji; exact ⟨oi, hi, yields_opQ (hy w H.1) H⟩
  ·obtain ⟨oj', hoj', h1⟩ := H.2.2 j (ready_mono hj hji); obtain ⟨hjun, oj, hoj, hall⟩ := mem_ready.1 hj; obtain rfl : oj' = oj := Option.some.inj (hoj'.symm.trans hoj); have hnot : ∀ e ∈ oj'.after, Region.binds md e = true → e.on ≠ i := fun e he hb heq => by
    have h1 := hall e he hb; have h0 := (mem_ready.1 hr).1; rw [heq, getD_both h0] at h1; cases h1
   have h2 := opQ_put (I := I) (hfree j oj' hoj hji hjun hnot) (fun cs b => hsel i oi cs b hi) (fun cs b => hsel j oj' cs b hoj) hy h1; have hfree' : ∀ k ok, ops[k]? = some ok → k ≠ i → (listed.setIfInBounds j true).getD k true = false →
     (∀ e ∈ ok.after, Region.binds md e = true → e.on ≠ i) → oi.apart ops ok = true := fun k ok hk hki hun hno => by
    refine hfree k ok hk hki ?_ hno; by_cases hjk : j = k
    ·subst hjk; exact hjun
    ·rw [getD_set_ne true hjk] at hun; exact hun
   refine ⟨oj', hoj, opQ_mono (fun a' w' h3 => ih (listed.setIfInBounds j true) a' w' hfree' (ready_mono hr (Ne.symm hji)) h3.1 ?_) h2⟩; rw [Array.setIfInBounds_comm _ _ hji]; exact h3.2
theorem lets_no {Q' : Act → World → Prop} (h : LetsOut (fun e a w => e = .normal ∧ Q' a w)) : False := by
 obtain ⟨a, w, h, _⟩ := h; cases h
theorem anyI_one (i : Nat) {o : Oper} {f : Nat} {listed : Array Bool} {a : Act} {w : World} (hi : ops[i]? = some o) (hr : Region.ready md ops listed = [i]) (hI : I w)
  (h : ∀ K : Act → World → Prop, (∀ a' w', anyI P md ops I Q f (listed.setIfInBounds i true) a' w' → K a' w') → wpList P ops (fun e a' w' => e = .normal ∧ K a' w') [o] a w) : anyI P md ops I Q (f + 1) listed a w := by
 refine ⟨hI, by rw [hr]; simp, fun j hj => ?_⟩; rw [hr] at hj; obtain rfl : j = i := by simpa using hj
 refine ⟨o, hi, ?_⟩; have h1 := h _ fun _ _ h => h; unfold wpList at h1; unfold opQ; split
 ·rename_i hw; simp only [hw, if_true] at h1; rcases h1 with h1 | h1
  ·unfold Oper.wp at *; generalize (execOp a.eval o).run P w = r at *; cases r with
   | ok n w' =>
    cases n <;> simp only [Oper.upon, wpList] at h1 ⊢
    case enter F args =>
     refine Calls.mono h1 fun e w'' he => ?_; cases e with
     | returned u => exact he.2
     | panicked c => cases he.1
     | outgrown => exact (lets_no he).elim
    case row row args => exact Rows.mono h1 fun u w'' he => he.2
    all_goals exact h1.2
   | halt x w' =>
    cases x <;> simp only [Oper.upon] at h1 ⊢
    cases h1.1
  ·exact (lets_no h1.2).elim
 ·rename_i hw; simp only [hw] at h1; simp only [wpList] at h1; exact h1.2
theorem anyI_two (i j : Nat) {o o' : Oper} {f : Nat} {listed : Array Bool} {a : Act} {w : World} (hi : ops[i]? = some o) (hj : ops[j]? = some o') (hr : Region.ready md ops listed = [i, j]) (hI : I w)
  (h1 : opQ P ops o (anyI P md ops I Q f (listed.setIfInBounds i true)) a w) (h2 : opQ P ops o' (anyI P md ops I Q f (listed.setIfInBounds j true)) a w) : anyI P md ops I Q (f + 1) listed a w := by
 refine ⟨hI, by rw [hr]; simp, fun k hk => ?_⟩; rw [hr] at hk; simp at hk; rcases hk with rfl | rfl
 ·exact ⟨o, hi, h1⟩
 ·exact ⟨o', hj, h2⟩
theorem opQ_of_list {o : Oper} {K : Act → World → Prop} {a : Act} {w : World} (h : ∀ K' : Act → World → Prop, (∀ a w, K a w → K' a w) → wpList P ops (fun e a' w' => e = .normal ∧ K' a' w') [o] a w) : opQ P ops o K a w := by
 have h1 := h _ fun _ _ h => h; unfold wpList at h1; unfold opQ; split
 ·rename_i hw; simp only [hw, if_true] at h1; rcases h1 with h1 | h1
  ·unfold Oper.wp at *; generalize (execOp a.eval o).run P w = r at *; cases r with
   | ok n w' =>
    cases n <;> simp only [Oper.upon, wpList] at h1 ⊢
    case enter F args =>
     refine Calls.mono h1 fun e w'' he => ?_; cases e with
     | returned u => exact he.2
     | panicked c => cases he.1
     | outgrown => exact (lets_no he).elim
    case row row args => exact Rows.mono h1 fun u w'' he => he.2
    all_goals exact h1.2
   | halt x w' =>
    cases x <;> simp only [Oper.upon] at h1 ⊢
    cases h1.1
  ·exact (lets_no h1.2).elim
 ·rename_i hw; simp only [hw] at h1; simp only [wpList] at h1; exact h1.2
theorem anyI_end {listed : Array Bool} {a : Act} {w : World} (hr : (Region.ready md ops listed).isEmpty = true) (hI : I w) (h : Q a w) : anyI P md ops I Q 0 listed a w :=
 ⟨hI, by simpa using hr, h⟩
def stillUponV (P : Program) (w : World) (K : Value → Prop) : Result Next → Prop
 | .ok (.value v) w' => w' = w ∧ K v
 | .ok .skip w' => w' = w ∧ K undef
 | .ok (.enter f args) w' => w' = w ∧ ∃ v, Calls P f args w (fun e w'' => e = .returned v ∧ w'' = w) ∧ K v
 | _ => False
def stillV (P : Program) (ops : Array Oper) (o : Oper) (a : Act) (w : World) (K : Value → Prop) : Prop :=
 if Region.wanted o (yielded ops a.tmps) then stillUponV P w K ((execOp a.eval o).run P w) else K undef
theorem yields_of_stillV {o : Oper} {a : Act} {w : World} {v : Value} (h : ∀ K : Value → Prop, K v → stillV P ops o a w K) : YieldsAt P ops w o v a := by
 have h1 := h (fun u => u = v) rfl; unfold stillV at h1; unfold YieldsAt; by_cases hw : Region.wanted o (yielded ops a.tmps) = true
 ·simp only [hw, if_true] at h1; refine .inl ⟨hw, ?_⟩; generalize hr : (execOp a.eval o).run P w = r at h1; cases r with
  | ok n w' =>
   cases n <;> simp only [stillUponV] at h1
   case value u => obtain ⟨rfl, rfl⟩ := h1; exact .inl rfl
   case skip => obtain ⟨rfl, rfl⟩ := h1; exact .inr (.inl ⟨rfl, rfl⟩)
   case enter f args => obtain ⟨rfl, u, hc, rfl⟩ := h1; exact .inr (.inr ⟨f, args, rfl, hc⟩)
  | halt x w' => simp only [stillUponV] at h1
 ·simp only [hw] at h1; exact .inr ⟨by simpa using hw, h1.symm⟩
def stepOk (md : Region.Mode) (ops : Array Oper) (i : Nat) (listed : Array Bool) : Bool := Region.noSelect ops && (Region.ready md ops listed).contains i && Region.free md ops listed i
theorem anyI_step {l : List Oper} (i : Nat) {oi : Oper} {v : Value} {f : Nat} {listed : Array Bool} {a : Act} {w : World} (hi : l[i]? = some oi) (hB : stepOk md l.toArray i listed = true)
  (h1 : ∀ w', I w' → ∀ K : Value → Prop, K v → stillV P l.toArray oi a w' K)
  (h2 : ∀ K : Act → Prop, (∀ a', anyI P md l.toArray I Q f (listed.setIfInBounds i true) a' w → K a') → K (a.put oi.dst v)) : anyI P md l.toArray I Q (f + 1) listed a w := by
 simp only [stepOk, Bool.and_eq_true] at hB; have hi' : l.toArray[i]? = some oi := by simpa using hi
 exact anyI_first hi' (Region.noSelect_spec hB.1.1) f listed a w (Region.free_spec hi' hB.2) (by simpa using hB.1.2) (fun w' hI => yields_of_stillV (h1 w' hI)) (h2 _ fun _ h => h)
theorem anyI_one' {l : List Oper} (i : Nat) {o : Oper} {f : Nat} {listed : Array Bool} {a : Act} {w : World} (hi : l[i]? = some o) (hr : Region.ready md l.toArray listed = [i]) (hI : I w)
  (h : ∀ K : Act → World → Prop, (∀ a' w', anyI P md l.toArray I Q f (listed.setIfInBounds i true) a' w' → K a' w') → wpList P l.toArray (fun e a' w' => e = .normal ∧ K a' w') [o] a w) : anyI P md l.toArray I Q (f + 1) listed a w :=
 anyI_one i (by simpa using hi) hr hI h
theorem anyI_two' {l : List Oper} (i j : Nat) {o o' : Oper} {f : Nat} {listed : Array Bool} {a : Act} {w : World} (hi : l[i]? = some o) (hj : l[j]? = some o') (hr : Region.ready md l.toArray listed = [i, j]) (hI : I w)
  (h1 : ∀ K : Act → World → Prop, (∀ a' w', anyI P md l.toArray I Q f (listed.setIfInBounds i true) a' w' → K a' w') → wpList P l.toArray (fun e a' w' => e = .normal ∧ K a' w') [o] a w)
  (h2 : ∀ K : Act → World → Prop, (∀ a' w', anyI P md l.toArray I Q f (listed.setIfInBounds j true) a' w' → K a' w') → wpList P l.toArray (fun e a' w' => e = .normal ∧ K a' w') [o'] a w) : anyI P md l.toArray I Q (f + 1) listed a w :=
 anyI_two i j (by simpa using hi) (by simpa using hj) hr hI (opQ_of_list h1) (opQ_of_list h2)
theorem draw (I : World → Prop) {id : Nat} {Q : Exit → Act → World → Prop} {a : Act} {w : World} {l : List Oper} (f : Nat) (hf : l.length = f) (hm : P.follows .mixedOrders = true)
  (h : ∀ Q' : Act → World → Prop, (∀ a' w', Q .normal a' w' → Q' a' w') → anyI P .any l.toArray I Q' f (Array.replicate f false) a w.drew) : (Code.region id l.toArray true).wp P Q a w := by
 subst hf; refine wp_region_any hm ?_; have := h _ fun _ _ h => h; have h2 := any_of_anyI (Q' := Q) (fun _ _ h => h) _ _ _ _ this; simpa using h2
end
attribute [go_sem] stillV stillUponV
section
variable {P : Program} {ops : Array Oper} {md : Region.Mode} {I : World → Prop} {t : Nat} {Q : Act → World → Prop}
def waitsOn (md : Region.Mode) (ops : Array Oper) (t i : Nat) : Bool := ((ops[t]?).map fun o => o.after.any fun e => Region.binds md e && e.on == i).getD false
def anyL (P : Program) (md : Region.Mode) (ops : Array Oper) (I : World → Prop) (t : Nat) (Q : Act → World → Prop) : Nat → Array Bool → Act → World → Prop
 | 0, listed, a, w => I w ∧ Region.ready md ops listed = [t] ∧ Region.ready md ops (listed.setIfInBounds t true) = [] ∧ ∃ o, ops[t]? = some o ∧ opQ P ops o Q a w
 | f + 1, listed, a, w => I w ∧ Region.ready md ops listed ≠ [] ∧ ∀ i ∈ Region.ready md ops listed, ∃ o, ops[i]? = some o ∧ opQ P ops o (anyL P md ops I t Q f (listed.setIfInBounds i true)) a w
theorem any_of_anyL {Q' : Exit → Act → World → Prop} (hQ : ∀ a w, Q a w → Q' .normal a w) : ∀ (f : Nat) (listed : Array Bool) (a : Act) (w : World), anyL P md ops I t Q f listed a w → wpAny P md ops Q' (f + 1) listed a w
 | 0, listed, a, w, h => by
  refine ⟨fun h0 => absurd h0 (by rw [h.2.1]; simp), fun i hi => ?_⟩; rw [h.2.1] at hi; obtain rfl : i = t := by simpa using hi
  obtain ⟨o, ho, hop⟩ := h.2.2.2; have h2 : opQ P ops o (fun a w => wpAny P md ops Q' 0 (listed.setIfInBounds i true) a w) a w := opQ_mono (fun a w hq => ⟨h.2.2.1, hQ a w hq⟩) hop; unfold wpOp; simp only [ho]; unfold opQ at h2; split
  ·rename_i hw; simp only [hw, if_true] at h2; exact .inl (wp_mono_q h2)
  ·rename_i hw; simp only [hw] at h2; exact h2
 | f + 1, _, _, _, h => by
  refine ⟨fun h0 => absurd h0 h.2.1, fun i hi => ?_⟩; obtain ⟨o, ho, hop⟩ := h.2.2 i hi; have h2 := opQ_mono (fun a w h => any_of_anyL hQ f _ a w h) hop; unfold wpOp; simp only [ho]; unfold opQ at h2; split
  ·rename_i hw; simp only [hw, if_true] at h2; exact .inl (wp_mono_q h2)
  ·rename_i hw; simp only [hw] at h2; exact h2
theorem waits_of {i : Nat} (h : waitsOn md ops t i = true) : ∃ o, ops[t]? = some o ∧ ∃ e ∈ o.after, Region.binds md e = true ∧ e.on = i := by
 unfold waitsOn at h; cases ho : ops[t]? with
 | none => rw [ho] at h; cases h
 | some o =>
  rw [ho] at h; simp only [Option.map_some, Option.getD_some] at h; rw [Array.any_eq_true'] at h; obtain ⟨e, he, hb⟩ := h; simp only [Bool.and_eq_true, beq_iff_eq] at hb; exact ⟨o, rfl, e, he, hb.1, hb.2⟩
theorem anyL_first {i : Nat} {oi : Oper} {v : Value} (hi : ops[i]? = some oi) (hsel : ∀ (j : Nat) (o : Oper) cs b, ops[j]? = some o → o.op ≠ .select cs b) (hW : waitsOn md ops t i = true) :
  ∀ (f : Nat) (listed : Array Bool) (a : Act) (w : World),
   (∀ j oj, ops[j]? = some oj → j ≠ i → listed.getD j true = false → (∀ e ∈ oj.after, Region.binds md e = true → e.on ≠ i) → oi.apart ops oj = true) →
   i ∈ Region.ready md ops listed → (∀ w, I w → YieldsAt P ops w oi v a) →
   anyL P md ops I t Q f (listed.setIfInBounds i true) (a.put oi.dst v) w → anyL P md ops I t Q (f + 1) listed a w := by
 intro f; induction f with
 | zero =>
  intro listed a w hfree hr hy H; refine ⟨H.1, fun h => (by rw [h] at hr; cases hr), fun j hj => ?_⟩; by_cases hji : j = i
  ·subst hji; exact ⟨oi, hi, yields_opQ (hy w H.1) H⟩
  ·exfalso; have hjt := ready_mono hj hji; rw [H.2.1] at hjt; obtain rfl : j = t := by simpa using hjt
   obtain ⟨o, ho, e, he, hb, hon⟩ := waits_of hW; obtain ⟨_, oj, hoj, hall⟩ := Go.mem_ready.1 hj; obtain rfl : o = oj := Option.some.inj (ho.symm.trans hoj); have h1 := hall e he hb; have h0 := (Go.mem_ready.1 hr).1; rw [hon, getD_both h0] at h1; cases h1
 | succ f ih =>
  intro listed a w hfree hr hy H; refine ⟨H.1, fun h => (by rw [h] at hr; cases hr), fun j hj => ?_⟩; by_cases hji : j = i
  ·subst hji; exact ⟨oi, hi, yields_opQ (hy w H.1) H⟩
  ·obtain ⟨oj', hoj', h1⟩ := H.2.2 j (ready_mono hj hji); obtain ⟨hjun, oj, hoj, hall⟩ := Go.mem_ready.1 hj; obtain rfl : oj' = oj := Option.some.inj (hoj'.symm.trans hoj); have hnot : ∀ e ∈ oj'.after, Region.binds md e = true → e.on ≠ i := fun e he hb heq => by
    have h1 := hall e he hb; have h0 := (Go.mem_ready.1 hr).1; rw [heq, getD_both h0] at h1; cases h1
   have h2 := opQ_put (I := I) (hfree j oj' hoj hji hjun hnot) (fun cs b => hsel i oi cs b hi) (fun cs b => hsel j oj' cs b hoj) hy h1; have hfree' : ∀ k ok, ops[k]? = some ok → k ≠ i → (listed.setIfInBounds j true).getD k true = false →
     (∀ e ∈ ok.after, Region.binds md e = true → e.on ≠ i) → oi.apart ops ok = true := fun k ok hk hki hun hno => by
    refine hfree k ok hk hki ?_ hno; by_cases hjk : j = k
    ·subst hjk; exact hjun
    ·rw [getD_set_ne true hjk] at hun; exact hun
   refine ⟨oj', hoj, opQ_mono (fun a' w' h3 => ih (listed.setIfInBounds j true) a' w' hfree' (ready_mono hr (Ne.symm hji)) h3.1 ?_) h2⟩; rw [Array.setIfInBounds_comm _ _ hji]; exact h3.2
theorem anyL_step {l : List Oper} (i : Nat) {oi : Oper} {v : Value} {f : Nat} {listed : Array Bool} {a : Act} {w : World} (hW : waitsOn md l.toArray t i = true) (hi : l[i]? = some oi) (hB : stepOk md l.toArray i listed = true)
  (h1 : ∀ w', I w' → ∀ K : Value → Prop, K v → stillV P l.toArray oi a w' K)
  (h2 : ∀ K : Act → Prop, (∀ a', anyL P md l.toArray I t Q f (listed.setIfInBounds i true) a' w → K a') → K (a.put oi.dst v)) : anyL P md l.toArray I t Q (f + 1) listed a w := by
 simp only [stepOk, Bool.and_eq_true] at hB; have hi' : l.toArray[i]? = some oi := by simpa using hi
 exact anyL_first hi' (Region.noSelect_spec hB.1.1) hW f listed a w (Region.free_spec hi' hB.2) (by simpa using hB.1.2) (fun w' hI => yields_of_stillV (h1 w' hI)) (h2 _ fun _ h => h)
theorem anyL_one {l : List Oper} (i : Nat) {o : Oper} {f : Nat} {listed : Array Bool} {a : Act} {w : World} (hi : l[i]? = some o) (hr : Region.ready md l.toArray listed = [i]) (hI : I w)
  (h : ∀ K : Act → World → Prop, (∀ a' w', anyL P md l.toArray I t Q f (listed.setIfInBounds i true) a' w' → K a' w') → wpList P l.toArray (fun e a' w' => e = .normal ∧ K a' w') [o] a w) : anyL P md l.toArray I t Q (f + 1) listed a w := by
 refine ⟨hI, by rw [hr]; simp, fun j hj => ?_⟩; rw [hr] at hj; obtain rfl : j = i := by simpa using hj
 exact ⟨o, by simpa using hi, opQ_of_list h⟩
theorem anyL_end {l : List Oper} {o : Oper} {listed : Array Bool} {a : Act} {w : World} (hi : l[t]? = some o) (hr : (Region.ready md l.toArray listed == [t] && (Region.ready md l.toArray (listed.setIfInBounds t true)).isEmpty) = true) (hI : I w)
  (h : ∀ K : Act → World → Prop, (∀ a' w', Q a' w' → K a' w') → wpList P l.toArray (fun e a' w' => e = .normal ∧ K a' w') [o] a w) : anyL P md l.toArray I t Q 0 listed a w := by
 simp only [Bool.and_eq_true, beq_iff_eq, List.isEmpty_iff] at hr; exact ⟨hI, hr.1, hr.2, o, by simpa using hi, opQ_of_list h⟩
theorem drawl (I : World → Prop) (t : Nat) {id : Nat} {Q : Exit → Act → World → Prop} {a : Act} {w : World} {l : List Oper} (f : Nat) (hf : l.length = f + 1) (hm : P.follows .mixedOrders = true)
  (h : ∀ Q' : Act → World → Prop, (∀ a' w', Q .normal a' w' → Q' a' w') → anyL P .any l.toArray I t Q' f (Array.replicate (f + 1) false) a w.drew) : (Code.region id l.toArray true).wp P Q a w := by
 refine wp_region_any hm ?_; have := h _ fun _ _ h => h; have h2 := any_of_anyL (Q' := Q) (fun _ _ h => h) _ _ _ _ this; rw [← hf] at h2; simpa using h2
end
section
variable {P : Program} {md : Region.Mode} {I : World → Prop} {t : Nat} {Q : Act → World → Prop} {l : List Oper} {oi : Oper} {v : Value} {f : Nat} {listed : Array Bool} {a : Act} {w : World}
theorem sI (i : Nat) (_hu : listed[i]? = some false) (hi : l[i]? = some oi) (hB : stepOk md l.toArray i listed = true)
  (h1 : ∀ w', I w' → ∀ K : Value → Prop, K v → stillV P l.toArray oi a w' K)
  (h2 : ∀ K : Act → Prop, (∀ a', anyI P md l.toArray I Q f (listed.setIfInBounds i true) a' w → K a') → K (a.put oi.dst v)) : anyI P md l.toArray I Q (f + 1) listed a w := anyI_step i hi hB h1 h2
theorem sL (i : Nat) (_hu : listed[i]? = some false) (hW : waitsOn md l.toArray t i = true) (hi : l[i]? = some oi) (hB : stepOk md l.toArray i listed = true)
  (h1 : ∀ w', I w' → ∀ K : Value → Prop, K v → stillV P l.toArray oi a w' K)
  (h2 : ∀ K : Act → Prop, (∀ a', anyL P md l.toArray I t Q f (listed.setIfInBounds i true) a' w → K a') → K (a.put oi.dst v)) : anyL P md l.toArray I t Q (f + 1) listed a w := anyL_step i hW hi hB h1 h2
end
end Go.Proofs.Ytejabnoidhlfaaa
