/- Memory lemmas. -/
import Derived.Test.YtejabnoidhlfaaaDoorS1
import Derived.Maps.OwnSet
import Derived.RangeFuncBox
import Derived.Test.YtejabnoidhlfaaaDoorProg

/- Memory that a call keeps: frames, blocks that are known whole, maps. -/
namespace Go.Proofs.YtejabnoidhlfaaaDoor
open Go.RowKit Go.Maps
open Go.ChangeMaps (setBlock)

/-- w' is w, but for the blocks in S, and for new ones. -/
structure Frame (S : Nat → Prop) (w w' : World) : Prop where
 os : w'.os = w.os
 tape : w'.tape = w.tape
 output : w'.output = w.output
 size : w.heap.size ≤ w'.heap.size
 block : ∀ k, k < w.heap.size → ¬ S k → w'.heap[k]? = w.heap[k]?

section
variable {S T : Nat → Prop} {w w' w'' : World}
theorem Frame.refl (S : Nat → Prop) (w : World) : Frame S w w := ⟨rfl, rfl, rfl, Nat.le_refl _, fun _ _ _ => rfl⟩
theorem Frame.trans (h : Frame S w w') (k : Frame T w' w'') (hT : ∀ b, b < w.heap.size → T b → S b) : Frame S w w'' :=
 ⟨k.os.trans h.os, k.tape.trans h.tape, k.output.trans h.output, Nat.le_trans h.size k.size, fun b hb hn => (k.block b (Nat.lt_of_lt_of_le hb h.size) (fun ht => hn (hT b hb ht))).trans (h.block b hb hn)⟩
theorem Frame.mono (h : Frame S w w') (hS : ∀ b, b < w.heap.size → S b → T b) : Frame T w w' :=
 ⟨h.os, h.tape, h.output, h.size, fun b hb hn => h.block b hb (fun hs => hn (hS b hb hs))⟩
theorem Frame.of_below {B : Nat} (h : Below B w w') : Frame (fun k => B ≤ k) w w' := ⟨h.os, h.tape, h.output, h.size, fun k _ hn => h.block k (by omega)⟩
theorem Frame.of_all (h : Below w.heap.size w w') : Frame S w w' := ⟨h.os, h.tape, h.output, h.size, fun k hk _ => h.block k hk⟩
theorem Frame.of_grown {row : Option Nat} (h : w.grownBy w' row) : Frame (fun k => row = some k) w w' := ⟨h.os, h.tape, h.output, h.size, fun k hk hn => h.block k hk (fun e => hn e.symm)⟩
theorem Frame.alloc (h : Frame S w w') (o : Obj) : Frame S w (w'.alloc o) :=
 ⟨h.os, h.tape, h.output, Nat.le_trans h.size (by simp), fun k hk hn => (Below.heap_alloc w' o k (Nat.lt_of_lt_of_le hk h.size)).trans (h.block k hk hn)⟩
theorem Frame.setCell (h : Frame S w w') {p : Addr} (hp : S p.block ∨ w.heap.size ≤ p.block) (u : Value) : Frame S w (w'.setCell p u) :=
 ⟨h.os, h.tape, h.output, by simpa [World.setCell] using h.size, fun k hk hn => (Below.heap_setCell w' p u k (by rintro rfl; rcases hp with hp | hp; exact hn hp; omega)).trans (h.block k hk hn)⟩
theorem Frame.drew (h : Frame S w w') : Frame S w w'.drew := ⟨h.os, h.tape, h.output, h.size, h.block⟩
theorem Frame.below (h : Frame S w w') {B : Nat} (hS : ∀ b, S b → B ≤ b) (hB : B ≤ w.heap.size) : Below B w w' :=
 ⟨h.os, h.tape, h.output, h.size, fun k hk => h.block k (by omega) (fun hs => by have := hS k hs; omega)⟩

theorem Cells.frame {A : Option Addr} {cs : List Value} (h : Cells w A cs) (hf : Frame S w w') (hne : cs ≠ [] → ∀ a, A = some a → ¬ S a.block) : Cells w' A cs := by
 obtain ⟨hl, b, off, hb0, hA, hc⟩ := h
 refine ⟨hl, b, off, by have := hf.size; omega, fun hn => ⟨(hA hn).1, by have := (hA hn).2; have := hf.size; omega⟩, fun k v hk => ?_⟩
 have hn : cs ≠ [] := by rintro rfl; simp at hk
 have hh : w'.heap[b]? = w.heap[b]? := hf.block b (hA hn).2 (by simpa using hne hn _ (hA hn).1)
 exact (World.cell?_of_block (w := w) (w' := w') (a := ⟨b, off + k, none⟩) hh).trans (hc k v hk)
end

/-- The block b is just this. -/
def Blk (w : World) (b : Nat) (o : Obj) : Prop := w.heap[b]? = some o
section
variable {S : Nat → Prop} {w w' : World} {b : Nat} {o : Obj}
theorem Blk.lt (h : Blk w b o) : b < w.heap.size := by
 rcases Nat.lt_or_ge b w.heap.size with hlt | hge
 ·exact hlt
 ·unfold Blk at h; rw [Array.getElem?_eq_none hge] at h; cases h
theorem Blk.frame (h : Blk w b o) (hf : Frame S w w') (hn : ¬ S b) : Blk w' b o := (hf.block b h.lt hn).trans h
theorem Blk.below {B : Nat} (h : Blk w b o) (hf : Below B w w') (hb : b < B) : Blk w' b o := (hf.block b hb).trans h
theorem Blk.alloc (h : Blk w b o) (x : Obj) : Blk (w.alloc x) b o := (Below.heap_alloc w x b h.lt).trans h
theorem Blk.new (w : World) (o : Obj) : Blk (w.alloc o) w.heap.size o := World.alloc_heap_new w o
theorem Blk.drew (h : Blk w b o) : Blk w.drew b o := h
theorem Blk.far (h : Blk w b o) {p : Addr} (hp : b ≠ p.block) (u : Value) : Blk (w.setCell p u) b o := (Below.heap_setCell w p u b hp).trans h
theorem Blk.grown {row : Option Nat} (h : Blk w b o) (hg : w.grownBy w' row) (hn : row ≠ some b) : Blk w' b o := (hg.block b h.lt (fun e => hn e.symm)).trans h
variable {cs : Array Value} {t : TypeId}
theorem Blk.cell (h : Blk w b (.cells cs t)) (i : Nat) {v : Value} (hi : cs[i]? = some v) : w.cell? ⟨b, i, none⟩ = some v := by
 unfold Blk at h; simp only [World.cell?, h]; simpa using hi
theorem Blk.free (h : Blk w b (.cells cs t)) (i : Nat) : w.frozen? ⟨b, i, none⟩ = false := by
 unfold Blk at h; simp [World.frozen?, h]
theorem Blk.set (h : Blk w b (.cells cs t)) (i : Nat) (u : Value) : Blk (w.setCell ⟨b, i, none⟩ u) b (.cells (cs.setIfInBounds i u) t) := by
 unfold Blk at h ⊢; simp [World.setCell, Array.getElem?_modify, h]
theorem Blk.set1 {v : Value} (h : Blk w b (.cells #[v] t)) (u : Value) : Blk (w.setCell ⟨b, 0, none⟩ u) b (.cells #[u] t) := h.set 0 u
/-- A row of elements of another type lies elsewhere. -/
theorem own_ne {base : Nat} {e : TypeId} {size n : Nat} {v : Value} {xs : List Value} (hr : w.ownsRow base e size v n xs) (h : Blk w b (.cells cs t)) (hne : e ≠ t) : v.ownBlock ≠ some b := by
 rcases hr.2 with ⟨rfl, _⟩ | ⟨g, cap, cur, rfl, _, hh, _⟩
 ·simp [Value.ownBlock]
 ·intro he
  have hg : g = b := by simpa [Value.ownBlock] using he
  subst hg
  unfold Blk at h
  rw [hh] at h
  injection h with h
  injection h with _ ht
  exact hne ht
theorem own_ne_map {base : Nat} {e : TypeId} {size n : Nat} {v : Value} {xs : List Value} {es : Array MapEntry} {c : Nat} (hr : w.ownsRow base e size v n xs) (h : Blk w b (.map es c)) : v.ownBlock ≠ some b := by
 rcases hr.2 with ⟨rfl, _⟩ | ⟨g, cap, cur, rfl, _, hh, _⟩
 ·simp [Value.ownBlock]
 ·intro he
  have hg : g = b := by simpa [Value.ownBlock] using he
  subst hg
  unfold Blk at h
  rw [hh] at h
  cases h
theorem own_frame {base : Nat} {e : TypeId} {size n : Nat} {v : Value} {xs : List Value} (hr : w.ownsRow base e size v n xs) (hf : Frame S w w') (hn : ∀ g, v.ownBlock = some g → ¬ S g) : w'.ownsRow base e size v n xs := by
 refine ⟨hr.1, ?_⟩
 rcases hr.2 with h0 | ⟨g, cap, cur, hv, hb, hh, h1, h2, h3, h4⟩
 ·exact .inl h0
 ·refine .inr ⟨g, cap, cur, hv, hb, ?_, h1, h2, h3, h4⟩
  have hlt : g < w.heap.size := Blk.lt (o := .cells cur e) hh
  exact (hf.block g hlt (hn g (by subst hv; rfl))).trans hh
end

/-! ### maps -/
/-- The block b is a map with these entries, each key once. -/
def MapIs (P : Program) (kt : TypeId) (w : World) (b : Nat) (m : List (Value × Value)) : Prop :=
 ∃ es clock, Blk w b (.map es clock) ∧ es.toList.map (fun e => (e.key, e.val)) = m ∧ (∀ p ∈ m, ∃ l, keyOf P kt p.1 = some l) ∧ (m.map (·.1)).Nodup
section
variable {P : Program} {kt : TypeId} {w w' : World} {b : Nat} {m : List (Value × Value)} {S : Nat → Prop}
theorem MapIs.frame (h : MapIs P kt w b m) (hf : Frame S w w') (hn : ¬ S b) : MapIs P kt w' b m := by
 obtain ⟨es, c, hb, r⟩ := h
 exact ⟨es, c, hb.frame hf hn, r⟩
theorem MapIs.lt (h : MapIs P kt w b m) : b < w.heap.size := by
 obtain ⟨es, c, hb, _⟩ := h
 exact hb.lt
theorem MapIs.new (P : Program) (kt : TypeId) (w : World) : MapIs P kt (w.alloc (.map #[] 0)) w.heap.size [] := ⟨#[], 0, Blk.new _ _, rfl, by simp, by simp⟩
theorem MapIs.far (h : MapIs P kt w b m) {p : Addr} (hp : b ≠ p.block) (u : Value) : MapIs P kt (w.setCell p u) b m := by
 obtain ⟨es, c, hb, r⟩ := h
 exact ⟨es, c, hb.far hp u, r⟩
theorem MapIs.alloc (h : MapIs P kt w b m) (o : Obj) : MapIs P kt (w.alloc o) b m := by
 obtain ⟨es, c, hb, r⟩ := h
 exact ⟨es, c, hb.alloc o, r⟩
theorem MapIs.not_own {base : Nat} {e : TypeId} {size n : Nat} {v : Value} {xs : List Value} (h : MapIs P kt w b m) (hr : w.ownsRow base e size v n xs) : v.ownBlock ≠ some b := by
 obtain ⟨es, c, hb, _⟩ := h
 exact own_ne_map hr hb
theorem MapIs.not_blk {b' : Nat} {cs : Array Value} {t : TypeId} (h : MapIs P kt w b m) (hb' : Blk w b' (.cells cs t)) : b ≠ b' := by
 rintro rfl
 obtain ⟨es, c, hb, _⟩ := h
 unfold Blk at hb hb'
 rw [hb] at hb'; cases hb'

theorem nodup_val {m : List (Value × Value)} (h : (m.map (·.1)).Nodup) {k u v : Value} (hu : (k, u) ∈ m) (hv : (k, v) ∈ m) : u = v := by
 induction m with
 | nil => cases hu
 | cons p r ih =>
  rw [List.map_cons, List.nodup_cons] at h
  rcases List.mem_cons.1 hu with e1 | h1 <;> rcases List.mem_cons.1 hv with e2 | h2
  ·rw [← e1] at e2; injection e2 with _ e; exact e.symm
  ·exact absurd (List.mem_map.2 ⟨_, h2, by rw [← e1]⟩) h.1
  ·exact absurd (List.mem_map.2 ⟨_, h1, by rw [← e2]⟩) h.1
  ·exact ih h.2 h1 h2

theorem entries_keys (h : ∀ p ∈ m, ∃ l, keyOf P kt p.1 = some l) {es : Array MapEntry} (he : es.toList.map (fun e => (e.key, e.val)) = m) : ∀ e ∈ es.toList, ∃ l, keyOf P kt e.key = some l := by
 intro e hm
 exact h (e.key, e.val) (by rw [← he]; exact List.mem_map_of_mem hm)

theorem MapIs.look_no {t et : TypeId} (K : Keyed P kt) (ht : P.underlying t = some (.map kt et)) (h : MapIs P kt w b m) {k : Value} {l : Lit} (hk : keyOf P kt k = some l) (hno : ∀ p ∈ m, p.1 ≠ k) {z : Value} (hz : (zeroValue et).run P w = .ok z w) (ok : Bool) :
  (Instr.lookup t (.map (some b)) k ok).run P w = .ok (if ok then .tuple #[z, .bool false] else z) w := by
 obtain ⟨es, c, hb, he, hks, hnd⟩ := h
 rcases K.find w hk es.toList (entries_keys hks he) with ⟨hr, _⟩ | ⟨j, e, hr, hj, hek⟩
 ·simp [Instr.lookup, run_underlying ht, MapKept.run_getObj_map hb, K.check w _ hk, hr, hz, Result.andThen]
 ·exact absurd hek (hno (e.key, e.val) (by rw [← he]; exact List.mem_map.2 ⟨e, List.mem_of_getElem? hj, rfl⟩))

theorem MapIs.look_yes {t et : TypeId} (K : Keyed P kt) (ht : P.underlying t = some (.map kt et)) (h : MapIs P kt w b m) {k v : Value} {l : Lit} (hk : keyOf P kt k = some l) (hin : (k, v) ∈ m) (ok : Bool) :
  (Instr.lookup t (.map (some b)) k ok).run P w = .ok (if ok then .tuple #[v, .bool true] else v) w := by
 obtain ⟨es, c, hb, he, hks, hnd⟩ := h
 have hin' := hin
 rw [← he] at hin'
 obtain ⟨e0, he0, hkv⟩ := List.mem_map.1 hin'
 rcases K.find w hk es.toList (entries_keys hks he) with ⟨_, hn⟩ | ⟨j, e, hr, hj, hek⟩
 ·exact absurd (by injection hkv) (hn e0 he0)
 ·have hv : e.val = v := by
   have hm : (e.key, e.val) ∈ m := by rw [← he]; exact List.mem_map.2 ⟨e, List.mem_of_getElem? hj, rfl⟩
   rw [hek] at hm
   exact nodup_val hnd hm hin
  subst hv
  simp [Instr.lookup, run_underlying ht, MapKept.run_getObj_map hb, K.check w _ hk, hr, Result.andThen]

theorem MapIs.put_new {t et : TypeId} (K : Keyed P kt) (ht : P.underlying t = some (.map kt et)) (h : MapIs P kt w b m) {k v : Value} {l : Lit} (hk : keyOf P kt k = some l) (hno : ∀ p ∈ m, p.1 ≠ k) :
  ∃ w', (Instr.mapUpdate t (.map (some b)) k v).run P w = .ok () w' ∧ MapIs P kt w' b (m ++ [(k, v)]) ∧ w.grownBy w' (some b) := by
 obtain ⟨es, c, hb, he, hks, hnd⟩ := h
 rcases K.find w hk es.toList (entries_keys hks he) with ⟨hr, _⟩ | ⟨j, e, hr, hj, hek⟩
 ·refine ⟨setBlock w b (.map (es.push ⟨k, v, c⟩) (c + 1)), ?_, ⟨es.push ⟨k, v, c⟩, c + 1, ?_, ?_, ?_, ?_⟩, ?_⟩
  ·simp [Instr.mapUpdate, run_underlying ht, MapKept.run_getObj_map hb, K.check w false hk, hr, MapKept.run_setObj_map _ hb, Result.andThen, setBlock]
  ·have hlt := hb.lt
   show (w.heap.setIfInBounds b _)[b]? = _
   simp [hlt]
  ·simp [he]
  ·intro p hp
   rcases List.mem_append.1 hp with hp | hp
   ·exact hks p hp
   ·simp at hp; subst hp; exact ⟨l, hk⟩
  ·rw [List.map_append, List.nodup_append]
   refine ⟨hnd, by simp, ?_⟩
   intro x hx y hy
   simp at hy
   subst hy
   obtain ⟨p, hp, rfl⟩ := List.mem_map.1 hx
   exact hno p hp
  ·exact ⟨rfl, rfl, rfl, by simp [setBlock], fun i hi hne => by
    show (w.heap.setIfInBounds b _)[i]? = _
    rw [Array.getElem?_setIfInBounds, if_neg (by rintro rfl; exact hne rfl)]⟩
 ·exact absurd hek (hno (e.key, e.val) (by rw [← he]; exact List.mem_map.2 ⟨e, List.mem_of_getElem? hj, rfl⟩))
end
end Go.Proofs.YtejabnoidhlfaaaDoor

/- Maps from numbers to texts: their content as a function. -/
namespace Go.Proofs.YtejabnoidhlfaaaDoor
open Go.RowKit Go.Maps
open Go.ChangeMaps (setBlock)

theorem eraseIdx_map_ {α β : Type} (f : α → β) : ∀ (l : List α) (i : Nat), (l.map f).eraseIdx i = (l.eraseIdx i).map f
 | [], _ => by simp
 | x :: l, 0 => by simp
 | x :: l, i + 1 => by simp [eraseIdx_map_ f l i]
section
variable {P : Program} {kt t et : TypeId} {w w' : World} {b : Nat} {m : List (Value × Value)} {S : Nat → Prop}
/-- 'delete(m, k)'. -/
theorem MapIs.del (K : Keyed P kt) (ht : P.underlying t = some (.map kt et)) (h : MapIs P kt w b m) {k : Value} {l : Lit} (hk : keyOf P kt k = some l) (ty : TypeId) :
  ∃ w' m', (Builtin.delete_ #[t, kt] ty #[.map (some b), k]).run P w = .ok (.tuple #[]) w' ∧ MapIs P kt w' b m' ∧ (∀ p, p ∈ m' ↔ p ∈ m ∧ p.1 ≠ k) ∧ w.grownBy w' (some b) := by
 obtain ⟨es, c, hb, he, hks, hnd⟩ := h
 have hlt := hb.lt
 have hgb : ∀ o, w.grownBy (setBlock w b o) (some b) := fun o => ⟨rfl, rfl, rfl, by simp [setBlock], fun i hi hne => by
  show (w.heap.setIfInBounds b _)[i]? = _
  rw [Array.getElem?_setIfInBounds, if_neg (by rintro rfl; exact hne rfl)]⟩
 have hbk : ∀ o, Blk (setBlock w b o) b o := fun o => by
  show (w.heap.setIfInBounds b _)[b]? = _
  simp [hlt]
 rcases K.find w hk es.toList (entries_keys hks he) with ⟨hr, hn⟩ | ⟨j, e, hr, hj, hek⟩
 ·refine ⟨setBlock w b (.map es c), m, ?_, ⟨es, c, hbk _, he, hks, hnd⟩, fun p => ⟨fun hp => ⟨hp, ?_⟩, fun hp => hp.1⟩, hgb _⟩
  ·simp [Builtin.delete_, run_underlying ht, MapKept.run_getObj_map hb, K.check w _ hk, hr, MapKept.run_setObj_map _ hb, Result.andThen, setBlock]
  ·rw [← he] at hp
   obtain ⟨x, hx, rfl⟩ := List.mem_map.1 hp
   exact hn x hx
 ·have hjl : j < es.toList.length := (List.getElem?_eq_some_iff.1 hj).1
  have hjm : m[j]? = some (e.key, e.val) := by rw [← he, List.getElem?_map, hj]; rfl
  have hme : (es.eraseIdxIfInBounds j).toList.map (fun e => (e.key, e.val)) = m.eraseIdx j := by
   rw [← he]
   have : (es.eraseIdxIfInBounds j).toList = es.toList.eraseIdx j := by
    unfold Array.eraseIdxIfInBounds
    rw [dif_pos (by simpa using hjl)]
    simp
   rw [this, ← eraseIdx_map_]
  have hsub : ∀ p, p ∈ m.eraseIdx j → p ∈ m := fun p hp => List.mem_of_mem_eraseIdx hp
  refine ⟨setBlock w b (.map (es.eraseIdxIfInBounds j) c), m.eraseIdx j, ?_, ⟨_, c, hbk _, hme, fun p hp => hks p (hsub p hp), ?_⟩, fun p => ⟨fun hp => ⟨hsub p hp, ?_⟩, fun hp => ?_⟩, hgb _⟩
  ·simp [Builtin.delete_, run_underlying ht, MapKept.run_getObj_map hb, K.check w _ hk, hr, MapKept.run_setObj_map _ hb, Result.andThen, setBlock]
  ·rw [← eraseIdx_map_]
   exact hnd.sublist (List.eraseIdx_sublist ..)
  ·intro e1
   rw [List.mem_eraseIdx_iff_getElem?] at hp
   obtain ⟨i, hne, hi⟩ := hp
   apply hne
   have h1 : (m.map (·.1))[i]? = some k := by rw [List.getElem?_map, hi]; simp [e1]
   have h2 : (m.map (·.1))[j]? = some k := by rw [List.getElem?_map, hjm]; simp [hek]
   have hil : i < (m.map (·.1)).length := (List.getElem?_eq_some_iff.1 h1).1
   have hjl' : j < (m.map (·.1)).length := (List.getElem?_eq_some_iff.1 h2).1
   exact (List.getElem?_inj hil hnd).1 (h1.trans h2.symm)
  ·obtain ⟨i, hi⟩ := List.getElem?_of_mem hp.1
   rw [List.mem_eraseIdx_iff_getElem?]
   refine ⟨i, fun e1 => hp.2 ?_, hi⟩
   subst e1
   rw [hjm] at hi
   injection hi with hi
   rw [← hi]; exact hek
/-- 'clear(m)'. -/
theorem MapIs.wipe (ht : P.underlying t = some (.map kt et)) (h : MapIs P kt w b m) (ty : TypeId) :
  ∃ w', (Builtin.clear_ #[t] ty #[.map (some b)]).run P w = .ok (.tuple #[]) w' ∧ MapIs P kt w' b [] ∧ w.grownBy w' (some b) := by
 obtain ⟨es, c, hb, he, hks, hnd⟩ := h
 have hlt := hb.lt
 refine ⟨setBlock w b (.map #[] c), ?_, ⟨#[], c, ?_, rfl, by simp, by simp⟩, rfl, rfl, rfl, by simp [setBlock], fun i hi hne => ?_⟩
 ·simp [Builtin.clear_, run_underlying ht, MapKept.run_getObj_map hb, MapKept.run_setObj_map _ hb, Result.andThen, setBlock]
 ·show (w.heap.setIfInBounds b _)[b]? = _
  simp [hlt]
 ·show (w.heap.setIfInBounds b _)[i]? = _
  rw [Array.getElem?_setIfInBounds, if_neg (by rintro rfl; exact hne rfl)]
end

theorem zstr (w : World) : (zeroValue 9).run Tryd.prog w = .ok (.string ByteArray.empty) w := by kernel_rfl
def rng64 (x : Int) : Prop := -9223372036854775808 ≤ x ∧ x ≤ 9223372036854775807
/-- The map in the block b says g. -/
def Early (w : World) (b : Nat) (g : Int → Option ByteArray) : Prop :=
 ∃ m, MapIs Tryd.prog 3 w b m ∧ (∀ p ∈ m, ∃ k s, p = (Value.int .i64 k, Value.string s) ∧ g k = some s) ∧ ∀ k s, g k = some s → (Value.int .i64 k, Value.string s) ∈ m
def updG (g : Int → Option ByteArray) (k : Int) (v : Option ByteArray) : Int → Option ByteArray := fun x => if x = k then v else g x
section
variable {w w' : World} {b : Nat} {g : Int → Option ByteArray} {S : Nat → Prop}
theorem Early.frame (h : Early w b g) (hf : Frame S w w') (hn : ¬ S b) : Early w' b g := by
 obtain ⟨m, h1, h2, h3⟩ := h
 exact ⟨m, h1.frame hf hn, h2, h3⟩
theorem Early.lt (h : Early w b g) : b < w.heap.size := by
 obtain ⟨m, h1, _⟩ := h
 exact h1.lt
theorem Early.not_blk (h : Early w b g) {b' : Nat} {cs : Array Value} {t : TypeId} (hb' : Blk w b' (.cells cs t)) : b ≠ b' := by
 obtain ⟨m, h1, _⟩ := h
 exact h1.not_blk hb'
theorem Early.not_own (h : Early w b g) {base : Nat} {e : TypeId} {size n : Nat} {v : Value} {xs : List Value} (hr : w.ownsRow base e size v n xs) : v.ownBlock ≠ some b := by
 obtain ⟨m, h1, _⟩ := h
 exact h1.not_own hr
theorem Early.new (w : World) : Early (w.alloc (.map #[] 0)) w.heap.size (fun _ => none) := ⟨[], MapIs.new _ _ _, by simp, by simp⟩
theorem Early.look (h : Early w b g) {k : Int} (hk : rng64 k) :
  (Instr.lookup 84 (.map (some b)) (.int .i64 k) true).run Tryd.prog w = .ok (.tuple #[.string ((g k).getD ByteArray.empty), .bool (g k).isSome]) w := by
 have hkey : keyOf Tryd.prog 3 (.int .i64 k) = some (.int .i64 k) := keyOf_int_mk Tryd.underlying3 (WalkArith.wf_i64 hk)
 have K : Keyed Tryd.prog 3 := int_keyed Tryd.underlying3
 obtain ⟨m, h1, h2, h4⟩ := h
 cases hg : g k with
 | none =>
  have := h1.look_no K Tryd.underlying84 hkey (fun p hp e => by
   obtain ⟨k', s, rfl, hs⟩ := h2 p hp
   injection e with _ e
   subst e
   rw [hg] at hs
   cases hs) (zstr w) true
  simpa using this
 | some s =>
  have := h1.look_yes K Tryd.underlying84 hkey (h4 k s hg) true
  simpa using this
theorem Early.put (h : Early w b g) {k : Int} (hk : rng64 k) (hn : g k = none) (s : ByteArray) :
  ∃ w', (Instr.mapUpdate 84 (.map (some b)) (.int .i64 k) (.string s)).run Tryd.prog w = .ok () w' ∧ Early w' b (updG g k (some s)) ∧ w.grownBy w' (some b) := by
 have hkey : keyOf Tryd.prog 3 (.int .i64 k) = some (.int .i64 k) := keyOf_int_mk Tryd.underlying3 (WalkArith.wf_i64 hk)
 have K : Keyed Tryd.prog 3 := int_keyed Tryd.underlying3
 obtain ⟨m, h1, h2, h4⟩ := h
 obtain ⟨w', hr, hm, hg⟩ := h1.put_new K Tryd.underlying84 hkey (v := .string s) (fun p hp e => by
   obtain ⟨k', s', rfl, hs⟩ := h2 p hp
   injection e with _ e
   subst e
   rw [hn] at hs
   cases hs)
 refine ⟨w', hr, ⟨_, hm, fun p hp => ?_, fun k' s' hs => ?_⟩, hg⟩
 ·rcases List.mem_append.1 hp with hp | hp
  ·obtain ⟨k', s', rfl, hs⟩ := h2 p hp
   refine ⟨k', s', rfl, ?_⟩
   unfold updG
   rw [if_neg (by rintro rfl; rw [hn] at hs; cases hs)]
   exact hs
  ·simp at hp
   subst hp
   exact ⟨k, s, rfl, by simp [updG]⟩
 ·unfold updG at hs
  by_cases e : k' = k
  ·rw [if_pos e] at hs
   injection hs with hs
   subst e hs
   simp
  ·rw [if_neg e] at hs
   exact List.mem_append_left _ (h4 k' s' hs)
theorem Early.del (h : Early w b g) {k : Int} (hk : rng64 k) (ty : TypeId) :
  ∃ w', (Builtin.delete_ #[84, 3] ty #[.map (some b), .int .i64 k]).run Tryd.prog w = .ok (.tuple #[]) w' ∧ Early w' b (updG g k none) ∧ w.grownBy w' (some b) := by
 have hkey : keyOf Tryd.prog 3 (.int .i64 k) = some (.int .i64 k) := keyOf_int_mk Tryd.underlying3 (WalkArith.wf_i64 hk)
 have K : Keyed Tryd.prog 3 := int_keyed Tryd.underlying3
 obtain ⟨m, h1, h2, h4⟩ := h
 obtain ⟨w', m', hr, hm, hiff, hg⟩ := h1.del K Tryd.underlying84 hkey ty
 refine ⟨w', hr, ⟨m', hm, fun p hp => ?_, fun k' s' hs => ?_⟩, hg⟩
 ·obtain ⟨hp1, hp2⟩ := (hiff p).1 hp
  obtain ⟨k', s', rfl, hs⟩ := h2 p hp1
  refine ⟨k', s', rfl, ?_⟩
  unfold updG
  rw [if_neg (by rintro rfl; exact hp2 rfl)]
  exact hs
 ·unfold updG at hs
  by_cases e : k' = k
  ·rw [if_pos e] at hs; cases hs
  ·rw [if_neg e] at hs
   refine (hiff _).2 ⟨h4 k' s' hs, fun e2 => e ?_⟩
   injection e2 with _ e2
theorem Early.wipe (h : Early w b g) (ty : TypeId) :
  ∃ w', (Builtin.clear_ #[84] ty #[.map (some b)]).run Tryd.prog w = .ok (.tuple #[]) w' ∧ Early w' b (fun _ => none) ∧ w.grownBy w' (some b) := by
 obtain ⟨m, h1, h2, h4⟩ := h
 obtain ⟨w', hr, hm, hg⟩ := h1.wipe Tryd.underlying84 ty
 exact ⟨w', hr, ⟨[], hm, by simp, by simp⟩, hg⟩
end
end Go.Proofs.YtejabnoidhlfaaaDoor
