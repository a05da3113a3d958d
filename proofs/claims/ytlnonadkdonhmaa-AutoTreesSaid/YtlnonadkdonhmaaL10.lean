/- Contracts and lemmas that a claim of this seat uses. -/
import Derived.Test.YtlnonadkdonhmaaL1
import Derived.Deep.Slices
import Derived.SizedLaws
import Derived.Lib.SmallJoins
import Derived.ProofKit
import Derived.OpenShut
import Derived.ShutString
import Derived.ChangeOld
import Derived.Below
import Derived.Test.YtlnonadkdonhmaaL2
import Derived.Test.YtlnonadkdonhmaaL4
import Derived.Test.YtlnonadkdonhmaaL3

/- Arguments: what comes in reads as lists. -/
namespace Go.Proofs.Ytlnonadkdonhmaa
open Go.RowKit Go.ChangeShapes Go.WideShapes Go.ChangeAt

section
variable {H : Type} {enc : TypeId × Value → H} {P : Program} {w : World}

/-- Each slice, string and map in it is within reach. -/
def sz (P : Program) (t : TypeId) (d : DataW H) : Prop := ∀ n ∈ d.weights P t, n ≤ reachBytes

theorem weightsAll_mem {e : TypeId} : ∀ {ds : List (DataW H)} {d : DataW H} {n : Nat}, d ∈ ds → n ∈ d.weights P e → n ∈ DataW.weightsAll P e ds
  | [], _, _, h, _ => by cases h
  | d0 :: ds, d, n, h, hn => by
    simp only [DataW.weightsAll, List.mem_append]
    rcases List.mem_cons.1 h with rfl | h
    · exact .inl hn
    · exact .inr (weightsAll_mem h hn)
theorem sz_elem {t e : TypeId} {xs ys : List (DataW H)} {d : DataW H} (ht : P.underlying t = some (.slice e)) (h : sz P t (.slice xs ys)) (hd : d ∈ xs ∨ d ∈ ys) : sz P e d := by
  intro n hn
  refine h n ?_
  simp only [DataW.weights, ht]
  refine List.mem_cons_of_mem _ (List.mem_append.2 ?_)
  rcases hd with hd | hd
  · exact .inl (weightsAll_mem hd hn)
  · exact .inr (weightsAll_mem hd hn)
theorem sz_len {t e : TypeId} {xs ys : List (DataW H)} (ht : P.underlying t = some (.slice e)) (h : sz P t (.slice xs ys)) : (xs.length + ys.length) * P.bytesOf e ≤ reachBytes := by
  refine h _ ?_
  simp only [DataW.weights, ht]
  exact List.mem_cons_self ..

theorem list_of {α : Type} {p : Nat → α → Prop} : ∀ n : Nat, (∀ i, i < n → ∃ x, p i x) → ∃ xs : List α, xs.length = n ∧ ∀ i x, xs[i]? = some x → p i x
  | 0, _ => ⟨[], rfl, by simp⟩
  | n + 1, h => by
    obtain ⟨xs, hl, hx⟩ := list_of n fun i hi => h i (by omega)
    obtain ⟨y, hy⟩ := h n (by omega)
    refine ⟨xs ++ [y], by simp [hl], fun i x hi => ?_⟩
    rcases Nat.lt_or_ge i n with h1 | h1
    · rw [List.getElem?_append_left (by omega)] at hi
      exact hx i x hi
    · rw [List.getElem?_append_right (by omega), hl] at hi
      obtain rfl : i = n := by
        have := (List.getElem?_eq_some_iff.1 hi).1
        simp at this; omega
      simp at hi
      subst hi
      exact hy
theorem add_at (b off j : Nat) : (⟨b, off, none⟩ : Addr).add j = ⟨b, off + j, none⟩ := by
  unfold Addr.add
  by_cases h : j = 0
  · simp [h]
  · simp [h]
theorem cell_block {a : Addr} {v : Value} (h : w.cell? a = some v) : a.block < w.heap.size := by
  rcases Nat.lt_or_ge a.block w.heap.size with hlt | hge
  · exact hlt
  · exfalso
    have e : w.heap[a.block]? = none := Array.getElem?_eq_none hge
    unfold World.cell? at h
    rw [e] at h
    cases h

/-- A slice whose elements read as f says. -/
theorem open_elems {α : Type} {t e : TypeId} {k bytes : Nat} (f : α → List Value) (Q : α → Prop) (hf : ∀ x, (f x).length = k) (ht : P.underlying t = some (.slice e)) (hc : P.cellsOf e = k) (hb : P.bytesOf e = bytes) (hkb : k * 8 ≤ bytes) (hk : 0 < k)
    (rdE : ∀ fuel cs d p, DataW.trod enc P w 0 (fun _ => true) true fuel e cs = some (d, p) → sz P e d → ∃ x, cs = f x ∧ Q x)
    {fuel : Nat} {v : Value} {d : DataW H} {p : List MemPlace} (h : DataW.trod enc P w 0 (fun _ => true) true fuel t [v] = some (d, p)) (hs : sz P t d) :
    ∃ (A : Option Addr) (xs : List α) (c : Nat), v = .slice A xs.length c ∧ Cells w A (xs.flatMap f) ∧ ∀ x ∈ xs, Q x := by
  rcases Go.Deep.open_slice ht h with ⟨hcs, _⟩ | ⟨a, len, cap, m, n, D, Pl, hcs, _, hl, hm, hmm, hx, hE⟩
  · injection hcs with hcs _
    exact ⟨none, [], 0, hcs, Cells.nil _ _, fun x hx => by cases hx⟩
  · injection hcs with hcs _
    obtain rfl : m = cap := by simpa using hmm
    injection hx with hd _
    subst hd
    have hlen := sz_len ht hs
    simp only [List.length_map, List.length_range] at hlen
    rw [hb, Nat.add_sub_cancel' hl] at hlen
    have hel : ∀ i, i < len → ∃ x, w.cells? 0 (a.add (i * k)) k = some (f x) ∧ Q x := by
      intro i hi
      obtain ⟨cs', h1, h2⟩ := hE i (by omega)
      rw [hc] at h1
      obtain ⟨x, rfl, hq⟩ := rdE _ _ _ _ h2 (sz_elem ht hs (.inl (List.mem_map.2 ⟨i, List.mem_range.2 hi, rfl⟩)))
      exact ⟨x, h1, hq⟩
    obtain ⟨xs, hxl, hxs⟩ := list_of len hel
    have hcellx : ∀ i x j u, xs[i]? = some x → (f x)[j]? = some u → w.cell? (a.add (i * k + j)) = some u := by
      intro i x j u hi hj
      obtain ⟨_, _, hcell⟩ := World.cells?_some (hxs i x hi).1
      have hjk : j < k := by rw [← hf x]; exact (List.getElem?_eq_some_iff.1 hj).1
      rw [← Go.Deep.add_add, hcell j hjk, hj]
    refine ⟨some a, xs, m, by rw [hxl]; exact hcs, ?_, fun x hx => ?_⟩
    · have hbound : (xs.flatMap f).length ≤ 17592186043904 := by
        rw [flat_len hf, hxl]
        have h1 : len * (k * 8) ≤ len * bytes := Nat.mul_le_mul_left _ hkb
        have h2 : len * bytes ≤ m * bytes := Nat.mul_le_mul_right _ hl
        have h3 : len * k * 8 = len * (k * 8) := Nat.mul_assoc _ _ _
        unfold reachBytes at hlen
        omega
      cases hxe : xs with
      | nil =>
        exact ⟨by simp, 0, 0, by omega, fun hn => absurd rfl hn, fun k v hv => by simp at hv⟩
      | cons x0 xr =>
        have h0 : xs[0]? = some x0 := by rw [hxe]; rfl
        obtain ⟨u, hu⟩ : ∃ u, (f x0)[0]? = some u := ⟨_, List.getElem?_eq_getElem (by rw [hf]; exact hk)⟩
        have hc0 := hcellx 0 x0 0 u h0 hu
        rw [Nat.zero_mul, Nat.zero_add] at hc0
        have ha0 : a.add 0 = a := by unfold Addr.add; simp
        rw [ha0] at hc0
        have hsp := World.cell?_spot hc0
        have hbk := cell_block hc0
        obtain ⟨b, off, spot⟩ := a
        simp only at hsp hbk
        subst hsp
        rw [← hxe]
        refine ⟨hbound, b, off, by omega, fun _ => ⟨rfl, hbk⟩, fun j v hv => ?_⟩
        have hjl : j < (xs.flatMap f).length := (List.getElem?_eq_some_iff.1 hv).1
        rw [flat_len hf] at hjl
        have hj : j = (j / k) * k + j % k := by rw [Nat.mul_comm]; exact (Nat.div_add_mod j k).symm
        have hjm : j % k < k := Nat.mod_lt _ hk
        rw [hj, flat_get hf xs (j / k) (j % k) hjm] at hv
        obtain ⟨x, hx1, hx2⟩ := Option.bind_eq_some_iff.1 hv
        have := hcellx _ _ _ _ hx1 hx2
        rw [← hj, add_at] at this
        exact this
    · obtain ⟨i, hi, rfl⟩ := List.mem_iff_getElem.1 hx
      exact (hxs i _ (List.getElem?_eq_getElem hi)).2
end
end Go.Proofs.Ytlnonadkdonhmaa

/- What the laws' arguments read as: groups, machines, words, numbers, trees. -/
namespace Go.Proofs.Ytlnonadkdonhmaa
open Go.RowKit Go.ChangeShapes Go.WideShapes Go.ChangeAt

section
variable {H : Type} {enc : TypeId × Value → H} {w : World}

theorem c3 : Try.prog.cellsOf 3 = 1 := by kernel_rfl
theorem c22 : Try.prog.cellsOf 22 = 1 := by kernel_rfl
theorem c24 : Try.prog.cellsOf 24 = 2 := by kernel_rfl
theorem c25 : Try.prog.cellsOf 25 = 1 := by kernel_rfl
theorem c27 : Try.prog.cellsOf 27 = 1 := by kernel_rfl
theorem c101 : Try.prog.cellsOf 101 = 1 := by kernel_rfl
theorem c103 : Try.prog.cellsOf 103 = 2 := by kernel_rfl
theorem c107 : Try.prog.cellsOf 107 = 4 := by kernel_rfl
theorem c118 : Try.prog.cellsOf 118 = 2 := by kernel_rfl
theorem b3 : Try.prog.bytesOf 3 = 8 := by kernel_rfl
theorem b101 : Try.prog.bytesOf 101 = 24 := by kernel_rfl
theorem b103 : Try.prog.bytesOf 103 = 32 := by kernel_rfl
theorem b107 : Try.prog.bytesOf 107 = 32 := by kernel_rfl
theorem b118 : Try.prog.bytesOf 118 = 16 := by kernel_rfl

theorem ints_flat (xs : List Int) : xs.flatMap (fun x : Int => [Value.int .i64 x]) = ints xs := by
  unfold ints
  induction xs with
  | nil => rfl
  | cons a r ih => rw [List.flatMap_cons, ih]; rfl
theorem zip_self {α β : Type} (xs : List (α × β)) : (xs.map (·.1)).zip (xs.map (·.2)) = xs := by
  induction xs with
  | nil => rfl
  | cons a r ih => simp [ih]

theorem rdInt (fuel : Nat) (cs : List Value) (d : DataW H) (p : List MemPlace) (h : DataW.trod enc Try.prog w 0 (fun _ => true) true fuel 3 cs = some (d, p)) : ∃ x : Int, cs = [.int .i64 x] ∧ (Lit.int .i64 x).wf = true := by
  obtain ⟨n, hc, _, hw⟩ := DataW.trod_int Try.underlying3 h
  exact ⟨n, hc, hw⟩

set_option maxRecDepth 100000 in
theorem open_slI {fuel : Nat} {v : Value} {d : DataW H} {p : List MemPlace} (h : DataW.trod enc Try.prog w 0 (fun _ => true) true fuel 22 [v] = some (d, p)) (hs : sz Try.prog 22 d) :
    ∃ (A : Option Addr) (xs : List Int) (c : Nat), v = .slice A xs.length c ∧ Cells w A (ints xs) := by
  obtain ⟨A, xs, c, hv, hc, _⟩ := open_elems (fun x : Int => [Value.int .i64 x]) (fun x => (Lit.int .i64 x).wf = true) (fun _ => rfl) Try.underlying22 c3 b3 (by decide) (by decide) (fun _ _ _ _ h _ => rdInt _ _ _ _ h) h hs
  refine ⟨A, xs, c, hv, ?_⟩
  rwa [ints_flat] at hc

theorem two_cells {cs : List Value} (h : cs.length = 2) : ∃ a b, cs = [a, b] := by
  match cs, h with
  | [a, b], _ => exact ⟨a, b, rfl⟩

set_option maxRecDepth 100000 in
theorem rdLt (fuel : Nat) (cs : List Value) (d : DataW H) (p : List MemPlace) (h : DataW.trod enc Try.prog w 0 (fun _ => true) true fuel 118 cs = some (d, p)) : ∃ x : Lt, cs = ltCells x ∧ True := by
  obtain ⟨y0, y1, n, _, hl, h0, h1⟩ := trod_struct2 Try.underlying118 h
  rw [c118] at hl
  obtain ⟨a, b, rfl⟩ := two_cells hl
  simp only [c3, List.drop_zero, List.take_succ_cons, List.take_zero, List.drop_succ_cons] at h0 h1
  obtain ⟨x, hx, _⟩ := rdInt _ _ _ _ h0
  obtain ⟨y, hy, _⟩ := rdInt _ _ _ _ h1
  injection hx with hx _
  injection hy with hy _
  subst hx hy
  exact ⟨⟨x, y⟩, rfl, trivial⟩
set_option maxRecDepth 100000 in
theorem open_word {fuel : Nat} {v : Value} {d : DataW H} {p : List MemPlace} (h : DataW.trod enc Try.prog w 0 (fun _ => true) true fuel 38 [v] = some (d, p)) (hs : sz Try.prog 38 d) :
    ∃ (A : Option Addr) (xs : List Lt) (c : Nat), v = .slice A xs.length c ∧ Cells w A (lts xs) := by
  obtain ⟨A, xs, c, hv, hc, _⟩ := open_elems ltCells (fun _ => True) (fun _ => rfl) Try.underlying38 c118 b118 (by decide) (by decide) (fun _ _ _ _ h _ => rdLt _ _ _ _ h) h hs
  exact ⟨A, xs, c, hv, hc⟩

set_option maxRecDepth 100000 in
theorem rdNd (fuel : Nat) (cs : List Value) (d : DataW H) (p : List MemPlace) (h : DataW.trod enc Try.prog w 0 (fun _ => true) true fuel 107 cs = some (d, p)) : ∃ x : Nd, cs = ndCells x ∧ True := by
  obtain ⟨xs, n, _, _, hl, _, hf⟩ := DataW.trod_struct Try.underlying107 h
  rw [c107] at hl
  match cs, hl with
  | [a, b, c, d], _ =>
    have g : ∀ (i : Nat) (f : Field) (u : Value), (#[{ name := "Chan", type := 3, offset := 0, embedded := false, tag := "", pkgPath := "", byteOffset := 0 }, { name := "Yes", type := 3, offset := 1, embedded := false, tag := "", pkgPath := "", byteOffset := 8 }, { name := "No", type := 3, offset := 2, embedded := false, tag := "", pkgPath := "", byteOffset := 16 }, { name := "Rule", type := 3, offset := 3, embedded := false, tag := "", pkgPath := "", byteOffset := 24 }] : Array Field)[i]? = some f → f.type = 3 → (([a, b, c, d].drop f.offset).take 1) = [u] → i < xs.length → ∃ x : Int, u = .int .i64 x := by
      intro i f u hi ht hu hlx
      have := hf i f hi
      rw [ht, c3, hu, List.getElem?_eq_getElem hlx] at this
      obtain ⟨x, hx, _⟩ := rdInt _ _ xs[i].1 xs[i].2 this
      injection hx with hx _
      exact ⟨x, hx⟩
    have hxl : xs.length = 4 := by assumption
    obtain ⟨x0, rfl⟩ := g 0 _ a rfl rfl rfl (by omega)
    obtain ⟨x1, rfl⟩ := g 1 _ b rfl rfl rfl (by omega)
    obtain ⟨x2, rfl⟩ := g 2 _ c rfl rfl rfl (by omega)
    obtain ⟨x3, rfl⟩ := g 3 _ d rfl rfl rfl (by omega)
    exact ⟨⟨x0, x1, x2, x3⟩, rfl, trivial⟩
set_option maxRecDepth 100000 in
theorem open_tree {fuel : Nat} {v : Value} {d : DataW H} {p : List MemPlace} (h : DataW.trod enc Try.prog w 0 (fun _ => true) true fuel 79 [v] = some (d, p)) (hs : sz Try.prog 79 d) :
    ∃ (A : Option Addr) (xs : List Nd) (c : Nat), v = .slice A xs.length c ∧ Cells w A (nds xs) := by
  obtain ⟨A, xs, c, hv, hc, _⟩ := open_elems ndCells (fun _ => True) (fun _ => rfl) Try.underlying79 c107 b107 (by decide) (by decide) (fun _ _ _ _ h _ => rdNd _ _ _ _ h) h hs
  exact ⟨A, xs, c, hv, hc⟩

theorem sz_struct2 {P : Program} {t : TypeId} {f0 f1 : Field} {d0 d1 : DataW H} (ht : P.underlying t = some (.struct #[f0, f1])) (h : sz P t (.agg [d0, d1])) : sz P f0.type d0 ∧ sz P f1.type d1 := by
  have e : ∀ n, n ∈ d0.weights P f0.type ∨ n ∈ d1.weights P f1.type → n ∈ (DataW.agg [d0, d1]).weights P t := by
    intro n hn
    simp only [DataW.weights, ht, List.map_cons, List.map_nil, DataW.weightsEach, List.append_nil, List.mem_append]
    exact hn
  exact ⟨fun n hn => h n (e n (.inl hn)), fun n hn => h n (e n (.inr hn))⟩
theorem sz_struct1 {P : Program} {t : TypeId} {f0 : Field} {d0 : DataW H} (ht : P.underlying t = some (.struct #[f0])) (h : sz P t (.agg [d0])) : sz P f0.type d0 := by
  intro n hn
  refine h n ?_
  simp only [DataW.weights, ht, List.map_cons, List.map_nil, DataW.weightsEach, List.append_nil]
  exact hn

set_option maxRecDepth 100000 in
theorem rdAct (fuel : Nat) (cs : List Value) (d : DataW H) (p : List MemPlace) (h : DataW.trod enc Try.prog w 0 (fun _ => true) true fuel 103 cs = some (d, p)) (hs : sz Try.prog 103 d) :
    ∃ x : AAct × (Option Addr × Nat), cs = actCells x ∧ Cells w x.2.1 (ints x.1.next) := by
  obtain ⟨y0, y1, n, hx, hl, h0, h1⟩ := trod_struct2 Try.underlying103 h
  injection hx with hd _
  subst hd
  rw [c103] at hl
  obtain ⟨a, b, rfl⟩ := two_cells hl
  simp only [c3, c22, List.drop_zero, List.take_succ_cons, List.take_zero, List.drop_succ_cons] at h0 h1
  obtain ⟨x, hx, _⟩ := rdInt _ _ _ _ h0
  injection hx with hx _
  subst hx
  obtain ⟨A, xs, c, rfl, hc⟩ := open_slI (p := y1.2) h1 (sz_struct2 Try.underlying103 hs).2
  exact ⟨(⟨x, xs⟩, (A, c)), rfl, hc⟩
set_option maxRecDepth 100000 in
theorem rdRow (fuel : Nat) (cs : List Value) (d : DataW H) (p : List MemPlace) (h : DataW.trod enc Try.prog w 0 (fun _ => true) true fuel 101 cs = some (d, p)) (hs : sz Try.prog 101 d) :
    ∃ x : List AAct × (Option Addr × Nat), cs = rowCell x ∧ ActsAt w x.2.1 x.1 := by
  obtain ⟨v, rfl⟩ : ∃ v, cs = [v] := by
    rcases Go.Deep.open_slice Try.underlying101 h with ⟨hcs, _⟩ | ⟨a, len, cap, m, n, D, Pl, hcs, _⟩
    · exact ⟨_, hcs⟩
    · exact ⟨_, hcs⟩
  obtain ⟨A, xs, c, rfl, hc, hq⟩ := open_elems actCells (fun x => Cells w x.2.1 (ints x.1.next)) (fun _ => rfl) Try.underlying101 c103 b103 (by decide) (by decide) (fun _ _ _ _ h hs => rdAct _ _ _ _ h hs) h hs
  refine ⟨(xs.map (·.1), (A, c)), by simp [rowCell], xs.map (·.2), by simp, ?_, ?_⟩
  · rw [zip_self]
    exact hc
  · rw [zip_self]
    exact hq
set_option maxRecDepth 100000 in
theorem open_mach {fuel : Nat} {v : Value} {d : DataW H} {p : List MemPlace} (h : DataW.trod enc Try.prog w 0 (fun _ => true) true fuel 25 [v] = some (d, p)) (hs : sz Try.prog 25 d) :
    ∃ (A : Option Addr) (m : Mach) (c : Nat), v = .slice A m.length c ∧ MachAt w A m := by
  obtain ⟨A, xs, c, rfl, hc, hq⟩ := open_elems rowCell (fun x => ActsAt w x.2.1 x.1) (fun _ => rfl) Try.underlying25 c101 b101 (by decide) (by decide) (fun _ _ _ _ h hs => rdRow _ _ _ _ h hs) h hs
  refine ⟨A, xs.map (·.1), c, by simp, xs.map (·.2), by simp, ?_, ?_⟩
  · rw [zip_self]
    exact hc
  · rw [zip_self]
    exact hq

/-! ### the arguments -/
variable {r : Reach} {b0 : Nat}
set_option maxRecDepth 100000 in
theorem arg_group {v : Value} {d : DataW H} {p : List MemPlace} (hv : Value.okWide Try.prog w r b0 24 v) (h : DataW.Trod enc Try.prog w 0 (fun _ => true) true 24 v d p) (hs : sz Try.prog 24 d) :
    ∃ (n : Int) (A : Option Addr) (rs : List Int) (c : Nat), v = .agg #[.int .i64 n, .slice A rs.length c] ∧ Cells w A (ints rs) ∧ (Lit.int .i64 n).wf = true := by
  obtain ⟨cs, rfl, hsz⟩ := okWide_struct Try.underlying24 hv
  obtain ⟨fuel, hf⟩ := h
  obtain ⟨y0, y1, n, hx, _, h0, h1⟩ := trod_struct2 Try.underlying24 hf
  injection hx with hd _
  subst hd
  rw [c24] at hsz
  obtain ⟨cl⟩ := cs
  obtain ⟨a, b, rfl⟩ := two_cells (cs := cl) (by simpa using hsz)
  simp only [Value.cells, c3, c22, List.drop_zero, List.take_succ_cons, List.take_zero, List.drop_succ_cons] at h0 h1
  obtain ⟨x, hx, hw⟩ := rdInt _ _ _ _ h0
  injection hx with hx _
  subst hx
  obtain ⟨A, xs, c, rfl, hc⟩ := open_slI (p := y1.2) h1 (sz_struct2 Try.underlying24 hs).2
  exact ⟨x, A, xs, c, rfl, hc, hw⟩
set_option maxRecDepth 100000 in
theorem arg_mach {v : Value} {d : DataW H} {p : List MemPlace} (hv : Value.okWide Try.prog w r b0 27 v) (h : DataW.Trod enc Try.prog w 0 (fun _ => true) true 27 v d p) (hs : sz Try.prog 27 d) :
    ∃ (A : Option Addr) (m : Mach) (c : Nat), v = .agg #[.slice A m.length c] ∧ MachAt w A m := by
  obtain ⟨cs, rfl, hsz⟩ := okWide_struct Try.underlying27 hv
  obtain ⟨fuel, hf⟩ := h
  obtain ⟨xs, n, _, hx, hl, hxl, hfs⟩ := DataW.trod_struct Try.underlying27 hf
  injection hx with hd _
  subst hd
  rw [c27] at hsz
  obtain ⟨cl⟩ := cs
  match cl, hsz with
  | [a], _ =>
    match xs, hxl with
    | [y], _ =>
      have h0 := hfs 0 _ rfl
      simp only [Value.cells, List.getElem?_cons_zero] at h0
      obtain ⟨A, m, c, rfl, hm⟩ := open_mach (p := y.2) h0 (sz_struct1 Try.underlying27 hs)
      exact ⟨A, m, c, rfl, hm⟩
set_option maxRecDepth 100000 in
theorem arg_slI {v : Value} {d : DataW H} {p : List MemPlace} (hv : Value.okWide Try.prog w r b0 22 v) (h : DataW.Trod enc Try.prog w 0 (fun _ => true) true 22 v d p) (hs : sz Try.prog 22 d) :
    ∃ (A : Option Addr) (xs : List Int) (c : Nat), v = .slice A xs.length c ∧ Cells w A (ints xs) := by
  obtain ⟨a, len, cap, rfl⟩ := okWide_slice Try.underlying22 hv
  obtain ⟨fuel, hf⟩ := h
  exact open_slI hf hs
set_option maxRecDepth 100000 in
theorem arg_word {v : Value} {d : DataW H} {p : List MemPlace} (hv : Value.okWide Try.prog w r b0 38 v) (h : DataW.Trod enc Try.prog w 0 (fun _ => true) true 38 v d p) (hs : sz Try.prog 38 d) :
    ∃ (A : Option Addr) (xs : List Lt) (c : Nat), v = .slice A xs.length c ∧ Cells w A (lts xs) := by
  obtain ⟨a, len, cap, rfl⟩ := okWide_slice Try.underlying38 hv
  obtain ⟨fuel, hf⟩ := h
  exact open_word hf hs
set_option maxRecDepth 100000 in
theorem arg_tree {v : Value} {d : DataW H} {p : List MemPlace} (hv : Value.okWide Try.prog w r b0 79 v) (h : DataW.Trod enc Try.prog w 0 (fun _ => true) true 79 v d p) (hs : sz Try.prog 79 d) :
    ∃ (A : Option Addr) (xs : List Nd) (c : Nat), v = .slice A xs.length c ∧ Cells w A (nds xs) := by
  obtain ⟨a, len, cap, rfl⟩ := okWide_slice Try.underlying79 hv
  obtain ⟨fuel, hf⟩ := h
  exact open_tree hf hs
end
theorem sz_arg {H : Type} {P : Program} {ts : List TypeId} {ds : List (DataW H)} (h : (DataW.weightsEach P ts ds).all (· ≤ reachBytes) = true) {j : Nat} {t : TypeId} {d : DataW H} (ht : ts[j]? = some t) (hd : ds[j]? = some d) : sz P t d := by
  intro n hn
  have := List.all_eq_true.1 h _ (DataW.weights_mem_each ht hd n hn)
  simpa using this
end Go.Proofs.Ytlnonadkdonhmaa

/- Plain laws: the machine of a group is as defined; both Formed say the same. -/
namespace Go.Proofs.Ytlnonadkdonhmaa
open Go.RowKit

/-! ### bits of small sets -/
theorem within_all : ((List.range 64).all fun r => (List.range 64).all fun s => withinI (r : Int) (s : Int) == (List.range 6).all fun c => !(inI (r : Int) (c : Int)) || inI (s : Int) (c : Int)) = true := by kernel_rfl
theorem full_all : ((List.range 64).all fun s => (List.range 6).all fun c => (List.range 6).all fun x => inI (fullI (s : Int) (c : Int)) (x : Int) == (inI (s : Int) (x : Int) || decide (x = c))) = true := by kernel_rfl
theorem andNot_all : ((List.range 64).all fun s => (List.range 6).all fun c => withinI (bits BinOp.andNot .i64 (s : Int) (2 ^ c)) (s : Int)) = true := by kernel_rfl
theorem nat_of {x : Int} (h : isB x) : ∃ k : Nat, x = k ∧ k < 64 := by
  obtain ⟨k, rfl⟩ := Int.eq_ofNat_of_zero_le h.1
  exact ⟨k, rfl, by have := h.2; omega⟩
theorem within_iff {r s : Int} (hr : isB r) (hs : isB s) : withinI r s = true ↔ ∀ c : Nat, c < 6 → inI r c = true → inI s c = true := by
  obtain ⟨x, rfl, hx⟩ := nat_of hr
  obtain ⟨y, rfl, hy⟩ := nat_of hs
  have h1 := List.all_eq_true.1 within_all x (List.mem_range.2 hx)
  have h2 := List.all_eq_true.1 h1 y (List.mem_range.2 hy)
  rw [beq_iff_eq] at h2
  rw [h2, List.all_eq_true]
  constructor
  · intro h c hc hi
    have := h c (List.mem_range.2 hc)
    simpa [hi] using this
  · intro h c hc
    cases hi : inI (x : Int) (c : Int) with
    | false => rfl
    | true => simp [h c (List.mem_range.1 hc) hi]
theorem in_full {s : Int} {c x : Nat} (hs : isB s) (hc : c < 6) (hx : x < 6) : inI (fullI s c) x = (inI s x || decide (x = c)) := by
  obtain ⟨y, rfl, hy⟩ := nat_of hs
  have h1 := List.all_eq_true.1 full_all y (List.mem_range.2 hy)
  have h2 := List.all_eq_true.1 h1 c (List.mem_range.2 hc)
  have h3 := List.all_eq_true.1 h2 x (List.mem_range.2 hx)
  exact beq_iff_eq.1 h3
theorem within_refl {s : Int} (hs : isB s) : withinI s s = true := (within_iff hs hs).2 fun _ _ h => h
theorem within_trans {a b c : Int} (ha : isB a) (hb : isB b) (hc : isB c) (h : withinI a b = true) (k : withinI b c = true) : withinI a c = true :=
  (within_iff ha hc).2 fun x hx hi => (within_iff hb hc).1 k x hx ((within_iff ha hb).1 h x hx hi)
theorem within_andNot {s : Int} {c : Nat} (hs : isB s) (hc : c < 6) : withinI (bits BinOp.andNot .i64 s (2 ^ c)) s = true := by
  obtain ⟨y, rfl, hy⟩ := nat_of hs
  have h1 := List.all_eq_true.1 andNot_all y (List.mem_range.2 hy)
  exact List.all_eq_true.1 h1 c (List.mem_range.2 hc)

/-! ### sets at rest -/
def restI (rs : List Int) (s : Int) : Prop := readyL rs s = []
def bAll (rs : List Int) : Prop := ∀ r ∈ rs, isB r
theorem ready_mem {rs : List Int} {s x : Int} (h : x ∈ readyL rs s) : ∃ (i : Nat) (r : Int), x = i ∧ rs[i]? = some r ∧ withinI r s = true := by
  obtain ⟨i, rfl, hi, hp⟩ := pickTo_mem h
  refine ⟨i, rs[i], rfl, List.getElem?_eq_getElem hi, ?_⟩
  simpa [readyP, List.getD, List.getElem?_eq_getElem hi] using hp
theorem mem_ready {rs : List Int} {s r : Int} {i : Nat} (h : rs[i]? = some r) (hw : withinI r s = true) : (i : Int) ∈ readyL rs s := by
  unfold readyL pickTo
  have hi := (List.getElem?_eq_some_iff.1 h).1
  exact List.mem_map.2 ⟨i, List.mem_filter.2 ⟨List.mem_range.2 hi, by rw [readyP_of h]; exact hw⟩, rfl⟩
theorem rest_iff {rs : List Int} {s : Int} : restI rs s ↔ ∀ r ∈ rs, withinI r s = false := by
  constructor
  · intro h r hr
    obtain ⟨i, hi, rfl⟩ := List.mem_iff_getElem.1 hr
    cases hw : withinI rs[i] s with
    | false => rfl
    | true =>
      have := mem_ready (List.getElem?_eq_getElem hi) hw
      unfold restI at h
      rw [h] at this
      cases this
  · intro h
    unfold restI
    cases e : readyL rs s with
    | nil => rfl
    | cons x t =>
      obtain ⟨i, r, _, hr, hw⟩ := ready_mem (rs := rs) (s := s) (x := x) (by rw [e]; exact List.mem_cons_self ..)
      rw [h r (List.mem_of_getElem? hr)] at hw
      cases hw
theorem rest_sub {rs : List Int} (hb : bAll rs) {s t : Int} (hs : isB s) (ht : isB t) (hw : withinI t s = true) (h : restI rs s) : restI rs t := by
  rw [rest_iff] at h ⊢
  intro r hr
  cases e : withinI r t with
  | false => rfl
  | true =>
    have := within_trans (hb r hr) ht hs e hw
    rw [h r hr] at this
    cases this
theorem toF_sub {os : List Int} {set kept : Int} (hs : isB set) (ho : ∀ x ∈ os, 0 ≤ x ∧ x < 6) : ∀ k, k ≤ os.length → withinI (toF os set kept k) set = true
  | 0, _ => within_refl hs
  | k + 1, hk => by
    have ih := toF_sub (kept := kept) hs ho k (by omega)
    unfold toF
    split
    · have hx := ho os[k] (List.getElem_mem (by omega))
      obtain ⟨c, hc⟩ := Int.eq_ofNat_of_zero_le hx.1
      have e : os.getD k 0 = c := by simp [List.getD, List.getElem?_eq_getElem (show k < os.length by omega), hc]
      rw [e, Int.toNat_natCast]
      exact within_trans (andNot_isB (toF_isB hs k)) (toF_isB hs k) hs (within_andNot (toF_isB hs k) (by omega)) ih
    · exact ih
theorem stepN_rest {rs : List Int} (hb : bAll rs) {s : Int} {c : Nat} (hs : isB s) (_hc : c < 6) (h : restI rs s) : ∀ x ∈ stepN rs s c, restI rs x := by
  intro x hx
  unfold stepN at hx
  split at hx
  · rename_i he
    simp at hx
    subst hx
    exact he
  · unfold stepL at hx
    obtain ⟨k, _, rfl⟩ := List.mem_map.1 hx
    exact rest_sub hb hs (toF_isB hs _) (toF_sub hs (fun y hy => othersA_bd hy) _ (Nat.le_refl _)) h

/-! ### what Machine makes is as defined -/
theorem foldNum_bd (l xs : List Int) : ∀ x ∈ (foldNum l xs).1, 0 ≤ x ∧ x < ((foldNum l xs).2.length : Int) := by
  have gen : ∀ (xs : List Int) (p : List Int × List Int), (∀ x ∈ p.1, 0 ≤ x ∧ x < (p.2.length : Int)) →
      ∀ x ∈ (xs.foldl (fun p x => (p.1 ++ [(p.2.idxOf x : Int)], addNum p.2 x)) p).1, 0 ≤ x ∧ x < (((xs.foldl (fun p x => (p.1 ++ [(p.2.idxOf x : Int)], addNum p.2 x)) p).2.length : Nat) : Int) := by
    intro xs
    induction xs with
    | nil => intro p h; exact h
    | cons y ys ih =>
      intro p h
      refine ih _ ?_
      intro x hx
      have hpre := (addNum_pre p.2 y).length_le
      rcases List.mem_append.1 hx with hx | hx
      · have := h x hx; simp only; omega
      · simp at hx
        subst hx
        simp only
        refine ⟨by omega, ?_⟩
        unfold addNum
        split
        · rename_i hm
          have := List.idxOf_lt_length_of_mem hm
          omega
        · rename_i hm
          rw [List.idxOf_eq_length hm, List.length_append]
          simp
          try omega
  exact gen xs ([], l) (by simp)

theorem foldNum_all {p : Int → Prop} {l : List Int} (h : ∀ x ∈ l, p x) (xs : List Int) (hx : ∀ x ∈ xs, p x) : ∀ x ∈ (foldNum l xs).2, p x := by
  have gen : ∀ (xs : List Int) (q : List Int × List Int), (∀ x ∈ q.2, p x) → (∀ x ∈ xs, p x) → ∀ x ∈ (xs.foldl (fun p x => (p.1 ++ [(p.2.idxOf x : Int)], addNum p.2 x)) q).2, p x := by
    intro xs
    induction xs with
    | nil => intro q h _; exact h
    | cons y ys ih =>
      intro q h hx
      refine ih _ ?_ (fun x hx' => hx x (by simp [hx']))
      intro x hx'
      simp only at hx'
      unfold addNum at hx'
      split at hx'
      · exact h x hx'
      · rcases List.mem_append.1 hx' with h1 | h1
        · exact h x h1
        · have e : x = y := by simpa using h1
          rw [e]; exact hx y (by simp)
  exact gen xs ([], l) h hx

/-- An act of a state for channel c, its numbers below len. -/
def ActIn (rs : List Int) (len : Nat) (c : Nat) (a : AAct) : Prop := ruleOk rs c a.rule = true ∧ a.next.length = manyA rs c a.rule ∧ ∀ x ∈ a.next, 0 ≤ x ∧ x < (len : Int)
theorem ActIn.mono {rs : List Int} {len len' c : Nat} {a : AAct} (h : ActIn rs len c a) (hl : len ≤ len') : ActIn rs len' c a := ⟨h.1, h.2.1, fun x hx => by have := h.2.2 x hx; omega⟩
theorem step_act {rs : List Int} (hb : bAll rs) {s : Int} {c : Nat} (hs : isB s) (hc : c < 6) (h : restI rs s) (l : List Int) :
    ActIn rs (foldNum l (stepN rs s c)).2.length c ⟨stepR rs s c, (foldNum l (stepN rs s c)).1⟩ := by
  refine ⟨?_, ?_, foldNum_bd _ _⟩
  · show ruleOk rs c (stepR rs s c) = true
    unfold stepR
    cases e : readyL rs (fullI s c) with
    | nil => simp [ruleOk]
    | cons x t =>
      obtain ⟨i, r, rfl, hr, hw⟩ := ready_mem (rs := rs) (s := fullI s c) (x := x) (by rw [e]; exact List.mem_cons_self ..)
      have hi := (List.getElem?_eq_some_iff.1 hr).1
      have hrb := hb r (List.mem_of_getElem? hr)
      have hin : inI r c = true := by
        cases hin : inI r c with
        | true => rfl
        | false =>
          exfalso
          have hw2 : withinI r s = true := (within_iff hrb hs).2 fun y hy hi' => by
            have := (within_iff hrb (full_isB hs (by omega) (by omega))).1 hw y hy hi'
            rw [in_full hs hc hy] at this
            rcases Bool.or_eq_true_iff.1 this with h1 | h1
            · exact h1
            · have : y = c := by simpa using h1
              subst this
              rw [hin] at hi'; cases hi'
          rw [rest_iff.1 h r (List.mem_of_getElem? hr)] at hw2
          cases hw2
      have e2 : rs.getD i 0 = r := by simp [List.getD, hr]
      simp only [ruleOk, Int.toNat_natCast, e2, hin, Bool.and_true, Bool.or_eq_true, Bool.and_eq_true, decide_eq_true_eq]
      exact .inr ⟨by omega, by omega⟩
  · show (foldNum l (stepN rs s c)).1.length = manyA rs c (stepR rs s c)
    rw [foldNum_len1]
    unfold stepN stepR manyA
    cases e : readyL rs (fullI s c) with
    | nil => simp
    | cons x t =>
      obtain ⟨i, r, rfl, hr, hw⟩ := ready_mem (rs := rs) (s := fullI s c) (x := x) (by rw [e]; exact List.mem_cons_self ..)
      have hne : ¬ ((i : Int) = -1) := by omega
      simp only [if_neg hne, stepL, List.length_map, List.length_range]

theorem actsTo_in {rs : List Int} (hb : bAll rs) {s : Int} (hs : isB s) (h : restI rs s) (l : List Int) : ∀ k, k ≤ 6 → ∀ (c : Nat) (a : AAct), (actsTo rs s l k).1[c]? = some a → ActIn rs (actsTo rs s l k).2.length c a
  | 0, _, c, a, hc => by simp [actsTo] at hc
  | k + 1, hk, c, a, hc => by
    unfold actsTo at hc ⊢
    simp only at hc ⊢
    rcases Nat.lt_or_ge c k with h1 | h1
    · rw [List.getElem?_append_left (by rw [actsTo_len]; exact h1)] at hc
      exact (actsTo_in hb hs h l k (by omega) c a hc).mono (foldNum_pre _ _).length_le
    · rw [List.getElem?_append_right (by rw [actsTo_len]; exact h1), actsTo_len] at hc
      have hck : c = k := by
        have := (List.getElem?_eq_some_iff.1 hc).1
        simp at this; omega
      subst hck
      simp at hc
      subst hc
      exact step_act hb hs (by omega) h _
theorem actsTo_rest {rs : List Int} (hb : bAll rs) {s : Int} (hs : isB s) (h : restI rs s) {l : List Int} (hl : ∀ x ∈ l, restI rs x) : ∀ k, k ≤ 6 → ∀ x ∈ (actsTo rs s l k).2, restI rs x
  | 0, _ => hl
  | k + 1, hk => foldNum_all (actsTo_rest hb hs h hl k (by omega)) _ (stepN_rest hb hs (by omega) h)
theorem machTo_rest {n : Nat} {rs : List Int} (hn : n ≤ 6) (hb : bAll rs) (h0 : restI rs 0) : ∀ k, ∀ x ∈ (machTo n rs k).2, restI rs x
  | 0 => fun x hx => by simp [machTo] at hx; subst hx; exact h0
  | k + 1 => by
    unfold machTo
    cases h : (machTo n rs k).2[k]? with
    | none => exact machTo_rest hn hb h0 k
    | some s => exact actsTo_rest hb ((machTo_ok hn k).all s (List.mem_of_getElem? h)) (machTo_rest hn hb h0 k s (List.mem_of_getElem? h)) (machTo_rest hn hb h0 k) n hn
theorem machTo_in {n : Nat} {rs : List Int} (hn : n ≤ 6) (hb : bAll rs) (h0 : restI rs 0) : ∀ k, ∀ acts ∈ (machTo n rs k).1, acts.length = n ∧ ∀ (c : Nat) (a : AAct), acts[c]? = some a → ActIn rs (machTo n rs k).2.length c a
  | 0 => fun x hx => by simp [machTo] at hx
  | k + 1 => by
    have ih := machTo_in hn hb h0 k
    unfold machTo
    cases h : (machTo n rs k).2[k]? with
    | none => exact ih
    | some s =>
      intro acts ha
      simp only at ha ⊢
      have hs := (machTo_ok hn k).all s (List.mem_of_getElem? h)
      have hr := machTo_rest hn hb h0 k s (List.mem_of_getElem? h)
      rcases List.mem_append.1 ha with ha | ha
      · exact ⟨(ih acts ha).1, fun c a hc => ((ih acts ha).2 c a hc).mono (actsTo_pre rs s _ n).length_le⟩
      · simp at ha
        subst ha
        exact ⟨actsTo_len _ _ _ _, actsTo_in hb hs hr _ n hn⟩
theorem machTo_min {n : Nat} {rs : List Int} : ∀ k, (machTo n rs k).1.length = min k (machTo n rs k).2.length
  | 0 => by simp [machTo]
  | k + 1 => by
    have ih := machTo_min (n := n) (rs := rs) k
    unfold machTo
    cases h : (machTo n rs k).2[k]? with
    | none =>
      have := List.getElem?_eq_none_iff.1 h
      simp only
      omega
    | some s =>
      have hk := (List.getElem?_eq_some_iff.1 h).1
      have := (actsTo_pre rs s (machTo n rs k).2 n).length_le
      simp only [List.length_append, List.length_cons, List.length_nil]
      omega
theorem machTo_pos {n : Nat} {rs : List Int} : ∀ k, 1 ≤ (machTo n rs k).2.length
  | 0 => by simp [machTo]
  | k + 1 => by
    have ih := machTo_pos (n := n) (rs := rs) k
    unfold machTo
    cases h : (machTo n rs k).2[k]? with
    | none => exact ih
    | some s => exact Nat.le_trans ih (actsTo_pre rs s _ n).length_le

theorem bAll_of {n : Int} {rs : List Int} (h : grpOk n rs = true) : bAll rs := by
  obtain ⟨_, h2, _, h4⟩ := grpOk_true h
  rw [List.all_eq_true] at h4
  exact fun r hr => goodR_isB (h4 r hr) h2
theorem rest_zero {n : Int} {rs : List Int} (h : grpOk n rs = true) : restI rs 0 := by
  rw [rest_iff]
  intro r hr
  have hb := bAll_of h r hr
  have hg := List.all_eq_true.1 (grpOk_true h).2.2.2 r hr
  simp only [goodR, Bool.and_eq_true, decide_eq_true_eq] at hg
  cases e : withinI r 0 with
  | false => rfl
  | true =>
    have z : ((List.range 64).all fun r => !(withinI (r : Int) 0) || decide (r = 0)) = true := by kernel_rfl
    obtain ⟨x, rfl, hx⟩ := nat_of hb
    have := List.all_eq_true.1 z x (List.mem_range.2 hx)
    rw [e] at this
    simp at this
    omega
theorem ActIn.ok {rs : List Int} {len c : Nat} {a : AAct} (h : ActIn rs len c a) : actOkA rs len c a = true := by
  simp only [actOkA, h.1, h.2.1, decide_true, Bool.true_and, List.all_eq_true]
  intro x hx
  have := h.2.2 x hx
  simp only [nextOk, Bool.and_eq_true, decide_eq_true_eq]
  exact this
/-- The machine of a group is as defined. -/
theorem formedA_machI {n : Int} {rs : List Int} (h : grpOk n rs = true) : formedA n rs (machI n rs) = true := by
  obtain ⟨h1, h2, _, _⟩ := grpOk_true h
  obtain ⟨N, rfl⟩ := Int.eq_ofNat_of_zero_le (a := n) (by omega)
  have hN : N ≤ 6 := by omega
  have hl := (machTo_ok (rs := rs) hN 64).len
  have hm := machTo_min (n := N) (rs := rs) 64
  have hp := machTo_pos (n := N) (rs := rs) 64
  have hlen : (machI (N : Int) rs).length = (machTo N rs 64).2.length := by
    unfold machI
    rw [Int.toNat_natCast]
    omega
  unfold formedA
  simp only [h, hlen, Bool.true_and, Bool.and_eq_true, decide_eq_true_eq, List.all_eq_true]
  refine ⟨⟨hp, hl⟩, fun acts ha => ?_⟩
  unfold machI at ha
  rw [Int.toNat_natCast] at ha
  obtain ⟨e1, e2⟩ := machTo_in hN (bAll_of h) (rest_zero h) 64 acts ha
  simp only [rowOkA, e1, decide_true, Bool.true_and, allTo, List.all_eq_true]
  intro c hc
  have hc' := List.mem_range.1 hc
  rw [List.getElem?_eq_getElem (by omega)]
  simp only [Option.all_some]
  exact (e2 c _ (List.getElem?_eq_getElem (by omega))).ok

/-! ### both Formed -/
theorem actOk_eq {rs : List Int} (hb : bAll rs) {len c : Nat} (hc : c < 6) (a : AAct) : actOkA rs len c a = actOkR rs len c a := by
  unfold actOkA actOkR
  cases h : ruleOk rs c a.rule with
  | false => rfl
  | true =>
    have hm : manyA rs c a.rule = manyR rs c a.rule := by
      simp only [ruleOk, Bool.or_eq_true, Bool.and_eq_true, decide_eq_true_eq] at h
      unfold manyA manyR
      rcases h with h | ⟨⟨h1, h2⟩, _⟩
      · rw [if_pos h, if_neg (by omega)]
      · rw [if_neg (by omega), if_pos h1]
        obtain ⟨i, hi⟩ := Int.eq_ofNat_of_zero_le h1
        rw [hi, Int.toNat_natCast]
        have hil : i < rs.length := by omega
        have hbi : isB (rs.getD i 0) := by
          simp only [List.getD, List.getElem?_eq_getElem hil, Option.getD_some]
          exact hb _ (List.getElem_mem hil)
        rw [othersA_eq hbi (by omega) (by omega)]
    rw [hm]
    simp only [Bool.true_and]
theorem formed_eq {n : Int} {rs : List Int} (m : Mach) (h : grpOk n rs = true) : formedA n rs m = formedR n rs m := by
  obtain ⟨h1, h2, _, _⟩ := grpOk_true h
  unfold formedA formedR
  rw [h]
  simp only [Bool.true_and]
  congr 1
  have e : ∀ acts ∈ m, rowOkA n rs m.length acts = rowOkR n rs m.length acts := by
    intro acts _
    unfold rowOkA rowOkR
    by_cases hl : (acts.length : Int) = n
    · simp only [hl, decide_true, Bool.true_and]
      unfold allTo
      rw [Bool.eq_iff_iff, List.all_eq_true, List.all_eq_true]
      constructor
      · intro hh c hc
        have := hh c hc
        have hc' := List.mem_range.1 hc
        rw [List.getElem?_eq_getElem hc'] at this ⊢
        simp only [Option.all_some] at this ⊢
        rw [← actOk_eq (bAll_of h) (by omega)]
        exact this
      · intro hh c hc
        have := hh c hc
        have hc' := List.mem_range.1 hc
        rw [List.getElem?_eq_getElem hc'] at this ⊢
        simp only [Option.all_some] at this ⊢
        rw [actOk_eq (bAll_of h) (by omega)]
        exact this
    · simp only [hl, decide_false, Bool.false_and]
  rw [Bool.eq_iff_iff, List.all_eq_true, List.all_eq_true]
  exact ⟨fun hh a ha => by rw [← e a ha]; exact hh a ha, fun hh a ha => by rw [e a ha]; exact hh a ha⟩
theorem formedA_false {n : Int} {rs : List Int} (m : Mach) (h : grpOk n rs = false) : formedA n rs m = false := by
  unfold formedA; rw [h]; rfl
end Go.Proofs.Ytlnonadkdonhmaa
