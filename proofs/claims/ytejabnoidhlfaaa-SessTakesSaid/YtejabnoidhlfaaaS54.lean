/- Values out of the statement's form. -/
import Derived.Test.YtejabnoidhlfaaaS1
import Derived.Deep.Slices
import Derived.SizedLaws
import Derived.Lib.SmallJoins
import Derived.ProofKit
import Derived.OpenShut
import Derived.ShutString
import Derived.ChangeOld
import Derived.Below
import Derived.Test.YtejabnoidhlfaaaS45

/- Arguments: what comes in reads as lists. -/
namespace Go.Proofs.Ytejabnoidhlfaaa
open Go.RowKit Go.ChangeShapes Go.WideShapes Go.ChangeAt

section
variable {H : Type} {enc : TypeId × Value → H} {P : Program} {w : World}

/-- Each slice, string and map in it is within reach. -/
def sz (P : Program) (t : TypeId) (d : DataW H) : Prop := ∀ n ∈ d.weights P t, n ≤ reachBytes

theorem weightsAll_mem {e : TypeId} : ∀ {ds : List (DataW H)} {d : DataW H} {n : Nat}, d ∈ ds → n ∈ d.weights P e → n ∈ DataW.weightsAll P e ds
  | [], _, _, h, _ => by cases h
  | d0 :: ds, d, n, h, hn => by
    simp only [DataW.weightsAll, List.mem_append]
    rcases List.mem_cons.1 h with rfl | h
    · exact .inl hn
    · exact .inr (weightsAll_mem h hn)
theorem sz_elem {t e : TypeId} {xs ys : List (DataW H)} {d : DataW H} (ht : P.underlying t = some (.slice e)) (h : sz P t (.slice xs ys)) (hd : d ∈ xs ∨ d ∈ ys) : sz P e d := by
  intro n hn
  refine h n ?_
  simp only [DataW.weights, ht]
  refine List.mem_cons_of_mem _ (List.mem_append.2 ?_)
  rcases hd with hd | hd
  · exact .inl (weightsAll_mem hd hn)
  · exact .inr (weightsAll_mem hd hn)
theorem sz_len {t e : TypeId} {xs ys : List (DataW H)} (ht : P.underlying t = some (.slice e)) (h : sz P t (.slice xs ys)) : (xs.length + ys.length) * P.bytesOf e ≤ reachBytes := by
  refine h _ ?_
  simp only [DataW.weights, ht]
  exact List.mem_cons_self ..

theorem list_of {α : Type} {p : Nat → α → Prop} : ∀ n : Nat, (∀ i, i < n → ∃ x, p i x) → ∃ xs : List α, xs.length = n ∧ ∀ i x, xs[i]? = some x → p i x
  | 0, _ => ⟨[], rfl, by simp⟩
  | n + 1, h => by
    obtain ⟨xs, hl, hx⟩ := list_of n fun i hi => h i (by omega)
    obtain ⟨y, hy⟩ := h n (by omega)
    refine ⟨xs ++ [y], by simp [hl], fun i x hi => ?_⟩
    rcases Nat.lt_or_ge i n with h1 | h1
    · rw [List.getElem?_append_left (by omega)] at hi
      exact hx i x hi
    · rw [List.getElem?_append_right (by omega), hl] at hi
      obtain rfl : i = n := by
        have := (List.getElem?_eq_some_iff.1 hi).1
        simp at this; omega
      simp at hi
      subst hi
      exact hy
theorem add_at (b off j : Nat) : (⟨b, off, none⟩ : Addr).add j = ⟨b, off + j, none⟩ := by
  unfold Addr.add
  by_cases h : j = 0
  · simp [h]
  · simp [h]
theorem cell_block {a : Addr} {v : Value} (h : w.cell? a = some v) : a.block < w.heap.size := by
  rcases Nat.lt_or_ge a.block w.heap.size with hlt | hge
  · exact hlt
  · exfalso
    have e : w.heap[a.block]? = none := Array.getElem?_eq_none hge
    unfold World.cell? at h
    rw [e] at h
    cases h

/-- A slice whose elements read as f says. -/
theorem open_elems {α : Type} {t e : TypeId} {k bytes : Nat} (f : α → List Value) (Q : α → Prop) (hf : ∀ x, (f x).length = k) (ht : P.underlying t = some (.slice e)) (hc : P.cellsOf e = k) (hb : P.bytesOf e = bytes) (hkb : k * 8 ≤ bytes) (hk : 0 < k)
    (rdE : ∀ fuel cs d p, DataW.trod enc P w 0 (fun _ => true) true fuel e cs = some (d, p) → sz P e d → ∃ x, cs = f x ∧ Q x)
    {fuel : Nat} {v : Value} {d : DataW H} {p : List MemPlace} (h : DataW.trod enc P w 0 (fun _ => true) true fuel t [v] = some (d, p)) (hs : sz P t d) :
    ∃ (A : Option Addr) (xs : List α) (c : Nat), v = .slice A xs.length c ∧ Cells w A (xs.flatMap f) ∧ (∀ x ∈ xs, Q x) ∧ (A = none → xs = [] ∧ c = 0) := by
  rcases Go.Deep.open_slice ht h with ⟨hcs, _⟩ | ⟨a, len, cap, m, n, D, Pl, hcs, _, hl, hm, hmm, hx, hE⟩
  · injection hcs with hcs _
    exact ⟨none, [], 0, hcs, Cells.nil _ _, fun x hx => (by cases hx), fun _ => ⟨rfl, rfl⟩⟩
  · injection hcs with hcs _
    obtain rfl : m = cap := by simpa using hmm
    injection hx with hd _
    subst hd
    have hlen := sz_len ht hs
    simp only [List.length_map, List.length_range] at hlen
    rw [hb, Nat.add_sub_cancel' hl] at hlen
    have hel : ∀ i, i < len → ∃ x, w.cells? 0 (a.add (i * k)) k = some (f x) ∧ Q x := by
      intro i hi
      obtain ⟨cs', h1, h2⟩ := hE i (by omega)
      rw [hc] at h1
      obtain ⟨x, rfl, hq⟩ := rdE _ _ _ _ h2 (sz_elem ht hs (.inl (List.mem_map.2 ⟨i, List.mem_range.2 hi, rfl⟩)))
      exact ⟨x, h1, hq⟩
    obtain ⟨xs, hxl, hxs⟩ := list_of len hel
    have hcellx : ∀ i x j u, xs[i]? = some x → (f x)[j]? = some u → w.cell? (a.add (i * k + j)) = some u := by
      intro i x j u hi hj
      obtain ⟨_, _, hcell⟩ := World.cells?_some (hxs i x hi).1
      have hjk : j < k := by rw [← hf x]; exact (List.getElem?_eq_some_iff.1 hj).1
      rw [← Go.Deep.add_add, hcell j hjk, hj]
    refine ⟨some a, xs, m, by rw [hxl]; exact hcs, ?_, fun x hx => ?_, fun h => (by cases h)⟩
    · have hbound : (xs.flatMap f).length ≤ 17592186043904 := by
        rw [flat_len hf, hxl]
        have h1 : len * (k * 8) ≤ len * bytes := Nat.mul_le_mul_left _ hkb
        have h2 : len * bytes ≤ m * bytes := Nat.mul_le_mul_right _ hl
        have h3 : len * k * 8 = len * (k * 8) := Nat.mul_assoc _ _ _
        unfold reachBytes at hlen
        omega
      cases hxe : xs with
      | nil =>
        exact ⟨by simp, 0, 0, by omega, fun hn => absurd rfl hn, fun k v hv => by simp at hv⟩
      | cons x0 xr =>
        have h0 : xs[0]? = some x0 := by rw [hxe]; rfl
        obtain ⟨u, hu⟩ : ∃ u, (f x0)[0]? = some u := ⟨_, List.getElem?_eq_getElem (by rw [hf]; exact hk)⟩
        have hc0 := hcellx 0 x0 0 u h0 hu
        rw [Nat.zero_mul, Nat.zero_add] at hc0
        have ha0 : a.add 0 = a := by unfold Addr.add; simp
        rw [ha0] at hc0
        have hsp := World.cell?_spot hc0
        have hbk := cell_block hc0
        obtain ⟨b, off, spot⟩ := a
        simp only at hsp hbk
        subst hsp
        rw [← hxe]
        refine ⟨hbound, b, off, by omega, fun _ => ⟨rfl, hbk⟩, fun j v hv => ?_⟩
        have hjl : j < (xs.flatMap f).length := (List.getElem?_eq_some_iff.1 hv).1
        rw [flat_len hf] at hjl
        have hj : j = (j / k) * k + j % k := by rw [Nat.mul_comm]; exact (Nat.div_add_mod j k).symm
        have hjm : j % k < k := Nat.mod_lt _ hk
        rw [hj, flat_get hf xs (j / k) (j % k) hjm] at hv
        obtain ⟨x, hx1, hx2⟩ := Option.bind_eq_some_iff.1 hv
        have := hcellx _ _ _ _ hx1 hx2
        rw [← hj, add_at] at this
        exact this
    · obtain ⟨i, hi, rfl⟩ := List.mem_iff_getElem.1 hx
      exact (hxs i _ (List.getElem?_eq_getElem hi)).2
end
end Go.Proofs.Ytejabnoidhlfaaa

/- What the laws' arguments read as: ends, packets, deeds, texts, numbers. -/
namespace Go.Proofs.Ytejabnoidhlfaaa
open Go.RowKit Go.ChangeShapes Go.WideShapes Go.ChangeAt

section
variable {H : Type} {enc : TypeId × Value → H} {w : World}

theorem c3 : Try.prog.cellsOf 3 = 1 := by kernel_rfl
theorem c4 : Try.prog.cellsOf 4 = 1 := by kernel_rfl
theorem c9 : Try.prog.cellsOf 9 = 1 := by kernel_rfl
theorem c22 : Try.prog.cellsOf 22 = 1 := by kernel_rfl
theorem c23 : Try.prog.cellsOf 23 = 1 := by kernel_rfl
theorem c24 : Try.prog.cellsOf 24 = 1 := by kernel_rfl
theorem c26 : Try.prog.cellsOf 26 = 7 := by kernel_rfl
theorem c44 : Try.prog.cellsOf 44 = 7 := by kernel_rfl
theorem c71 : Try.prog.cellsOf 71 = 2 := by kernel_rfl
theorem c73 : Try.prog.cellsOf 73 = 2 := by kernel_rfl
theorem c77 : Try.prog.cellsOf 77 = 4 := by kernel_rfl
theorem b71 : Try.prog.bytesOf 71 = 24 := by kernel_rfl
theorem b73 : Try.prog.bytesOf 73 = 24 := by kernel_rfl
theorem b77 : Try.prog.bytesOf 77 = 40 := by kernel_rfl
theorem b3 : Try.prog.bytesOf 3 = 8 := by kernel_rfl
theorem sz_field {P : Program} {t : TypeId} {fs : Array Field} {ds : List (DataW H)} {i : Nat} {f : Field} {d : DataW H} (ht : P.underlying t = some (.struct fs)) (h : sz P t (.agg ds)) (hf : fs[i]? = some f) (hd : ds[i]? = some d) : sz P f.type d := by
  intro n hn
  refine h n ?_
  simp only [DataW.weights, ht]
  exact DataW.weights_mem_each (j := i) (by simp [hf]) hd n hn
theorem rdInt (fuel : Nat) (cs : List Value) (d : DataW H) (p : List MemPlace) (h : DataW.trod enc Try.prog w 0 (fun _ => true) true fuel 3 cs = some (d, p)) : ∃ x : Int, cs = [.int .i64 x] ∧ inI x ∧ (Lit.int .i64 x).wf = true := by
  obtain ⟨n, hc, _, hw⟩ := DataW.trod_int Try.underlying3 h
  have h2 := hw
  simp [Lit.wf] at h2
  have e1 : IntKind.i64.min = -9223372036854775808 := rfl
  have e2 : IntKind.i64.max = 9223372036854775807 := rfl
  exact ⟨n, hc, by unfold inI; omega, hw⟩
theorem rdStr (fuel : Nat) (cs : List Value) (d : DataW H) (p : List MemPlace) (h : DataW.trod enc Try.prog w 0 (fun _ => true) true fuel 9 cs = some (d, p)) : ∃ s, cs = [.string s] := by
  obtain ⟨s, hc, _, _⟩ := DataW.trod_string Try.underlying9 h
  exact ⟨s, hc⟩
theorem rdBool (fuel : Nat) (cs : List Value) (d : DataW H) (p : List MemPlace) (h : DataW.trod enc Try.prog w 0 (fun _ => true) true fuel 4 cs = some (d, p)) : ∃ b, cs = [.bool b] := by
  obtain ⟨s, hc, _⟩ := DataW.trod_bool Try.underlying4 h
  exact ⟨s, hc⟩
theorem two_cells {cs : List Value} (h : cs.length = 2) : ∃ a b, cs = [a, b] := by
  match cs, h with
  | [a, b], _ => exact ⟨a, b, rfl⟩
set_option maxRecDepth 100000 in
theorem rdOu (fuel : Nat) (cs : List Value) (d : DataW H) (p : List MemPlace) (h : DataW.trod enc Try.prog w 0 (fun _ => true) true fuel 71 cs = some (d, p)) : ∃ x : Ou, cs = ouC x ∧ True := by
  obtain ⟨y0, y1, n, _, hl, h0, h1⟩ := trod_struct2 Try.underlying71 h
  rw [c71] at hl
  obtain ⟨a, b, rfl⟩ := two_cells hl
  simp only [c9, c4, List.drop_zero, List.take_succ_cons, List.take_zero, List.drop_succ_cons] at h0 h1
  obtain ⟨x, hx⟩ := rdStr _ _ _ _ h0
  obtain ⟨y, hy⟩ := rdBool _ _ _ _ h1
  injection hx with hx _
  injection hy with hy _
  subst hx hy
  exact ⟨⟨x, y⟩, rfl, trivial⟩
set_option maxRecDepth 100000 in
theorem rdIm (fuel : Nat) (cs : List Value) (d : DataW H) (p : List MemPlace) (h : DataW.trod enc Try.prog w 0 (fun _ => true) true fuel 73 cs = some (d, p)) : ∃ x : Im, cs = imC x ∧ inI x.n := by
  obtain ⟨y0, y1, n, _, hl, h0, h1⟩ := trod_struct2 Try.underlying73 h
  rw [c73] at hl
  obtain ⟨a, b, rfl⟩ := two_cells hl
  simp only [c9, c3, List.drop_zero, List.take_succ_cons, List.take_zero, List.drop_succ_cons] at h0 h1
  obtain ⟨x, hx, hw, _⟩ := rdInt _ _ _ _ h0
  obtain ⟨y, hy⟩ := rdStr _ _ _ _ h1
  injection hx with hx _
  injection hy with hy _
  subst hx hy
  exact ⟨⟨x, y⟩, rfl, hw⟩
variable {r : Reach} {b0 : Nat}
set_option maxRecDepth 100000 in
theorem arg_en {v : Value} {d : DataW H} {p : List MemPlace} (hv : Value.okWide Try.prog w r b0 26 v) (h : DataW.Trod enc Try.prog w 0 (fun _ => true) true 26 v d p) (hs : sz Try.prog 26 d) :
    ∃ (e : En) (A : Option Addr) (c : Nat) (D : Option Addr) (dd : Nat), v = enV e A c D dd ∧ EnAt w e A D ∧ Wf e ∧ (A = none → e.out.length = 0 ∧ c = 0) ∧ (D = none → e.inn.length = 0 ∧ dd = 0) := by
  obtain ⟨cs, rfl, hsz⟩ := okWide_struct Try.underlying26 hv
  obtain ⟨fuel, hf⟩ := h
  obtain ⟨xs, n, _, hx, hl, hxl, hfs⟩ := DataW.trod_struct Try.underlying26 hf
  injection hx with hd _
  subst hd
  rw [c26] at hsz
  obtain ⟨cl⟩ := cs
  match cl, hsz with
  | [a0, a1, a2, a3, a4, a5, a6], _ =>
    match xs, hxl with
    | [y0, y1, y2, y3, y4, y5, y6], _ =>
      have g : ∀ (i : Nat) (f : Field) (ty : TypeId) (u : Value) (y : DataW H × List MemPlace), (#[{ name := "Life", type := 3, offset := 0, embedded := false, tag := "", pkgPath := "", byteOffset := 0 }, { name := "Peer", type := 3, offset := 1, embedded := false, tag := "", pkgPath := "", byteOffset := 8 }, { name := "Phase", type := 22, offset := 2, embedded := false, tag := "", pkgPath := "", byteOffset := 16 }, { name := "Base", type := 3, offset := 3, embedded := false, tag := "", pkgPath := "", byteOffset := 24 }, { name := "Out", type := 23, offset := 4, embedded := false, tag := "", pkgPath := "", byteOffset := 32 }, { name := "Want", type := 3, offset := 5, embedded := false, tag := "", pkgPath := "", byteOffset := 56 }, { name := "In", type := 24, offset := 6, embedded := false, tag := "", pkgPath := "", byteOffset := 64 }] : Array Field)[i]? = some f → f.type = ty → Try.prog.cellsOf ty = 1 → (([a0, a1, a2, a3, a4, a5, a6].drop f.offset).take 1) = [u] → [y0, y1, y2, y3, y4, y5, y6][i]? = some y →
          DataW.trod enc Try.prog w 0 (fun _ => true) true n ty [u] = some (y.1, y.2) ∧ (sz Try.prog ty y.1) := by
        intro i f ty u y hi ht hc hu hy
        have h1 := hfs i f hi
        rw [ht, hc] at h1
        have h2 : ((Value.agg ⟨[a0, a1, a2, a3, a4, a5, a6]⟩).cells.toList.drop f.offset).take 1 = [u] := hu
        rw [h2, hy] at h1
        refine ⟨h1, ?_⟩
        have h3 := sz_field (i := i) (d := y.1) Try.underlying26 hs hi (by rw [List.getElem?_map, hy]; rfl)
        rw [ht] at h3
        exact h3
      obtain ⟨h0, _⟩ := g 0 _ 3 a0 y0 rfl rfl c3 rfl rfl
      obtain ⟨h1, _⟩ := g 1 _ 3 a1 y1 rfl rfl c3 rfl rfl
      obtain ⟨h2, _⟩ := g 2 _ 22 a2 y2 rfl rfl c22 rfl rfl
      obtain ⟨h3, _⟩ := g 3 _ 3 a3 y3 rfl rfl c3 rfl rfl
      obtain ⟨h4, s4⟩ := g 4 _ 23 a4 y4 rfl rfl c23 rfl rfl
      obtain ⟨h5, _⟩ := g 5 _ 3 a5 y5 rfl rfl c3 rfl rfl
      obtain ⟨h6, s6⟩ := g 6 _ 24 a6 y6 rfl rfl c24 rfl rfl
      obtain ⟨x0, e0, _⟩ := rdInt _ _ _ _ h0
      obtain ⟨x1, e1, _⟩ := rdInt _ _ _ _ h1
      obtain ⟨x2, e2, _, _⟩ := DataW.trod_int Try.underlying22 h2
      obtain ⟨x3, e3, i3, _⟩ := rdInt _ _ _ _ h3
      obtain ⟨x5, e5, _⟩ := rdInt _ _ _ _ h5
      injection e0 with e0 _
      injection e1 with e1 _
      injection e2 with e2 _
      injection e3 with e3 _
      injection e5 with e5 _
      subst e0 e1 e2 e3 e5
      obtain ⟨A, os, c, rfl, hA, _, hn⟩ := open_elems ouC (fun _ => True) (fun _ => rfl) Try.underlying23 c71 b71 (by decide) (by decide) (fun _ _ _ _ h _ => rdOu _ _ _ _ h) h4 s4
      obtain ⟨D, is, d, rfl, hD, hq, hm⟩ := open_elems imC (fun x => inI x.n) (fun _ => rfl) Try.underlying24 c73 b73 (by decide) (by decide) (fun _ _ _ _ h _ => rdIm _ _ _ _ h) h6 s6
      exact ⟨⟨x0, x1, x2, x3, os, x5, is⟩, A, c, D, d, rfl, ⟨hA, hD⟩, ⟨i3, hq⟩, fun h => ⟨by show os.length = 0; rw [(hn h).1]; rfl, (hn h).2⟩, fun h => ⟨by show is.length = 0; rw [(hm h).1]; rfl, (hm h).2⟩⟩
end
theorem sz_arg {H : Type} {P : Program} {ts : List TypeId} {ds : List (DataW H)} (h : (DataW.weightsEach P ts ds).all (· ≤ reachBytes) = true) {j : Nat} {t : TypeId} {d : DataW H} (ht : ts[j]? = some t) (hd : ds[j]? = some d) : sz P t d := by
  intro n hn
  have := List.all_eq_true.1 h _ (DataW.weights_mem_each ht hd n hn)
  simpa using this
end Go.Proofs.Ytejabnoidhlfaaa
