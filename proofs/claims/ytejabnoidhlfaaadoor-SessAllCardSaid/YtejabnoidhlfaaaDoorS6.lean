/- An end in memory. -/
import Derived.Test.YtejabnoidhlfaaaDoorS2
import Derived.Test.YtejabnoidhlfaaaDoorProg
import Derived.Test.YtejabnoidhlfaaaDoorS4
import Derived.Test.YtejabnoidhlfaaaDoorS5
import Derived.Laws.AppendOwnNone

/- General lemmas over the Sess seat's program. -/
namespace Go.Proofs.YtejabnoidhlfaaaDoor
open Go.RowKit Go.Maps
theorem own_fits {w : World} {base size n : Nat} {e : TypeId} {v : Value} {xs : List Value} (h : w.ownsRow base e size v n xs) : ∃ A c, v = .slice A n c := by
 rcases h.2 with ⟨rfl, rfl⟩ | ⟨g, cap, cur, rfl, _⟩
 ·exact ⟨_, _, rfl⟩
 ·exact ⟨_, _, rfl⟩

theorem blk_ne {w : World} {b b' : Nat} {cs cs' : Array Value} {t t' : TypeId} (h : Blk w b (.cells cs t)) (h' : Blk w b' (.cells cs' t')) (hne : t ≠ t') : b ≠ b' := by
 rintro rfl
 unfold Blk at h h'
 rw [h] at h'
 injection h' with h'
 injection h' with _ ht
 exact hne ht

theorem blk_cells {w : World} {b : Nat} {xs : List Value} {t : TypeId} (h : Blk w b (.cells xs.toArray t)) (hl : xs.length ≤ 17592186043904) : Cells w (some ⟨b, 0, none⟩) xs :=
 ⟨hl, b, 0, by have := h.lt; omega, fun _ => ⟨rfl, h.lt⟩, fun k v hk => by rw [Nat.zero_add]; exact h.cell k (by simpa using hk)⟩

/-- Index k of a slice that begins its block. -/
theorem ix_own {P : Program} {t e : TypeId} {b n c k : Nat} (ht : P.underlying t = some (.slice e)) (hs : (P.info? e).map (·.size) = some 1) (hk : k < n) (w' : World) :
  (Instr.indexAt t (.slice (some ⟨b, 0, none⟩) n c) (.int .i64 (k : Int))).run P w' = .ok (.pointer (some ⟨b, k, none⟩)) w' := by
 obtain ⟨i, hi, hie⟩ : ∃ i, P.info? e = some i ∧ i.size = 1 := by
  cases hx : P.info? e with
  | none => rw [hx] at hs; cases hs
  | some i => rw [hx] at hs; exact ⟨i, rfl, by simpa using hs⟩
 have hin : (0 : Int) ≤ (k : Int) ∧ (k : Int) < (n : Int) := by omega
 simp [Instr.indexAt, run_underlying ht, asIntOf, hin, sizeOf, typeInfo, hi, hie, hk]
 by_cases h0 : k = 0
 ·simp [Addr.add, h0]
 ·simp [Addr.add, h0]

theorem ints_get {xs : List Int} {k : Nat} {x : Int} (h : xs[k]? = some x) : (ints xs).toArray[k]? = some (.int .i64 x) := by simp [ints, h]

theorem ints_set {xs : List Int} {k : Nat} {x : Int} : (ints xs).toArray.setIfInBounds k (.int .i64 x) = (ints (xs.set k x)).toArray := by simp [ints, List.map_set]

/-- A row without room is its block. -/
theorem own_full {w : World} {base : Nat} {e : TypeId} {g n : Nat} {xs : List Value} (h : w.ownsRow base e 1 (.slice (some ⟨g, 0, none⟩) n n) n xs) : Blk w g (.cells xs.toArray e) := by
 obtain ⟨hlen, ⟨hv, _⟩ | ⟨g', cap, cur, hv, hg, hh, hnc, hcm, hcs, hcur⟩⟩ := h
 ·cases hv
 ·injection hv with h1 h2 h3
  injection h1 with h1
  injection h1 with h1 _ _
  subst h1 h3
  have e1 : xs.toArray = cur := by
   rw [← hcur, List.take_of_length_le (by simp; omega)]
  rw [e1]
  exact hh

theorem made_ints (n : Nat) : (madeCells (Value.int .i64 0).cells (n * 1)).toList = ints (List.replicate n 0) := by
 unfold madeCells ints
 rw [Nat.mul_one, List.map_replicate]
 apply List.ext_getElem
 ·simp
 ·intro i h1 h2
  simp [Value.cells, Nat.mod_one]

theorem results_ct {P : Program} {fn : Func} {tmps : Array Value} {w : World} {a b : Tmp} {t : TypeId} {p : Addr} {v u : Value} (h : fn.results = #[.cell a t, .tmp b]) (ha : tmps.getD a undef = .pointer (some p)) (hb : tmps.getD b undef = u) (hl : (loadVar t p).run P w = .ok v w) :
  (results fn tmps).run P w = .ok (.tuple #[v, u]) w := by
 simp only [Array.getD_eq_getD_getElem?] at ha hb
 simp [results, h, ha, hl, hb, asAddr, Result.andThen]

theorem results_c {P : Program} {fn : Func} {tmps : Array Value} {w : World} {a : Tmp} {t : TypeId} {p : Addr} {v : Value} (h : fn.results = #[.cell a t]) (ha : tmps.getD a undef = .pointer (some p)) (hl : (loadVar t p).run P w = .ok v w) :
  (results fn tmps).run P w = .ok v w := by
 simp only [Array.getD_eq_getD_getElem?] at ha
 simp [results, h, ha, hl, asAddr]

theorem results_tt {P : Program} {fn : Func} {tmps : Array Value} {w : World} {a b : Tmp} {x y : Value} (h : fn.results = #[.tmp a, .tmp b]) (ha : tmps.getD a undef = x) (hb : tmps.getD b undef = y) :
  (results fn tmps).run P w = .ok (.tuple #[x, y]) w := by
 subst ha hb
 simp [results, h, go_sem]

theorem results_ttt {P : Program} {fn : Func} {tmps : Array Value} {w : World} {a b c : Tmp} {x y z : Value} (h : fn.results = #[.tmp a, .tmp b, .tmp c]) (ha : tmps.getD a undef = x) (hb : tmps.getD b undef = y) (hc : tmps.getD c undef = z) :
  (results fn tmps).run P w = .ok (.tuple #[x, y, z]) w := by
 simp only [Array.getD_eq_getD_getElem?] at ha hb hc
 simp [results, h, ha, hb, hc]

theorem nodup_at {α : Type} {l : List α} (h : l.Nodup) {i j : Nat} {x : α} (hi : l[i]? = some x) (hj : l[j]? = some x) : i = j := by
 obtain ⟨h1, e1⟩ := List.getElem?_eq_some_iff.1 hi
 obtain ⟨h2, e2⟩ := List.getElem?_eq_some_iff.1 hj
 have hp := List.pairwise_iff_getElem.1 h
 rcases Nat.lt_trichotomy i j with hlt | he | hlt
 ·exact absurd (e1.trans e2.symm) (hp i j h1 h2 hlt)
 ·exact he
 ·exact absurd (e2.trans e1.symm) (hp j i h2 h1 hlt)

theorem cell_frame {S : Nat → Prop} {W w' : World} (hF : Frame S W w') {b i : Nat} (hb : b < W.heap.size) (hn : ¬ S b) {v : Value} (hc : W.cell? ⟨b, i, none⟩ = some v) : w'.cell? ⟨b, i, none⟩ = some v :=
 (World.cell?_of_block (w := W) (w' := w') (a := ⟨b, i, none⟩) (hF.block b hb hn)).trans hc

theorem below_in {W A B : World} (h : Below W.heap.size W A) (k : Below A.heap.size A B) : Below W.heap.size W B := h.trans (k.mono h.size)

theorem p2_wrap {n : Int} (h0 : 0 ≤ n) (h1 : n ≤ 62) : wrap64 (2 ^ n.toNat) = 2 ^ n.toNat := by
 have h : (2 : Nat) ^ n.toNat ≤ 2 ^ 62 := Nat.pow_le_pow_right (by decide) (by omega)
 have h' : (2 : Int) ^ n.toNat = ((2 ^ n.toNat : Nat) : Int) := by simp
 rw [h']
 generalize (2 : Nat) ^ n.toNat = z at h
 exact IntWalk.wrap64_in _ ⟨by omega, by omega⟩

theorem p2_nat {k : Nat} (h : k ≤ 62) : wrap64 (2 ^ k) = 2 ^ k := by
 have := p2_wrap (n := (k : Int)) (by omega) (by omega)
 simpa using this

theorem rInt : ElemRow Tryd.prog 23 3 1 8 := ElemRow.mk' (z := .int .i64 0) Tryd.underlying23 (by kernel_rfl) rfl (by decide) (by decide)

theorem szInt : (Tryd.prog.info? 3).map (·.size) = some 1 := rInt.size_eq

theorem drop_of {α : Type} {l : List α} {k : Nat} {x : α} (h : l[k]? = some x) : l.drop k = x :: l.drop (k + 1) := by
 obtain ⟨hk, rfl⟩ := List.getElem?_eq_some_iff.1 h
 exact List.drop_eq_getElem_cons hk

theorem info3 : (Tryd.prog.info? 3).map (fun i => (i.zero, i.size, i.bytes)) = some (some (.int .i64 0), 1, 8) := by kernel_rfl
theorem Cells.lt {w : World} {A : Option Addr} {cs : List Value} (h : Cells w A cs) (hn : cs ≠ []) {a : Addr} (ha : A = some a) : a.block < w.heap.size := by
 obtain ⟨_, b, off, _, hA, _⟩ := h
 obtain ⟨rfl, hb⟩ := hA hn
 injection ha with ha; subst ha; exact hb
end Go.Proofs.YtejabnoidhlfaaaDoor

/- Ends and packets in memory. -/
namespace Go.Proofs.YtejabnoidhlfaaaDoor
open Go.RowKit Go.Maps

def ouC (x : Ou) : List Value := [.string x.t, .bool x.h]
def imC (x : Im) : List Value := [.int .i64 x.n, .string x.t]
def pkC (p : Pk) : List Value := [.int .i64 p.kind, .int .i64 p.frm, .int .i64 p.to, .int .i64 p.num, .string p.t, .int .i64 p.ack, .int .i64 p.held]
def stC (s : ByteArray) : List Value := [.string s]
def ous (l : List Ou) : List Value := l.flatMap ouC
def ims (l : List Im) : List Value := l.flatMap imC
def pks (l : List Pk) : List Value := l.flatMap pkC
def strs (l : List ByteArray) : List Value := l.flatMap stC
theorem ouC_len : ∀ x, (ouC x).length = 2 := fun _ => rfl
theorem imC_len : ∀ x, (imC x).length = 2 := fun _ => rfl
theorem pkC_len : ∀ x, (pkC x).length = 7 := fun _ => rfl
theorem stC_len : ∀ x, (stC x).length = 1 := fun _ => rfl
def pkV (p : Pk) : Value := .agg #[.int .i64 p.kind, .int .i64 p.frm, .int .i64 p.to, .int .i64 p.num, .string p.t, .int .i64 p.ack, .int .i64 p.held]
def enV (e : En) (A : Option Addr) (c : Nat) (B : Option Addr) (d : Nat) : Value := .agg #[.int .i64 e.life, .int .i64 e.peer, .int .i64 e.phase, .int .i64 e.base, .slice A e.out.length c, .int .i64 e.want, .slice B e.inn.length d]
structure EnAt (w : World) (e : En) (A B : Option Addr) : Prop where
 out : Cells w A (ous e.out)
 inn : Cells w B (ims e.inn)
theorem EnAt.below {w w' : World} {e : En} {A B : Option Addr} (h : EnAt w e A B) (hB : Below w.heap.size w w') : EnAt w' e A B := ⟨h.out.below hB (Nat.le_refl _), h.inn.below hB (Nat.le_refl _)⟩
theorem rOu : ElemRow Tryd.prog 35 53 2 24 := ElemRow.mk' (z := .agg #[.string ByteArray.empty, .bool false]) Tryd.underlying35 (by kernel_rfl) rfl (by decide) (by decide)
theorem rIm : ElemRow Tryd.prog 36 111 2 24 := ElemRow.mk' (z := .agg #[.int .i64 0, .string ByteArray.empty]) Tryd.underlying36 (by kernel_rfl) rfl (by decide) (by decide)
theorem rPk : ElemRow Tryd.prog 39 49 7 64 := ElemRow.mk' (z := .agg #[.int .i64 0, .int .i64 0, .int .i64 0, .int .i64 0, .string ByteArray.empty, .int .i64 0, .int .i64 0]) Tryd.underlying39 (by kernel_rfl) rfl (by decide) (by decide)
theorem rSt : ElemRow Tryd.prog 42 9 1 16 := ElemRow.mk' (z := .string ByteArray.empty) Tryd.underlying42 (by kernel_rfl) rfl (by decide) (by decide)
/-- Element k of a slice of messages. -/
theorem ou_at {w : World} {A : Option Addr} {l : List Ou} {c k : Nat} (h : Cells w A (ous l)) (hk : k < l.length) : ∃ x b o, l[k]? = some x ∧ b < w.heap.size ∧ (∀ w', (Instr.indexAt 35 (.slice A l.length c) (.int .i64 (k : Int))).run Tryd.prog w' = .ok (.pointer (some ⟨b, o, none⟩)) w') ∧
  w.cell? ⟨b, o, none⟩ = some (.string x.t) ∧ w.cell? ⟨b, o + 1, none⟩ = some (.bool x.h) := by
 obtain ⟨x, b, o, hx, hb, hix, hc⟩ := flat_at (c := c) h ouC_len Tryd.underlying35 rOu.size_eq (by decide) hk
 exact ⟨x, b, o, hx, hb, hix, hc 0 _ rfl, hc 1 _ rfl⟩
theorem im_at {w : World} {A : Option Addr} {l : List Im} {c k : Nat} (h : Cells w A (ims l)) (hk : k < l.length) : ∃ x b o, l[k]? = some x ∧ b < w.heap.size ∧ (∀ w', (Instr.indexAt 36 (.slice A l.length c) (.int .i64 (k : Int))).run Tryd.prog w' = .ok (.pointer (some ⟨b, o, none⟩)) w') ∧
  w.cell? ⟨b, o, none⟩ = some (.int .i64 x.n) ∧ w.cell? ⟨b, o + 1, none⟩ = some (.string x.t) := by
 obtain ⟨x, b, o, hx, hb, hix, hc⟩ := flat_at (c := c) h imC_len Tryd.underlying36 rIm.size_eq (by decide) hk
 exact ⟨x, b, o, hx, hb, hix, hc 0 _ rfl, hc 1 _ rfl⟩
theorem pk_at {w : World} {A : Option Addr} {l : List Pk} {c k : Nat} (h : Cells w A (pks l)) (hk : k < l.length) : ∃ x b o, l[k]? = some x ∧ b < w.heap.size ∧ (∀ w', (Instr.indexAt 39 (.slice A l.length c) (.int .i64 (k : Int))).run Tryd.prog w' = .ok (.pointer (some ⟨b, o, none⟩)) w') ∧
  w.cell? ⟨b, o, none⟩ = some (.int .i64 x.kind) ∧ w.cell? ⟨b, o + 1, none⟩ = some (.int .i64 x.frm) ∧ w.cell? ⟨b, o + 2, none⟩ = some (.int .i64 x.to) ∧ w.cell? ⟨b, o + 3, none⟩ = some (.int .i64 x.num) ∧
  w.cell? ⟨b, o + 4, none⟩ = some (.string x.t) ∧ w.cell? ⟨b, o + 5, none⟩ = some (.int .i64 x.ack) ∧ w.cell? ⟨b, o + 6, none⟩ = some (.int .i64 x.held) := by
 obtain ⟨x, b, o, hx, hb, hix, hc⟩ := flat_at (c := c) h pkC_len Tryd.underlying39 rPk.size_eq (by decide) hk
 exact ⟨x, b, o, hx, hb, hix, hc 0 _ rfl, hc 1 _ rfl, hc 2 _ rfl, hc 3 _ rfl, hc 4 _ rfl, hc 5 _ rfl, hc 6 _ rfl⟩
theorem st_at {w : World} {A : Option Addr} {l : List ByteArray} {c k : Nat} (h : Cells w A (strs l)) (hk : k < l.length) : ∃ x b o, l[k]? = some x ∧ b < w.heap.size ∧ (∀ w', (Instr.indexAt 42 (.slice A l.length c) (.int .i64 (k : Int))).run Tryd.prog w' = .ok (.pointer (some ⟨b, o, none⟩)) w') ∧
  w.cell? ⟨b, o, none⟩ = some (.string x) := by
 obtain ⟨x, b, o, hx, hb, hix, hc⟩ := flat_at (c := c) h stC_len Tryd.underlying42 rSt.size_eq (by decide) hk
 exact ⟨x, b, o, hx, hb, hix, hc 0 _ rfl⟩
theorem ous_len (l : List Ou) : (ous l).length = l.length * 2 := flat_len ouC_len l
theorem ims_len (l : List Im) : (ims l).length = l.length * 2 := flat_len imC_len l
theorem pks_len (l : List Pk) : (pks l).length = l.length * 7 := flat_len pkC_len l
theorem strs_len (l : List ByteArray) : (strs l).length = l.length := by have := flat_len stC_len l; unfold strs; omega
theorem ous_snoc (l : List Ou) (x : Ou) : ous (l ++ [x]) = ous l ++ [.string x.t, .bool x.h] := by simp [ous, ouC]
theorem ims_snoc (l : List Im) (x : Im) : ims (l ++ [x]) = ims l ++ [.int .i64 x.n, .string x.t] := by simp [ims, imC]
theorem pks_snoc (l : List Pk) (p : Pk) : pks (l ++ [p]) = pks l ++ [.int .i64 p.kind, .int .i64 p.frm, .int .i64 p.to, .int .i64 p.num, .string p.t, .int .i64 p.ack, .int .i64 p.held] := by simp [pks, pkC]
theorem strs_snoc (l : List ByteArray) (s : ByteArray) : strs (l ++ [s]) = strs l ++ [.string s] := by simp [strs, stC]

/-- An end that is being changed: its box, its messages, its map. -/
structure Xs (w : World) (bx bm : Nat) (e : En) (A : Option Addr) (c : Nat) (vi : Value) : Prop where
 box : Blk w bx (.cells #[.int .i64 e.life, .int .i64 e.peer, .int .i64 e.phase, .int .i64 e.base, .slice A e.out.length c, .int .i64 e.want, vi, .map (some bm)] 86)
 out : Cells w A (ous e.out)
 map : Early w bm (getN e.inn)
 cap : e.out.length ≤ c
 nil : A = none → c = 0
theorem Xs.below {w w' : World} {bx bm : Nat} {e : En} {A : Option Addr} {c : Nat} {vi : Value} (h : Xs w bx bm e A c vi) (hB : Below w.heap.size w w') : Xs w' bx bm e A c vi :=
 ⟨h.box.below hB h.box.lt, h.out.below hB (Nat.le_refl _), h.map.frame (Frame.of_all (S := fun _ => False) hB) (fun h => h), h.cap, h.nil⟩
theorem Xs.drew {w : World} {bx bm : Nat} {e : En} {A : Option Addr} {c : Nat} {vi : Value} (h : Xs w bx bm e A c vi) : Xs w.drew bx bm e A c vi := h.below (Below.refl _ w).drew
theorem own_nil {w : World} {B : Nat} {e : TypeId} {size n m c : Nat} {A : Option Addr} {xs : List Value} (h : w.ownsRow B e size (.slice A m c) n xs) : A = none → c = 0 := by
 intro hA
 rcases h.2 with ⟨h1, h2⟩ | ⟨g, cap, cur, hv, _⟩
 ·injection h1
 ·injection hv with h1 _ _
  rw [hA] at h1
  cases h1
theorem own_cap {w : World} {B : Nat} {e : TypeId} {size n c : Nat} {A : Option Addr} {xs : List Value} (h : w.ownsRow B e size (.slice A n c) n xs) : n ≤ c := by
 rcases h.2 with ⟨h1, h2⟩ | ⟨g, cap, cur, hv, _, _, hnc, _⟩
 ·omega
 ·injection hv with _ _ h3
  omega
end Go.Proofs.YtejabnoidhlfaaaDoor

/- append of a whole slice; slices.Clone of messages. -/
namespace Go.Proofs.YtejabnoidhlfaaaDoor
open Go.RowKit Go.Maps

/-- append(s, x...), x a slice that reads. -/
theorem wpList_appN {P : Program} {t e : TypeId} {size bytes : Nat} (R : ElemRow P t e size bytes) (w : World) {ops : Array Oper} {rest : List Oper} {o : Oper} {a : Act} {Q : Exit → Act → World → Prop} (hgd : o.guard = none) (s x : Operand)
  (ho : o.op = .call { callee := .builtin .append, args := #[s, x], argTypes := #[t, t] })
  {base : Nat} {v : Value} {n : Nat} {xs : List Value} (hown : w.ownsRow base e size v n xs) (hs : a.eval s = v) (B : Option Addr) (m c : Nat) (news : List Value) (hx : a.eval x = .slice B m c) (hB0 : B = none → m = 0 ∧ c = 0) (hC : Cells w B news)
  (hnl : news.length = m * size) (hone : ∀ u ∈ news, u.oneCell' = true) (hbytes : (n + m) * bytes ≤ 140737488355328) (hbase : base ≤ w.heap.size)
  (h : ∀ v' w', w'.ownsRow base e size v' (n + m) (xs ++ news) → Below base w w' → w.grownBy w' v.ownBlock → (∀ g, v'.ownBlock = some g → v.ownBlock = some g ∨ w.heap.size ≤ g) → wpList P ops Q rest (a.put o.dst v') w') :
  wpList P ops Q (o :: rest) a w := by
 obtain ⟨i, z, hi, hz, hs1, hb1, hzs⟩ := R.row
 cases B with
 | none =>
  obtain ⟨rfl, rfl⟩ := hB0 rfl
  obtain rfl : news = [] := List.eq_nil_of_length_eq_zero (by simpa using hnl)
  refine wpList_append_own_none hgd s x t ho base e i size R.ut hi v n xs hs hown hx (h v w ?_ (Below.refl _ w) ⟨rfl, rfl, rfl, Nat.le_refl _, fun _ _ _ => rfl⟩ (fun g hg => .inl hg))
  rw [Nat.add_zero, List.append_nil]
  exact hown
 | some ad =>
  have hm : n + m ≤ maxLen := by
   have h1 : (n + m) * 1 ≤ (n + m) * bytes := Nat.mul_le_mul_left _ R.pos'
   unfold maxLen; omega
  refine wpList_append_own_at _ hgd s x t ho base e i z size bytes R.ut hi hz hs1 hb1 hzs R.pos v n xs hs hown ad m c news hx hnl ?_ hone hm hbytes hbase ?_
  ·intro j u hj
   obtain ⟨hl, b, off, hb0, hA, hc⟩ := hC
   have hne : news ≠ [] := by rintro rfl; simp at hj
   obtain ⟨e1, _⟩ := hA hne
   injection e1 with e1
   have h2 : ad.add j = ⟨b, off + j, none⟩ := by
    rw [e1]
    unfold Addr.add
    split <;> simp_all
   rw [h2]
   exact hc j u hj
  ·intro v' w' ho' hg _ hloc
   refine h v' w' ho' (below_of_grown hown hg hbase) hg fun g hg' => ?_
   rcases hloc with hl | hl
   ·exact .inl (hl ▸ hg')
   ·rw [hl] at hg'
    have e : w.heap.size = g := by injection hg'
    exact .inr (by omega)
theorem ouC_one : ∀ l : List Ou, ∀ u ∈ ous l, u.oneCell' = true := by
 intro l u hu
 obtain ⟨x, _, hx⟩ := List.mem_flatMap.1 hu
 simp [ouC] at hx
 rcases hx with rfl | rfl <;> rfl
theorem imC_one : ∀ l : List Im, ∀ u ∈ ims l, u.oneCell' = true := by
 intro l u hu
 obtain ⟨x, _, hx⟩ := List.mem_flatMap.1 hu
 simp [imC] at hx
 rcases hx with rfl | rfl <;> rfl
theorem pkC_one : ∀ l : List Pk, ∀ u ∈ pks l, u.oneCell' = true := by
 intro l u hu
 obtain ⟨x, _, hx⟩ := List.mem_flatMap.1 hu
 simp [pkC] at hx
 rcases hx with rfl | rfl | rfl | rfl | rfl | rfl | rfl <;> rfl
theorem stC_one : ∀ l : List ByteArray, ∀ u ∈ strs l, u.oneCell' = true := by
 intro l u hu
 obtain ⟨x, _, hx⟩ := List.mem_flatMap.1 hu
 simp [stC] at hx
 rcases hx with rfl
 rfl

theorem eql_nil23 (A : Option Addr) (n c : Nat) (w : World) : (binOp .eql 35 (.slice A n c) (.slice none 0 0)).run Tryd.prog w = .ok (.bool A.isNone) w := Lib.run_eql_slice_nil w _ _ A n c 0 0 Tryd.underlying35
set_option maxRecDepth 100000 in
set_option maxHeartbeats 4000000 in
theorem clone_ou (A : Option Addr) (c : Nat) (l : List Ou) (w : World) (h : Cells w A (ous l)) (h0 : A = none → l.length = 0 ∧ c = 0) (hl : l.length ≤ 1000) :
  Calls Tryd.prog 50 #[.slice A l.length c] w fun r w' => ∃ v, r = .returned v ∧ w'.ownsRow w.heap.size 53 2 v l.length (ous l) ∧ Below w.heap.size w w' := by
 have HC := Lib.hid h
 cases A with
 | none =>
  obtain ⟨hl0, rfl⟩ := h0 rfl
  have hl1 : l = [] := List.eq_nil_of_length_eq_zero hl0
  subst hl1
  have heq : ∀ w : World, (binOp .eql 35 (.slice none 0 0) (.slice none 0 0)).run Tryd.prog w = .ok (.bool true) w := fun w => eql_nil23 none 0 0 w
  rw [List.length_nil]
  clear h h0
  go_enter Tryd.func50, Tryd.ntmps50
  go_wp2
  go_ret
  exact ⟨_, rfl, World.ownsRow_nil _ _ _ _, Below.refl _ _⟩
 | some a =>
  have heq : ∀ w : World, (binOp .eql 35 (.slice (some a) l.length c) (.slice none 0 0)).run Tryd.prog w = .ok (.bool false) w := fun w => eql_nil23 (some a) l.length c w
  have HB0 : Hid (Below w.heap.size w (w.alloc (.cells #[] 53))) := (Below.refl _ w).alloc (Nat.le_refl _) _
  have HC1 := Lib.hid (h.below HB0.out (Nat.le_refl _))
  have HOW : Hid ((w.alloc (.cells #[] 53)).ownsRow w.heap.size 53 2 (.slice (some ⟨w.heap.size, 0, none⟩) 0 0) 0 []) := World.ownsRow_made w #[] 0 (Nat.le_refl _) (Nat.zero_le _) (by simp)
  clear h h0
  go_enter Tryd.func50, Tryd.ntmps50
  go_wp2_with (at_builtin; go_must (refine wpList_appN rOu _ rfl _ _ rfl HOW.out rfl (some a) l.length c (ous l) rfl (fun h => by cases h) HC1.out (ous_len l) (ouC_one l) (by omega) (by simp) ?_); intro v' w2 hown2 hB2 hg2 hloc2)
  go_ret
  refine ⟨v', rfl, ?_, HB0.out.trans hB2⟩
  rw [Nat.zero_add, List.nil_append] at hown2
  exact hown2
end Go.Proofs.YtejabnoidhlfaaaDoor
