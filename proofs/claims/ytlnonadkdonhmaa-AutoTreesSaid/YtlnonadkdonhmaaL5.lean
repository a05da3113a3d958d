/- Contracts and lemmas that a claim of this seat uses. -/
import Derived.Test.YtlnonadkdonhmaaL4
import Derived.DeepKeys4

/- Contracts: both. The table of pairs in memory. -/
namespace Go.Proofs.Ytlnonadkdonhmaa
open Go.RowKit Go.Maps

theorem row126 : (126 : TypeId) < Try.prog.types.size := of_decide_eq_true (by kernel_rfl)
theorem wide126 : (match Try.prog.underlying 126 with | some (.array _ _) | some (.struct _) => true | _ => false) = true := by rw [Try.underlying126]
theorem laidOut : laidOutB Try.prog = true := by kernel_rfl
set_option maxRecDepth 100000 in
theorem keyed126 : Keyed Try.prog 126 := Keyed.of_law (deep_law_laid laidOut (m := 2) (by omega) row126 (by kernel_rfl) wide126)
theorem cells126 : Try.prog.cellsOf 126 = 2 := by kernel_rfl
theorem cells3 : Try.prog.cellsOf 3 = 1 := by kernel_rfl
theorem type126 : Try.prog.keyType 126 = true := by kernel_rfl
def rng (a : Int) : Prop := -9223372036854775808 ≤ a ∧ a ≤ 9223372036854775807
theorem key126 (a b : Int) (ha : rng a) (hb : rng b) : ∃ l, keyOf Try.prog 126 (.agg #[.int .i64 a, .int .i64 b]) = some l := by
  have h1 : (Lit.int .i64 a).wf = true := WalkArith.wf_i64 ha
  have h2 : (Lit.int .i64 b).wf = true := WalkArith.wf_i64 hb
  have hf : (Value.agg #[.int .i64 a, .int .i64 b]).formed Try.prog 126 = true := by simp [Value.formed, Try.underlying126, cells126]
  have hk : ∃ ls, Try.prog.keyLits (Try.prog.types.size + 1) 126 (Value.agg #[.int .i64 a, .int .i64 b]).cells.toList = some ls := by
    have e1 : ∀ x : Int, (Lit.int .i64 x).wf = true → Try.prog.keyLits (192 + 1) 3 [.int .i64 x] = some [.int .i64 x] := by
      intro x hx
      simp [Program.keyLits, Try.underlying3, hx]
    rw [show Try.prog.types.size + 1 = 193 + 1 by kernel_rfl]
    refine ⟨[.int .i64 a, .int .i64 b], ?_⟩
    unfold Program.keyLits
    simp only [Try.underlying126, cells126, cells3]
    rw [show (193 : Nat) = 192 + 1 from rfl]
    simp [List.range_succ, Value.cells, e1 a h1, e1 b h2]
  obtain ⟨ls, hls⟩ := hk
  refine ⟨.string (keyBytes ls), ?_⟩
  simp only [keyOf, Try.underlying126, type126, hf, hls]
  rfl

set_option maxRecDepth 100000 in
set_option maxHeartbeats 1000000 in
theorem both_any (a b : Int) (w : World) : Calls Try.prog 85 #[.int .i64 a, .int .i64 b] w fun e w' => e = .returned (.agg #[.int .i64 (min a b), .int .i64 (max a b)]) ∧ Below w.heap.size w w' := by
  rcases Int.lt_trichotomy a b with h | h | h
  · have HM : Hid (min a b = a ∧ max a b = b) := ⟨by omega, by omega⟩
    rw [HM.out.1, HM.out.2]
    go_enter Try.func85, Try.ntmps85
    go_wp2
    exact bodyPost_ret (v := .agg #[.int .i64 a, .int .i64 b]) (results_c rfl rfl (by go_simp)) rfl ⟨rfl, (Below.refl _ _).alloc (Nat.le_refl _) _⟩
  · subst h
    rw [Int.min_self, Int.max_self]
    go_enter Try.func85, Try.ntmps85
    go_wp2
    all_goals exact bodyPost_ret (v := .agg #[.int .i64 a, .int .i64 a]) (results_c rfl rfl (by go_simp)) rfl ⟨rfl, (Below.refl _ _).alloc (Nat.le_refl _) _⟩
  · have HM : Hid (min a b = b ∧ max a b = a) := ⟨by omega, by omega⟩
    rw [HM.out.1, HM.out.2]
    go_enter Try.func85, Try.ntmps85
    go_wp2
    exact bodyPost_ret (v := .agg #[.int .i64 b, .int .i64 a]) (results_c rfl rfl (by go_simp)) rfl ⟨rfl, (Below.refl _ _).alloc (Nat.le_refl _) _⟩

/-! ### the table of pairs -/
abbrev Tbl := List ((Int × Int) × Int)
def tblV (t : Tbl) : List (Value × Value) := t.map fun p => (.agg #[.int .i64 p.1.1, .int .i64 p.1.2], .int .i64 p.2)
def tget (t : Tbl) (p : Int × Int) : Option Int := (t.find? fun q => q.1 == p).map (·.2)
def bothI (a b : Int) : Int × Int := (min a b, max a b)
abbrev TblAt (w : World) (b : Nat) (t : Tbl) : Prop := MapIs Try.prog 126 w b (tblV t)

theorem pairV_inj {a b c d : Int} (h : Value.agg #[.int .i64 a, .int .i64 b] = .agg #[.int .i64 c, .int .i64 d]) : a = c ∧ b = d := by
  injection h with h
  simp at h
  exact h
theorem tbl_look {w : World} {b : Nat} {t : Tbl} {p q : Int} (h : TblAt w b t) (hp : rng p) (hq : rng q) :
    (Instr.lookup 123 (.map (some b)) (.agg #[.int .i64 p, .int .i64 q]) true).run Try.prog w = .ok (.tuple #[.int .i64 ((tget t (p, q)).getD 0), .bool (tget t (p, q)).isSome]) w := by
  obtain ⟨l, hl⟩ := key126 p q hp hq
  have hz : (zeroValue 3).run Try.prog w = .ok (.int .i64 0) w := by kernel_rfl
  cases hx : t.find? (fun r => r.1 == (p, q)) with
  | none =>
    have e : tget t (p, q) = none := by unfold tget; rw [hx]; rfl
    rw [e]
    have := h.look_no keyed126 Try.underlying123 hl (fun r hr he => by
      obtain ⟨⟨⟨x, y⟩, n⟩, hm, rfl⟩ := List.mem_map.1 hr
      obtain ⟨e1, e2⟩ := pairV_inj he
      have := List.find?_eq_none.1 hx _ hm
      simp at this
      exact this e1 e2) hz true
    simpa using this
  | some r =>
    obtain ⟨⟨x, y⟩, n⟩ := r
    have hm := List.mem_of_find?_eq_some hx
    have hk := List.find?_some hx
    simp at hk
    obtain ⟨rfl, rfl⟩ := hk
    have e : tget t (x, y) = some n := by unfold tget; rw [hx]; rfl
    rw [e]
    have := h.look_yes keyed126 Try.underlying123 hl (v := .int .i64 n) (List.mem_map.2 ⟨_, hm, rfl⟩) true
    simpa using this
theorem tbl_put {w : World} {b : Nat} {t : Tbl} {p q n : Int} (h : TblAt w b t) (hp : rng p) (hq : rng q) (hn : tget t (p, q) = none) :
    ∃ w', (Instr.mapUpdate 123 (.map (some b)) (.agg #[.int .i64 p, .int .i64 q]) (.int .i64 n)).run Try.prog w = .ok () w' ∧ TblAt w' b (t ++ [((p, q), n)]) ∧ w.grownBy w' (some b) := by
  obtain ⟨l, hl⟩ := key126 p q hp hq
  have hx : t.find? (fun r => r.1 == (p, q)) = none := by
    unfold tget at hn
    simpa using hn
  obtain ⟨w', h1, h2, h3⟩ := h.put_new keyed126 Try.underlying123 hl (v := .int .i64 n) (fun r hr he => by
      obtain ⟨⟨⟨x, y⟩, n⟩, hm, rfl⟩ := List.mem_map.1 hr
      obtain ⟨e1, e2⟩ := pairV_inj he
      have := List.find?_eq_none.1 hx _ hm
      simp at this
      exact this e1 e2)
  exact ⟨w', h1, by simpa [TblAt, tblV] using h2, h3⟩

theorem eq126 (a b c d : Int) (w : World) : (Op.equalIn 10000 126 (.agg #[.int .i64 a, .int .i64 b]) (.agg #[.int .i64 c, .int .i64 d])).run Try.prog w = .ok (a == c && b == d) w := by
  have u3 := Try.underlying3
  have a3 := Try.isAgg3
  have z3 := Try.sizeOf3
  rw [show (10000 : Nat) = 9999 + 1 from rfl, Op.equalIn]
  simp only [Sem.run_bind, run_underlying Try.underlying126, Result.andThen_ok]
  simp only [Std.Legacy.Range.forIn_eq_forIn_range', Std.Legacy.Range.size, Nat.sub_zero, Nat.add_sub_cancel, Nat.div_one, List.range'_succ, List.range'_zero, List.forIn_cons, List.forIn_nil]
  go_simp
  by_cases h1 : a = c <;> by_cases h2 : b = d <;> simp [h1, h2]
theorem eq126' (a b : Int) (v : Bool) (h : (b == a) = v) (w : World) : (Op.equalIn 10000 126 (.agg #[.int .i64 a, .int .i64 b]) (.agg #[.int .i64 a, .int .i64 a])).run Try.prog w = .ok v w := by
  rw [eq126, h]; simp
end Go.Proofs.Ytlnonadkdonhmaa

/- Contract: told. -/
namespace Go.Proofs.Ytlnonadkdonhmaa
open Go.RowKit Go.Maps

/-- Whether the table says of the pair of the next states: k - 1 letters. -/
def hitP (n : Int) (t : Tbl) (p : Int × Int) : Bool := let q := bothI p.1 p.2; (q.1 != q.2) && (tget t q).isSome && ((tget t q).getD 0 == n - 1)
def toldL (n : Int) (t : Tbl) : List AAct → List AAct → Bool
  | a :: xs, b :: ys => if a.rule = b.rule then (if (a.next.zip b.next).any (hitP n t) then true else toldL n t xs ys) else (n == 1)
  | _, _ => false
def toldI (m : Mach) (p q : Nat) (n : Int) (t : Tbl) : Bool := toldL n t (m.getD p []) (m.getD q [])

theorem drop_cons {α : Type} {xs : List α} {k : Nat} {x : α} (h : xs[k]? = some x) : xs.drop k = x :: xs.drop (k + 1) := by
  have hlt := (List.getElem?_eq_some_iff.1 h).1
  rw [List.drop_eq_getElem_cons hlt]
  rw [List.getElem?_eq_getElem hlt] at h
  injection h with h
  rw [h]

theorem any_drop {α : Type} {p : α → Bool} {xs : List α} {k : Nat} {x : α} (h : (xs.take k).any p = false) (hx : xs[k]? = some x) (hp : p x = false) : (xs.take (k + 1)).any p = false := by
  rw [take_succ_of hx, List.any_append, h]
  simp [hp]
theorem any_yes {α : Type} {p : α → Bool} {xs : List α} {k : Nat} {x : α} (hx : xs[k]? = some x) (hp : p x = true) : xs.any p = true := List.any_eq_true.2 ⟨x, List.mem_of_getElem? hx, hp⟩

theorem row_of {n : Int} {rs : List Int} {m : Mach} {p : Nat} (hf : formedA n rs m = true) (hp : p < m.length) : ∃ xs, m[p]? = some xs ∧ (xs.length : Int) = n ∧ allTo (fun c a => actOkA rs m.length c a) xs xs.length = true := by
  simp only [formedA, Bool.and_eq_true, decide_eq_true_eq] at hf
  have hx : m[p]? = some m[p] := List.getElem?_eq_getElem hp
  have hrow := List.all_eq_true.1 hf.2 _ (List.mem_of_getElem? hx)
  simp only [rowOkA, Bool.and_eq_true, decide_eq_true_eq] at hrow
  exact ⟨_, hx, hrow.1, hrow.2⟩
theorem next_len_eq {rs : List Int} {len : Nat} {c : Int} {a b : AAct} (ha : actOkA rs len c a = true) (hb : actOkA rs len c b = true) (h : a.rule = b.rule) : a.next.length = b.next.length := by
  simp only [actOkA, Bool.and_eq_true, decide_eq_true_eq] at ha hb
  rw [ha.1.2, hb.1.2, h]
theorem next_mem {rs : List Int} {len : Nat} {c : Int} {a : AAct} (ha : actOkA rs len c a = true) {x : Int} (hx : x ∈ a.next) : 0 ≤ x ∧ x < len := by
  simp only [actOkA, Bool.and_eq_true] at ha
  have h := List.all_eq_true.1 ha.2 x hx
  simpa [nextOk] using h
theorem next_len {rs : List Int} {len : Nat} {c : Int} {a : AAct} (ha : actOkA rs len c a = true) : a.next.length ≤ 64 := by
  simp only [actOkA, Bool.and_eq_true, decide_eq_true_eq] at ha
  rw [ha.1.2, manyA]
  split
  · omega
  · exact Nat.pow_le_pow_right (by decide : 0 < 2) (othersA_len _ _)

abbrev pbox (w : World) (B : Option Addr) (k d : Nat) (p q : Int) : World := (w.alloc (.cells #[.slice B k d] 27)).alloc (.cells #[.int .i64 p, .int .i64 q] 126)
theorem pbox_below (w : World) (B : Option Addr) (k d : Nat) (p q : Int) : Below w.heap.size w (pbox w B k d p q) := ((Below.refl _ _).alloc (Nat.le_refl _) _).alloc (by simp) _
theorem pbox_size (w : World) (B : Option Addr) (k d : Nat) (p q : Int) : (pbox w B k d p q).heap.size = w.heap.size + 2 := by simp

set_option maxRecDepth 100000 in
set_option maxHeartbeats 8000000 in
theorem told_any (n0 : Int) (rs : List Int) (B : Option Addr) (d : Nat) (m : Mach) (p q : Nat) (n : Int) (bt : Nat) (t : Tbl) (w : World) (hM : MachAt w B m) (hf : formedA n0 rs m = true) (hp : p < m.length) (hq : q < m.length) (hn0 : 1 ≤ n) (hn1 : n ≤ 1000000) (hT : TblAt w bt t) (hml : m.length ≤ 64) :
    Calls Try.prog 117 #[.agg #[.slice B m.length d], .agg #[.int .i64 (p : Int), .int .i64 (q : Int)], .int .i64 n, .map (some bt)] w fun e w' => e = .returned (.bool (toldI m p q n t)) ∧ Below w.heap.size w w' := by
  have HB2 := Lib.hid (pbox_below w B m.length d p q)
  have HM2 := Lib.hid (hM.below HB2.out (Nat.le_refl _))
  have hbt := hT.lt
  have hst : Try.prog.stoodInHeld 126 = false := by kernel_rfl
  have hgd : Try.prog.eqGuardType Try.prog.depth 126 = false := by kernel_rfl
  obtain ⟨xs, hx, hxl, hxa⟩ := row_of hf hp
  obtain ⟨ys, hy, hyl, hya⟩ := row_of hf hq
  have hxy : xs.length = ys.length := by omega
  have HI : Hid (toldI m p q n t = toldL n t xs ys) := by show _ = _; simp [toldI, List.getD, hx, hy]
  rw [HI.out]
  obtain ⟨r1, E1, f1, b1, o1, hr1, hb1, hix1, hc1, ha1⟩ := mach_at (c := d) HM2.out hp
  obtain rfl : xs = r1 := by rw [hx] at hr1; injection hr1
  obtain ⟨r2, E2, f2, b2, o2, hr2, hb2, hix2, hc2, ha2⟩ := mach_at (c := d) HM2.out hq
  obtain rfl : ys = r2 := by rw [hy] at hr2; injection hr2
  rw [pbox_size] at hb1 hb2
  have HXA := Lib.hid hxa
  have HYA := Lib.hid hya
  have HXY := Lib.hid hxy
  have HT := Lib.hid (hT.frame (Frame.of_all (S := fun _ => False) HB2.out) (fun h => h))
  have hxl6 := ha1.len
  clear hx hy hr1 hr2 hxa hya hxy hf hxl hyl
  go_enter Try.func117, Try.ntmps117
  go_wp2
  go_loopw [23] (fun i wr => ∃ k : Nat, k ≤ xs.length ∧ i = .int .i64 k ∧ toldL n t xs ys = toldL n t (xs.drop k) (ys.drop k) ∧ Below (w.heap.size + 2) (pbox w B m.length d p q) wr) (fun i _ => xs.length - (intOf i).toNat)
  case atStart => exact ⟨0, Nat.zero_le _, rfl, rfl, Below.refl _ _⟩
  case round =>
    obtain ⟨k, hk, rfl, heq, hB⟩ := hrel
    have HE := Lib.hid heq
    have hszr : w.heap.size + 2 ≤ wr.heap.size := by have h := hB.size; rw [pbox_size] at h; exact h
    have g0 := cell_chain (b := w.heap.size) (i := 0) (v := .slice B m.length d) hB (by omega) (by go_simp)
    have g1 := cell_chain (b := w.heap.size + 1) (i := 1) (v := .int .i64 (q : Int)) hB (by omega) (by go_simp)
    have z1 := cell_chain hB hb1 hc1
    have z2 := cell_chain hB hb2 hc2
    have hz0 : w.heap.size < wr.heap.size := by omega
    have hz1 : w.heap.size + 1 < wr.heap.size := by omega
    have hz2 : b2 < wr.heap.size := by omega
    clear heq
    by_cases hlt : k < xs.length
    · obtain ⟨x, D1, p1, c1, q1, hx, hcb1, hjx1, hx0, hx1, hnx⟩ := acts_at (c := f1) (ha1.below hB (by rw [pbox_size]; exact Nat.le_refl _)) hlt
      obtain ⟨y, D2, p2, c2, q2, hy, hcb2, hjx2, hy0, hy1, hny⟩ := acts_at (c := f2) (ha2.below hB (by rw [pbox_size]; exact Nat.le_refl _)) (by rw [← HXY.out]; exact hlt)
      have HAX := Lib.hid (allTo_at HXA.out hx hlt)
      have HAY := Lib.hid (allTo_at HYA.out hy (by rw [← HXY.out]; exact hlt))
      have HD : Hid (toldL n t xs ys = toldL n t (x :: xs.drop (k + 1)) (y :: ys.drop (k + 1))) := by show _ = _; rw [HE.out, drop_cons hx, drop_cons hy]
      clear hx hy
      by_cases hru : x.rule = y.rule
      · have hd3 : (x.rule != y.rule) = false := by simp [hru]
        have HNL := Lib.hid (next_len_eq HAX.out HAY.out hru)
        have hnl := next_len HAX.out
        have HRU := Lib.hid hru
        clear hru
        go_wp2
        obtain ⟨wA, hwA⟩ : ∃ wA : World, wA = (wr.alloc (.cells #[.int .i64 x.rule, .slice D1 x.next.length p1] 103)).alloc (.cells #[.int .i64 y.rule, .slice D2 y.next.length p2] 103) := ⟨_, rfl⟩
        have hszA : wA.heap.size = wr.heap.size + 2 := by rw [hwA]; simp
        have hBA : Below wr.heap.size wr wA := by rw [hwA]; exact ((Below.refl _ _).alloc (Nat.le_refl _) _).alloc (by simp) _
        have a0 : wA.cell? ⟨wr.heap.size, 1, none⟩ = some (.slice D1 x.next.length p1) := by rw [hwA]; go_simp
        have a1 : wA.cell? ⟨wr.heap.size + 1, 1, none⟩ = some (.slice D2 y.next.length p2) := by rw [hwA]; go_simp
        have hszAl : wr.heap.size + 2 ≤ wA.heap.size := by omega
        obtain ⟨wo, rfl⟩ : ∃ wo : World, wo = wr := ⟨_, rfl⟩
        rw [← hwA]
        clear hwA hszA
        go_loopw [47] (fun i wr => ∃ j : Nat, j ≤ x.next.length ∧ i = .int .i64 j ∧ ((x.next.zip y.next).take j).any (hitP n t) = false ∧ Below wA.heap.size wA wr) (fun i _ => x.next.length - (intOf i).toNat)
        case atStart => exact ⟨0, Nat.zero_le _, rfl, rfl, Below.refl _ _⟩
        case round =>
          obtain ⟨j, hj, rfl, hany, hB3⟩ := hrel
          have HAN := Lib.hid hany
          have e0 := cell_chain hB3 (by omega) a0
          have e1 := cell_chain hB3 (by omega) a1
          have hsz3 := hB3.size
          have hBo : Below wo.heap.size wo wr := hBA.trans (hB3.mono (by omega))
          clear hany
          by_cases hjt : j < x.next.length
          · obtain ⟨xi, b3, o3, hxi, hb3, hix3, hc3⟩ := ints_at (c := p1) (hnx.below hBo (Nat.le_refl _)) Try.underlying22 szInt hjt
            obtain ⟨yi, b4, o4, hyi, hb4, hix4, hc4⟩ := ints_at (c := p2) (hny.below hBo (Nat.le_refl _)) Try.underlying22 szInt (k := j) (by rw [← HNL.out]; exact hjt)
            have HZ : Hid ((x.next.zip y.next)[j]? = some (xi, yi)) := by show _ = _; rw [List.getElem?_zip_eq_some]; exact ⟨hxi, hyi⟩
            have hxm := next_mem HAX.out (List.mem_of_getElem? hxi)
            have hym := next_mem HAY.out (List.mem_of_getElem? hyi)
            clear hxi hyi
            have hs0 : wo.heap.size < wr.heap.size := by omega
            have hs1 : wo.heap.size + 1 < wr.heap.size := by omega
            go_wp2
            refine draw (fun w' => Below wr.heap.size wr w') 13 rfl (by kernel_rfl) (fun Qd hQd => ?_)
            apply anyI_step 0 rfl (by kernel_rfl)
            focus (intro wI hI Kv hKv; have v0 := cell_chain hI hs0 e0; have v1 := cell_chain hI hs1 e1; have v2 := cell_chain hI hb3 hc3; have v3 := cell_chain hI hb4 hc4; go_simp; exact hKv)
            intro Kd hKd
            go_simp
            refine hKd _ ?_
            clear hKd Kd
            apply anyI_step 1 rfl (by kernel_rfl)
            focus (intro wI hI Kv hKv; have v0 := cell_chain hI hs0 e0; have v1 := cell_chain hI hs1 e1; have v2 := cell_chain hI hb3 hc3; have v3 := cell_chain hI hb4 hc4; go_simp; exact hKv)
            intro Kd hKd
            go_simp
            refine hKd _ ?_
            clear hKd Kd
            apply anyI_step 2 rfl (by kernel_rfl)
            focus (intro wI hI Kv hKv; have v0 := cell_chain hI hs0 e0; have v1 := cell_chain hI hs1 e1; have v2 := cell_chain hI hb3 hc3; have v3 := cell_chain hI hb4 hc4; go_simp; exact hKv)
            intro Kd hKd
            go_simp
            refine hKd _ ?_
            clear hKd Kd
            apply anyI_step 3 rfl (by kernel_rfl)
            focus (intro wI hI Kv hKv; have v0 := cell_chain hI hs0 e0; have v1 := cell_chain hI hs1 e1; have v2 := cell_chain hI hb3 hc3; have v3 := cell_chain hI hb4 hc4; go_simp; exact hKv)
            intro Kd hKd
            go_simp
            refine hKd _ ?_
            clear hKd Kd
            apply anyI_step 4 rfl (by kernel_rfl)
            focus (intro wI hI Kv hKv; have v0 := cell_chain hI hs0 e0; have v1 := cell_chain hI hs1 e1; have v2 := cell_chain hI hb3 hc3; have v3 := cell_chain hI hb4 hc4; go_simp; exact hKv)
            intro Kd hKd
            go_simp
            refine hKd _ ?_
            clear hKd Kd
            apply anyI_step 5 rfl (by kernel_rfl)
            focus (intro wI hI Kv hKv; have v0 := cell_chain hI hs0 e0; have v1 := cell_chain hI hs1 e1; have v2 := cell_chain hI hb3 hc3; have v3 := cell_chain hI hb4 hc4; go_simp; exact hKv)
            intro Kd hKd
            go_simp
            refine hKd _ ?_
            clear hKd Kd
            apply anyI_step 6 rfl (by kernel_rfl)
            focus (intro wI hI Kv hKv; have v0 := cell_chain hI hs0 e0; have v1 := cell_chain hI hs1 e1; have v2 := cell_chain hI hb3 hc3; have v3 := cell_chain hI hb4 hc4; go_simp; exact hKv)
            intro Kd hKd
            go_simp
            refine hKd _ ?_
            clear hKd Kd
            apply anyI_step 7 rfl (by kernel_rfl)
            focus (intro wI hI Kv hKv; have v0 := cell_chain hI hs0 e0; have v1 := cell_chain hI hs1 e1; have v2 := cell_chain hI hb3 hc3; have v3 := cell_chain hI hb4 hc4; go_simp; exact hKv)
            intro Kd hKd
            go_simp
            refine hKd _ ?_
            clear hKd Kd
            apply anyI_step 8 rfl (by kernel_rfl)
            focus (intro wI hI Kv hKv; have v0 := cell_chain hI hs0 e0; have v1 := cell_chain hI hs1 e1; have v2 := cell_chain hI hb3 hc3; have v3 := cell_chain hI hb4 hc4; go_simp; exact hKv)
            intro Kd hKd
            go_simp
            refine hKd _ ?_
            clear hKd Kd
            apply anyI_step 9 rfl (by kernel_rfl)
            focus (intro wI hI Kv hKv; have v0 := cell_chain hI hs0 e0; have v1 := cell_chain hI hs1 e1; have v2 := cell_chain hI hb3 hc3; have v3 := cell_chain hI hb4 hc4; go_simp; exact hKv)
            intro Kd hKd
            go_simp
            refine hKd _ ?_
            clear hKd Kd
            obtain ⟨mn, mx, HQ⟩ : ∃ mn mx, Hid (bothI xi yi = (mn, mx)) := ⟨_, _, rfl⟩
            have hq1 : min xi yi = mn := congrArg Prod.fst HQ.out
            have hq2 : max xi yi = mx := congrArg Prod.snd HQ.out
            have HRG : Hid (rng mn ∧ rng mx) := (by constructor <;> unfold rng <;> omega)
            have HQ1 := Lib.hid hq1
            have HQ2 := Lib.hid hq2
            clear hq1 hq2
            refine anyI_two' 10 11 rfl rfl (by kernel_rfl) ((Below.refl _ _).drew) (fun Kd hKd => ?_) (fun Kd hKd => ?_)
            · go_wp2_with (go_at_call 85; go_must (refine (both_any xi yi _).mono ?_); rintro e w5 ⟨rfl, hB5⟩; rw [HQ1.out, HQ2.out])
              have hB5' : Below wr.heap.size wr w5 := (Below.refl _ wr).drew.trans hB5
              have hs5 := hB5'.size
              refine anyI_one' 11 rfl (by kernel_rfl) (hB5') (fun Kd hKd => ?_)
              go_wp2
              refine anyI_one' 12 rfl (by kernel_rfl) ((hB5'.alloc hs5 _)) (fun Kd hKd => ?_)
              go_wp2
              refine anyI_end (by kernel_rfl) ((hB5'.alloc hs5 _)) (hQd _ _ ?_)
              clear hQd Qd
              have hbq := Blk.new w5 (.cells #[.int .i64 mn, .int .i64 mx] 126)
              have hB6 := hB5'.alloc hs5 (.cells #[.int .i64 mn, .int .i64 mx] 126)
              obtain ⟨w6, hw6⟩ : ∃ w6 : World, w6 = w5.alloc (.cells #[.int .i64 mn, .int .i64 mx] 126) := ⟨_, rfl⟩
              rw [← hw6] at hbq hB6 ⊢
              obtain ⟨bq, hbe⟩ : ∃ bq, bq = w5.heap.size := ⟨_, rfl⟩
              rw [← hbe] at hbq ⊢
              clear hbe hB5 hs5 hB5'
              clear hw6
              have hs6 := hB6.size
              have HTL := Lib.hid (tbl_look (p := mn) (q := mx) ((HT.out.frame (Frame.of_below hB) (by omega)).frame (Frame.of_below (hBo.trans (hB6.mono (by omega)))) (by omega)) HRG.out.1 HRG.out.2)
              have n0 := hbq.cell 0 (v := .int .i64 mn) rfl
              have n1 := hbq.cell 1 (v := .int .i64 mx) rfl
              have hBA6 : Below wA.heap.size wA w6 := hB3.trans (hB6.mono (by omega))
              have HB6 := Lib.hid hB6
              clear e0 e1 hc3 hc4 hix3 hix4 hB6
              by_cases heq : mn = mx
              · have HH : Hid (hitP n t (xi, yi) = false) := by show _ = _; unfold hitP; simp [HQ.out, heq]
                subst heq
                clear HTL
                have hqq := eq126' mn mn true (by simp)
                go_wp2
                go_roundw
                case rel => exact ⟨j + 1, by omega, by go_num, any_drop HAN.out HZ.out HH.out, hBA6⟩
                case measure => simp [intOf]; omega
              · have hne1 : (mn == mx) = false := by simp [heq]
                have HTL2 := HTL.out
                have hqq := eq126' mn mx false (by simp; omega)
                clear hne1
                cases hget : tget t (mn, mx) with
                | none =>
                  have HH : Hid (hitP n t (xi, yi) = false) := by show _ = _; unfold hitP; simp [HQ.out, hget]
                  rw [hget] at HTL2
                  simp only [Option.getD_none, Option.isSome_none] at HTL2
                  clear hget
                  go_wp2
                  go_roundw
                  case rel => exact ⟨j + 1, by omega, by go_num, any_drop HAN.out HZ.out HH.out, hBA6⟩
                  case measure => simp [intOf]; omega
                | some v =>
                  rw [hget] at HTL2
                  simp only [Option.getD_some, Option.isSome_some] at HTL2
                  by_cases hv : v = n - 1
                  · have HH : Hid (hitP n t (xi, yi) = true) := by show _ = _; unfold hitP; simp [HQ.out, hget, heq, hv]
                    have hdv : (v == n - 1) = true := by simp [hv]
                    clear hget hv
                    go_wp2
                    go_ret
                    refine ⟨?_, (((HB2.out.trans (hB.mono (by omega))).trans (hBA.mono (by omega)))).trans (hBA6.mono (by omega))⟩
                    rw [HD.out, toldL, if_pos HRU.out, if_pos (any_yes HZ.out HH.out)]
                    rfl
                  · have HH : Hid (hitP n t (xi, yi) = false) := by show _ = _; unfold hitP; simp [HQ.out, hget, hv]
                    have hdv : (v == n - 1) = false := by simp [hv]
                    clear hget hv
                    go_wp2
                    go_roundw
                    case rel => exact ⟨j + 1, by omega, by go_num, any_drop HAN.out HZ.out HH.out, hBA6⟩
                    case measure => simp [intOf]; omega
            · go_wp2
              refine anyI_one' 10 rfl (by kernel_rfl) (((Below.refl _ _).alloc (Nat.le_refl _) _).drew) (fun Kd hKd => ?_)
              go_wp2_with (go_at_call 85; go_must (refine (both_any xi yi _).mono ?_); rintro e w5 ⟨rfl, hB5⟩; rw [HQ1.out, HQ2.out])
              have hb5 : Blk w5 wr.heap.size (.cells #[.int .i64 0, .int .i64 0] 126) := Blk.below (w := (wr.alloc (.cells #[.int .i64 0, .int .i64 0] 126)).drew) (Blk.new wr _) hB5 (by simp [World.drew])
              have hB5' : Below wr.heap.size wr w5 := ((Below.refl _ wr).alloc (Nat.le_refl _) (.cells #[.int .i64 0, .int .i64 0] 126)).drew.trans (hB5.mono (by simp [World.drew]))
              have f0 := hb5.free 0
              have f1 := (hb5.set 0 (.int .i64 mn)).free 1
              have d0 := hb5.cell 0 (v := .int .i64 0) rfl
              have d1 := (hb5.set 0 (.int .i64 mn)).cell 1 (v := .int .i64 0) rfl
              refine anyI_one' 12 rfl (by kernel_rfl) (hB5') (fun Kd hKd => ?_)
              go_wp2
              have hbq : Blk ((w5.setCell ⟨wr.heap.size, 0, none⟩ (.int .i64 mn)).setCell ⟨wr.heap.size, 1, none⟩ (.int .i64 mx)) wr.heap.size (.cells #[.int .i64 mn, .int .i64 mx] 126) := (hb5.set 0 (.int .i64 mn)).set 1 (.int .i64 mx)
              have hs5 := hB5'.size
              have hB6 : Below wr.heap.size wr ((w5.setCell ⟨wr.heap.size, 0, none⟩ (.int .i64 mn)).setCell ⟨wr.heap.size, 1, none⟩ (.int .i64 mx)) := hB5'.trans ((((Frame.refl (fun b => b = wr.heap.size) w5).setCell (p := ⟨wr.heap.size, 0, none⟩) (.inl rfl) (.int .i64 mn)).setCell (p := ⟨wr.heap.size, 1, none⟩) (.inl rfl) (.int .i64 mx)).below (fun b e => by omega) hs5)
              refine anyI_end (by kernel_rfl) (hB6) (hQd _ _ ?_)
              clear hQd Qd
              obtain ⟨w6, hw6⟩ : ∃ w6 : World, w6 = (w5.setCell ⟨wr.heap.size, 0, none⟩ (.int .i64 mn)).setCell ⟨wr.heap.size, 1, none⟩ (.int .i64 mx) := ⟨_, rfl⟩
              rw [← hw6] at hbq hB6 ⊢
              obtain ⟨bq, hbe⟩ : ∃ bq, bq = wr.heap.size := ⟨_, rfl⟩
              rw [← hbe] at hbq
              have hbq0 : Blk w6 wr.heap.size (.cells #[.int .i64 mn, .int .i64 mx] 126) := by rw [← hbe]; exact hbq
              clear hbq hbe hb5 f0 f1 d0 d1 hB5 hs5 hB5' bq
              obtain ⟨bq, hbe⟩ : ∃ bq, bq = wr.heap.size := ⟨_, rfl⟩
              have hbq : Blk w6 wr.heap.size (.cells #[.int .i64 mn, .int .i64 mx] 126) := hbq0
              clear hbq0 hbe bq
              clear hw6
              have hs6 := hB6.size
              have HTL := Lib.hid (tbl_look (p := mn) (q := mx) ((HT.out.frame (Frame.of_below hB) (by omega)).frame (Frame.of_below (hBo.trans (hB6.mono (by omega)))) (by omega)) HRG.out.1 HRG.out.2)
              have n0 := hbq.cell 0 (v := .int .i64 mn) rfl
              have n1 := hbq.cell 1 (v := .int .i64 mx) rfl
              have hBA6 : Below wA.heap.size wA w6 := hB3.trans (hB6.mono (by omega))
              have HB6 := Lib.hid hB6
              clear e0 e1 hc3 hc4 hix3 hix4 hB6
              by_cases heq : mn = mx
              · have HH : Hid (hitP n t (xi, yi) = false) := by show _ = _; unfold hitP; simp [HQ.out, heq]
                subst heq
                clear HTL
                have hqq := eq126' mn mn true (by simp)
                go_wp2
                go_roundw
                case rel => exact ⟨j + 1, by omega, by go_num, any_drop HAN.out HZ.out HH.out, hBA6⟩
                case measure => simp [intOf]; omega
              · have hne1 : (mn == mx) = false := by simp [heq]
                have HTL2 := HTL.out
                have hqq := eq126' mn mx false (by simp; omega)
                clear hne1
                cases hget : tget t (mn, mx) with
                | none =>
                  have HH : Hid (hitP n t (xi, yi) = false) := by show _ = _; unfold hitP; simp [HQ.out, hget]
                  rw [hget] at HTL2
                  simp only [Option.getD_none, Option.isSome_none] at HTL2
                  clear hget
                  go_wp2
                  go_roundw
                  case rel => exact ⟨j + 1, by omega, by go_num, any_drop HAN.out HZ.out HH.out, hBA6⟩
                  case measure => simp [intOf]; omega
                | some v =>
                  rw [hget] at HTL2
                  simp only [Option.getD_some, Option.isSome_some] at HTL2
                  by_cases hv : v = n - 1
                  · have HH : Hid (hitP n t (xi, yi) = true) := by show _ = _; unfold hitP; simp [HQ.out, hget, heq, hv]
                    have hdv : (v == n - 1) = true := by simp [hv]
                    clear hget hv
                    go_wp2
                    go_ret
                    refine ⟨?_, (((HB2.out.trans (hB.mono (by omega))).trans (hBA.mono (by omega)))).trans (hBA6.mono (by omega))⟩
                    rw [HD.out, toldL, if_pos HRU.out, if_pos (any_yes HZ.out HH.out)]
                    rfl
                  · have HH : Hid (hitP n t (xi, yi) = false) := by show _ = _; unfold hitP; simp [HQ.out, hget, hv]
                    have hdv : (v == n - 1) = false := by simp [hv]
                    clear hget hv
                    go_wp2
                    go_roundw
                    case rel => exact ⟨j + 1, by omega, by go_num, any_drop HAN.out HZ.out HH.out, hBA6⟩
                    case measure => simp [intOf]; omega
          · obtain rfl : j = x.next.length := by omega
            have HNO : Hid ((x.next.zip y.next).any (hitP n t) = false) := by
              have e := HAN.out
              rw [List.take_of_length_le (by rw [List.length_zip]; omega)] at e
              exact e
            go_wp2
            go_roundw
            case rel =>
              refine ⟨k + 1, by omega, by go_num, ?_, hB.trans ((hBA.mono (by omega)).trans (hB3.mono (by omega)))⟩
              rw [HD.out, toldL, if_pos HRU.out, HNO.out]
              rfl
            case measure => simp [intOf]; omega
      · have hd3 : (x.rule != y.rule) = true := by simpa using hru
        have HRU := Lib.hid hru
        clear hru
        go_wp2
        go_ret
        refine ⟨?_, ((HB2.out.trans (hB.mono (by omega))).alloc (by omega) _).alloc (by simp <;> omega) _⟩
        rw [HD.out, toldL, if_neg HRU.out]
        rfl
    · obtain rfl : k = xs.length := by omega
      go_wp2
      go_ret
      refine ⟨?_, HB2.out.trans (hB.mono (by omega))⟩
      rw [HE.out, List.drop_length]
      simp [toldL]
end Go.Proofs.Ytlnonadkdonhmaa

/- What rounds makes, in plain words. -/
namespace Go.Proofs.Ytlnonadkdonhmaa
open Go.RowKit Go.Maps

/-- Whether a pair is found in this round. -/
def newP (m : Mach) (t : Tbl) (n : Int) (b a : Nat) : Bool := (tget t ((a : Int), (b : Int))).isNone && toldI m a b n t
def rowF (m : Mach) (t : Tbl) (n : Int) (b k : Nat) : List (Int × Int) := ((List.range k).filter (newP m t n b)).map fun (a : Nat) => ((a : Int), (b : Int))
def foundTo (m : Mach) (t : Tbl) (n : Int) (k : Nat) : List (Int × Int) := (List.range k).flatMap fun b => rowF m t n b b
def roundsGo (m : Mach) : Nat → Int → Tbl → Tbl
  | 0, _, t => t
  | f + 1, n, t => match foundTo m t n m.length with
    | [] => t
    | p :: ps => roundsGo m f (n + 1) (t ++ (p :: ps).map fun q => (q, n))
def roundsA (m : Mach) : Tbl := roundsGo m 4200 1 []

theorem rowF_hit {m : Mach} {t : Tbl} {n : Int} {b k : Nat} (h : newP m t n b k = true) : rowF m t n b (k + 1) = rowF m t n b k ++ [((k : Int), (b : Int))] := by
  simp [rowF, List.range_succ, List.filter_append, h]
theorem rowF_miss {m : Mach} {t : Tbl} {n : Int} {b k : Nat} (h : newP m t n b k = false) : rowF m t n b (k + 1) = rowF m t n b k := by
  simp [rowF, List.range_succ, List.filter_append, h]
theorem foundTo_succ (m : Mach) (t : Tbl) (n : Int) (k : Nat) : foundTo m t n (k + 1) = foundTo m t n k ++ rowF m t n k k := by
  simp [foundTo, List.range_succ, List.flatMap_append]

theorem rowF_mem {m : Mach} {t : Tbl} {n : Int} {b k : Nat} {p : Int × Int} (h : p ∈ rowF m t n b k) : ∃ a : Nat, p = ((a : Int), (b : Int)) ∧ a < k ∧ tget t p = none := by
  simp only [rowF, List.mem_map, List.mem_filter, List.mem_range] at h
  obtain ⟨a, ⟨h1, h2⟩, rfl⟩ := h
  simp only [newP, Bool.and_eq_true, Option.isNone_iff_eq_none] at h2
  exact ⟨a, rfl, h1, h2.1⟩
theorem foundTo_mem {m : Mach} {t : Tbl} {n : Int} {k : Nat} {p : Int × Int} (h : p ∈ foundTo m t n k) : ∃ a b : Nat, p = ((a : Int), (b : Int)) ∧ a < b ∧ b < k ∧ tget t p = none := by
  simp only [foundTo, List.mem_flatMap, List.mem_range] at h
  obtain ⟨b, hb, h⟩ := h
  obtain ⟨a, h1, h2, h3⟩ := rowF_mem h
  exact ⟨a, b, h1, h2, hb, h3⟩
theorem rowF_nodup (m : Mach) (t : Tbl) (n : Int) (b : Nat) : ∀ k, (rowF m t n b k).Nodup
  | 0 => by simp [rowF]
  | k + 1 => by
    cases h : newP m t n b k with
    | false => rw [rowF_miss h]; exact rowF_nodup m t n b k
    | true =>
      rw [rowF_hit h, List.nodup_append]
      refine ⟨rowF_nodup m t n b k, by simp, ?_⟩
      intro x hx y hy
      simp at hy
      subst hy
      obtain ⟨a, rfl, ha, _⟩ := rowF_mem hx
      intro e
      injection e with e1
      omega
theorem foundTo_nodup (m : Mach) (t : Tbl) (n : Int) : ∀ k, (foundTo m t n k).Nodup
  | 0 => by simp [foundTo]
  | k + 1 => by
    rw [foundTo_succ, List.nodup_append]
    refine ⟨foundTo_nodup m t n k, rowF_nodup _ _ _ _ _, ?_⟩
    intro x hx y hy e
    obtain ⟨a, b, rfl, _, hb, _⟩ := foundTo_mem hx
    obtain ⟨c, rfl, _, _⟩ := rowF_mem hy
    injection e with _ e2
    omega

theorem fst_map (ps : List (Int × Int)) (n : Int) : (ps.map fun q => (q, n)).map (·.1) = ps := by
  induction ps with
  | nil => rfl
  | cons p r ih => rw [List.map_cons, List.map_cons, ih]
theorem nodup_at {α : Type} {l : List α} (h : l.Nodup) {i j : Nat} {x : α} (hi : l[i]? = some x) (hj : l[j]? = some x) : i = j := by
  obtain ⟨h1, e1⟩ := List.getElem?_eq_some_iff.1 hi
  obtain ⟨h2, e2⟩ := List.getElem?_eq_some_iff.1 hj
  have hp := List.pairwise_iff_getElem.1 h
  rcases Nat.lt_trichotomy i j with hlt | he | hlt
  · exact absurd (e1.trans e2.symm) (hp i j h1 h2 hlt)
  · exact he
  · exact absurd (e2.trans e1.symm) (hp j i h2 h1 hlt)

/-- A table of pairs of states, each once. -/
structure TblOk (len : Nat) (t : Tbl) : Prop where
  nodup : (t.map (·.1)).Nodup
  all : ∀ p ∈ t, ∃ a b : Nat, p.1 = ((a : Int), (b : Int)) ∧ a < b ∧ b < len

theorem TblOk.nil (len : Nat) : TblOk len [] := ⟨by simp, by simp⟩
theorem nodup_map {α β : Type} {f : α → β} : ∀ {l : List α}, l.Nodup → (∀ x ∈ l, ∀ y ∈ l, f x = f y → x = y) → (l.map f).Nodup
  | [], _, _ => by simp
  | x :: r, h, hf => by
    rw [List.nodup_cons] at h
    rw [List.map_cons, List.nodup_cons]
    refine ⟨fun hm => ?_, nodup_map h.2 (fun a ha b hb => hf a (by simp [ha]) b (by simp [hb]))⟩
    obtain ⟨y, hy, e⟩ := List.mem_map.1 hm
    have := hf y (by simp [hy]) x (by simp) e
    subst this
    exact h.1 hy
theorem TblOk.len {len : Nat} {t : Tbl} (h : TblOk len t) (hl : len ≤ 64) : t.length ≤ 4096 := by
  have hk : ∀ p ∈ t.map (·.1), ∃ a b : Nat, p = ((a : Int), (b : Int)) ∧ a < b ∧ b < len := by
    intro p hp
    obtain ⟨q, hq, rfl⟩ := List.mem_map.1 hp
    exact h.all q hq
  have e := nodup_below 4096 ((t.map (·.1)).map fun p => p.1 + 64 * p.2) (nodup_map h.nodup (fun x hx y hy e => by
      obtain ⟨a, b, rfl, h1, h2⟩ := hk x hx
      obtain ⟨c, d, rfl, h3, h4⟩ := hk y hy
      simp only at e
      have e1 : a = c := by omega
      have e2 : b = d := by omega
      rw [e1, e2])) (fun x hx => by
      obtain ⟨p, hp, rfl⟩ := List.mem_map.1 hx
      obtain ⟨a, b, rfl, h1, h2⟩ := hk p hp
      simp only
      omega)
  simpa using e
theorem tget_none {t : Tbl} {p : Int × Int} : tget t p = none ↔ p ∉ t.map (·.1) := by
  unfold tget
  rw [Option.map_eq_none_iff, List.find?_eq_none]
  constructor
  · intro h hm
    obtain ⟨q, hq, rfl⟩ := List.mem_map.1 hm
    exact h q hq (by simp)
  · intro h q hq he
    have : q.1 = p := by simpa using he
    exact h (List.mem_map.2 ⟨q, hq, this⟩)
theorem TblOk.add {m : Mach} {t : Tbl} {n : Int} (h : TblOk m.length t) {ps : List (Int × Int)} (hp : ps <+: foundTo m t n m.length) : TblOk m.length (t ++ ps.map fun q => (q, n)) := by
  have hnd : ps.Nodup := (foundTo_nodup m t n m.length).sublist hp.sublist
  have hm : ∀ p ∈ ps, ∃ a b : Nat, p = ((a : Int), (b : Int)) ∧ a < b ∧ b < m.length ∧ tget t p = none := fun p hp' => foundTo_mem (hp.subset hp')
  refine ⟨?_, fun p hp' => ?_⟩
  · rw [List.map_append, List.nodup_append]
    rw [fst_map]
    refine ⟨h.nodup, hnd, ?_⟩
    intro x hx y hy e
    subst e
    have hy' : x ∈ ps := hy
    obtain ⟨a, b, _, _, _, h5⟩ := hm x hy'
    exact tget_none.1 h5 hx
  · rcases List.mem_append.1 hp' with hp' | hp'
    · exact h.all p hp'
    · obtain ⟨q, hq, rfl⟩ := List.mem_map.1 hp'
      obtain ⟨a, b, h1, h2, h3, _⟩ := hm q hq
      exact ⟨a, b, h1, h2, h3⟩
theorem fresh_next {m : Mach} {t : Tbl} {n : Int} {k : Nat} {p : Int × Int} (hx : (foundTo m t n m.length)[k]? = some p) : tget (t ++ ((foundTo m t n m.length).take k).map fun q => (q, n)) p = none := by
  rw [tget_none, List.map_append, List.mem_append, not_or]
  obtain ⟨a, b, _, _, _, h5⟩ := foundTo_mem (List.mem_of_getElem? hx)
  refine ⟨tget_none.1 h5, fun hm => ?_⟩
  have hm' : p ∈ (foundTo m t n m.length).take k := by rw [fst_map] at hm; exact hm
  have hnd := foundTo_nodup m t n m.length
  generalize foundTo m t n m.length = l at hx hm' hnd
  obtain ⟨i, hi⟩ := List.getElem?_of_mem hm'
  rw [List.getElem?_take] at hi
  split at hi
  · rename_i hik
    have := nodup_at hnd hi hx
    omega
  · cases hi
end Go.Proofs.Ytlnonadkdonhmaa

/- Contract: rounds. -/
namespace Go.Proofs.Ytlnonadkdonhmaa
open Go.RowKit Go.Maps

def prCells (p : Int × Int) : List Value := [.int .i64 p.1, .int .i64 p.2]
theorem prCells_len (p : Int × Int) : (prCells p).length = 2 := rfl
def prs (l : List (Int × Int)) : List Value := l.flatMap prCells
theorem prs_snoc (l : List (Int × Int)) (p : Int × Int) : prs (l ++ [p]) = prs l ++ [.int .i64 p.1, .int .i64 p.2] := by simp [prs, prCells]
theorem rPr : ElemRow Try.prog 165 126 2 16 := ElemRow.mk' (z := .agg #[.int .i64 0, .int .i64 0]) Try.underlying165 (by kernel_rfl) rfl (by decide) (by decide)

theorem foundTo_len (m : Mach) (t : Tbl) (n : Int) (h : m.length ≤ 64) {k : Nat} (hk : k ≤ m.length) : (foundTo m t n k).length ≤ 4096 := by
  have e := nodup_below 4096 ((foundTo m t n k).map fun p => p.1 + 64 * p.2) (nodup_map (foundTo_nodup m t n k) (fun x hx y hy e => by
      obtain ⟨a, b, rfl, h1, h2, _⟩ := foundTo_mem hx
      obtain ⟨c, d, rfl, h3, h4, _⟩ := foundTo_mem hy
      simp only at e
      have e1 : a = c := by omega
      have e2 : b = d := by omega
      rw [e1, e2])) (fun x hx => by
      obtain ⟨p, hp, rfl⟩ := List.mem_map.1 hx
      obtain ⟨a, b, rfl, h1, h2, _⟩ := foundTo_mem hp
      simp only
      omega)
  simpa using e
theorem rowF_len (m : Mach) (t : Tbl) (n : Int) (b k : Nat) : (rowF m t n b k).length ≤ k := by
  have := List.length_filter_le (newP m t n b) (List.range k)
  simpa [rowF] using this

set_option maxRecDepth 100000 in
set_option maxHeartbeats 8000000 in
theorem rounds_any (n0 : Int) (rs : List Int) (B : Option Addr) (d : Nat) (m : Mach) (w : World) (hM : MachAt w B m) (hf : formedA n0 rs m = true) :
    Calls Try.prog 84 #[.agg #[.slice B m.length d]] w fun e w' => ∃ bt, e = .returned (.map (some bt)) ∧ TblAt w' bt (roundsA m) ∧ w.heap.size ≤ bt ∧ Below w.heap.size w w' := by
  have hml : m.length ≤ 64 := by
    simp only [formedA, Bool.and_eq_true, decide_eq_true_eq] at hf
    exact hf.1.2
  have HF := Lib.hid hf
  have hmm := @run_makeMap Try.prog
  obtain ⟨W1, hW1⟩ : ∃ W1 : World, W1 = w.alloc (.cells #[.slice B m.length d] 27) := ⟨_, rfl⟩
  have hs1 : W1.heap.size = w.heap.size + 1 := by rw [hW1]; simp
  have hBw : Below w.heap.size w W1 := by rw [hW1]; exact (Below.refl _ _).alloc (Nat.le_refl _) _
  have g0 : W1.cell? ⟨w.heap.size, 0, none⟩ = some (.slice B m.length d) := by rw [hW1]; go_simp
  have HM1 := Lib.hid (hM.below hBw (Nat.le_refl _))
  have HT1 : Hid (TblAt (W1.alloc (.map #[] 0)) W1.heap.size []) := MapIs.new Try.prog 126 W1
  have HB1 : Hid (Below (w.heap.size + 1) W1 (W1.alloc (.map #[] 0))) := (Below.refl _ _).alloc (by omega) _
  have hs1a : w.heap.size + 1 ≤ W1.heap.size := by omega
  have hs1b : W1.heap.size ≤ w.heap.size + 1 := by omega
  clear hf
  go_enter Try.func84, Try.ntmps84
  go_wp2
  rw [show w.heap.size + 1 = W1.heap.size by omega, ← hW1]
  clear hs1 hW1
  go_loopw [4] (fun nv wr => ∃ (k : Nat) (t : Tbl), nv = .int .i64 ((k : Int) + 1) ∧ k ≤ t.length ∧ TblOk m.length t ∧ roundsA m = roundsGo m (4200 - k) ((k : Int) + 1) t ∧ TblAt wr W1.heap.size t ∧ Below (w.heap.size + 1) W1 wr) (fun nv _ => 4300 - (intOf nv).toNat)
  case atStart => exact ⟨0, [], rfl, Nat.le_refl _, TblOk.nil _, rfl, HT1.out, HB1.out⟩
  case round =>
    obtain ⟨k, t, rfl, hkt, htok, hgo, htbl, hB⟩ := hrel
    have htl := htok.len hml
    have HGO := Lib.hid hgo
    have HOK := Lib.hid htok
    have HTB := Lib.hid htbl
    obtain ⟨N, HN⟩ : ∃ N : Int, Hid (N = (k : Int) + 1) := ⟨_, rfl⟩
    have hN1 : 1 ≤ N := by rw [HN.out]; omega
    have hN2 : N ≤ 5000 := by rw [HN.out]; omega
    rw [← HN.out]
    have hszr := hB.size
    have hz0 : w.heap.size < wr.heap.size := by omega
    have y0 := cell_chain hB (by omega) g0
    clear hgo htok htbl
    go_wp2
    obtain ⟨wo, rfl⟩ : ∃ wo : World, wo = wr := ⟨_, rfl⟩
    go_loopw [5, 19] (fun v i wr => ∃ b : Nat, i = .int .i64 b ∧ b ≤ m.length ∧ wr.ownsRow (w.heap.size + 1) 126 2 v (foundTo m t N b).length (prs (foundTo m t N b)) ∧ TblAt wr W1.heap.size t ∧ Below (w.heap.size + 1) W1 wr) (fun _ i _ => m.length - (intOf i).toNat)
    case atStart => exact ⟨0, rfl, Nat.zero_le _, World.ownsRow_nil _ _ _ _, HTB.out, hB⟩
    case round =>
      obtain ⟨b, rfl, hb, hown, htbl, hB2⟩ := hrel
      have HT2 := Lib.hid htbl
      clear htbl
      by_cases hbt : b < m.length
      · obtain ⟨fb, HFB⟩ : ∃ fb, Hid (foundTo m t N b = fb) := ⟨_, rfl⟩
        have hfl := foundTo_len m t N hml hb
        rw [HFB.out] at hown hfl
        go_wp2
        obtain ⟨wo2, rfl⟩ : ∃ wo2 : World, wo2 = wr := ⟨_, rfl⟩
        go_loopw [5, 23] (fun v i wr => ∃ a : Nat, i = .int .i64 a ∧ a ≤ b ∧ wr.ownsRow (w.heap.size + 1) 126 2 v (fb ++ rowF m t N b a).length (prs (fb ++ rowF m t N b a)) ∧ TblAt wr W1.heap.size t ∧ Below (w.heap.size + 1) W1 wr) (fun _ i _ => b - (intOf i).toNat)
        case atStart => exact ⟨0, rfl, Nat.zero_le _, by simpa [rowF] using hown, HT2.out, hB2⟩
        case round =>
          obtain ⟨a, rfl, ha, hown3, htbl, hB3⟩ := hrel
          have HT3 := Lib.hid htbl
          have hszr3 := hB3.size
          have hz3 : w.heap.size < wr.heap.size := by omega
          have y3 := cell_chain hB3 (by omega) g0
          have hrl := rowF_len m t N b a
          obtain ⟨fa, HFA⟩ : ∃ fa, Hid (fb ++ rowF m t N b a = fa) := ⟨_, rfl⟩
          have hfal : fa.length ≤ 5000 := by rw [← HFA.out, List.length_append]; omega
          rw [HFA.out] at hown3
          clear htbl
          by_cases hat : a < b
          · have hmin : min (a : Int) b = a := by omega
            have hmax : max (a : Int) b = b := by omega
            have HMI := Lib.hid hmin
            have HMA := Lib.hid hmax
            clear hmin hmax
            cases hget : tget t ((a : Int), (b : Int)) with
            | some v =>
              have HNP : Hid (newP m t N b a = false) := by show _ = _; simp [newP, hget]
              go_wp2_with (go_at_call 85; go_must (refine (both_any a b _).mono ?_); rintro e w5 ⟨rfl, hB5⟩; rw [HMI.out, HMA.out]; have HT5 : Hid (TblAt (w5.alloc (.cells #[.int .i64 (a : Int), .int .i64 (b : Int)] 126)) W1.heap.size t) := (HT3.out.frame (Frame.of_all (S := fun _ => False) hB5) (fun h => h)).alloc _; have hlk := tbl_look (p := a) (q := b) HT5.out (by unfold rng; omega) (by unfold rng; omega); rw [hget] at hlk; simp only [Option.getD_some, Option.isSome_some] at hlk; have hsz5 := hB5.size; have y5 := cell_chain hB5 hz3 y3; have hz5 : w.heap.size < w5.heap.size := (by omega); have HB5 : Hid (Below (w.heap.size + 1) W1 (w5.alloc (.cells #[.int .i64 (a : Int), .int .i64 (b : Int)] 126))) := (hB3.trans (hB5.mono (by omega))).alloc (by omega) _; have HO5 := Lib.hid ((own_frame hown3 (Frame.of_all (S := fun _ => False) hB5) (fun _ _ h => h)).alloc (.cells #[.int .i64 (a : Int), .int .i64 (b : Int)] 126)))
              go_roundw
              case rel => exact ⟨a + 1, by go_num, by omega, by rw [rowF_miss HNP.out, HFA.out]; exact HO5.out, HT5.out, HB5.out⟩
              case measure => simp [intOf]; omega
            | none =>
              obtain ⟨tb, HTO⟩ : ∃ tb, Hid (toldI m a b N t = tb) := ⟨_, rfl⟩
              have HNP : Hid (newP m t N b a = tb) := by show _ = _; unfold newP; rw [hget, HTO.out]; rfl
              cases tb with
              | false =>
                go_wp2_with (first
                  | (go_at_call 85; go_must (refine (both_any a b _).mono ?_); rintro e w5 ⟨rfl, hB5⟩; rw [HMI.out, HMA.out]; have HT5 : Hid (TblAt (w5.alloc (.cells #[.int .i64 (a : Int), .int .i64 (b : Int)] 126)) W1.heap.size t) := (HT3.out.frame (Frame.of_all (S := fun _ => False) hB5) (fun h => h)).alloc _; have hlk := tbl_look (p := a) (q := b) HT5.out (by unfold rng; omega) (by unfold rng; omega); rw [hget] at hlk; simp only [Option.getD_none, Option.isSome_none] at hlk; have hsz5 := hB5.size; have y5 := cell_chain hB5 hz3 y3; have hz5 : w.heap.size < w5.heap.size := (by omega); have HB5 : Hid (Below (w.heap.size + 1) W1 (w5.alloc (.cells #[.int .i64 (a : Int), .int .i64 (b : Int)] 126))) := (hB3.trans (hB5.mono (by omega))).alloc (by omega) _; have HO5 := Lib.hid ((own_frame hown3 (Frame.of_all (S := fun _ => False) hB5) (fun _ _ h => h)).alloc (.cells #[.int .i64 (a : Int), .int .i64 (b : Int)] 126)))
                  | (go_at_call 117; go_must (refine (told_any n0 rs B d m a b N W1.heap.size t _ (HM1.out.below (HB5.out.mono (B' := w.heap.size + 1) (Nat.le_refl _)) (by omega)) HF.out (by omega) hbt hN1 (by omega) HT5.out hml).mono ?_); rintro e w6 ⟨rfl, hB6⟩; rw [HTO.out]; have HT6 := Lib.hid (HT5.out.frame (Frame.of_all (S := fun _ => False) hB6) (fun h => h)); have HO6 := Lib.hid (own_frame HO5.out (Frame.of_all (S := fun _ => False) hB6) (fun _ _ h => h)); have HB6 := Lib.hid (HB5.out.trans (hB6.mono (by simp <;> omega)))))
                go_roundw
                case rel => exact ⟨a + 1, by go_num, by omega, by rw [rowF_miss HNP.out, HFA.out]; exact HO6.out, HT6.out, HB6.out⟩
                case measure => simp [intOf]; omega
              | true =>
                go_wp2_with (first
                  | (go_at_call 85; go_must (refine (both_any a b _).mono ?_); rintro e w5 ⟨rfl, hB5⟩; rw [HMI.out, HMA.out]; have HT5 : Hid (TblAt (w5.alloc (.cells #[.int .i64 (a : Int), .int .i64 (b : Int)] 126)) W1.heap.size t) := (HT3.out.frame (Frame.of_all (S := fun _ => False) hB5) (fun h => h)).alloc _; have hlk := tbl_look (p := a) (q := b) HT5.out (by unfold rng; omega) (by unfold rng; omega); rw [hget] at hlk; simp only [Option.getD_none, Option.isSome_none] at hlk; have hsz5 := hB5.size; have y5 := cell_chain hB5 hz3 y3; have hz5 : w.heap.size < w5.heap.size := (by omega); have HB5 : Hid (Below (w.heap.size + 1) W1 (w5.alloc (.cells #[.int .i64 (a : Int), .int .i64 (b : Int)] 126))) := (hB3.trans (hB5.mono (by omega))).alloc (by omega) _; have HO5 := Lib.hid ((own_frame hown3 (Frame.of_all (S := fun _ => False) hB5) (fun _ _ h => h)).alloc (.cells #[.int .i64 (a : Int), .int .i64 (b : Int)] 126)))
                  | (go_at_call 117; go_must (refine (told_any n0 rs B d m a b N W1.heap.size t _ (HM1.out.below (HB5.out.mono (B' := w.heap.size + 1) (Nat.le_refl _)) (by omega)) HF.out (by omega) hbt hN1 (by omega) HT5.out hml).mono ?_); rintro e w6 ⟨rfl, hB6⟩; rw [HTO.out]; have HT6 := Lib.hid (HT5.out.frame (Frame.of_all (S := fun _ => False) hB6) (fun h => h)); have hown6 := own_frame HO5.out (Frame.of_all (S := fun _ => False) hB6) (fun _ _ h => h); have HB6 := Lib.hid (HB5.out.trans (hB6.mono (by simp <;> omega))); have q0 := cell_chain (b := w5.heap.size) (i := 0) (v := .int .i64 (a : Int)) hB6 (by simp) (by go_simp); have q1 := cell_chain (b := w5.heap.size) (i := 1) (v := .int .i64 (b : Int)) hB6 (by simp) (by go_simp); have hsz6 := hB6.size; simp only [World.size_alloc] at hsz6; clear hlk)
                  | (at_builtin; go_must (refine wpList_app1' rPr _ rfl _ _ rfl hown6 rfl [_, _] 1 rfl rfl (by simp [Value.oneCell']) (by omega) (by omega) ?_); intro v7 w7 hown7 hB7 hg7 hloc7))
                go_roundw
                case rel =>
                  refine ⟨a + 1, by go_num, by omega, ?_, HT6.out.frame (Frame.of_grown hg7) (fun e => HT6.out.not_own hown6 e), HB6.out.trans hB7⟩
                  rw [rowF_hit HNP.out, ← List.append_assoc, HFA.out, prs_snoc]
                  simpa using hown7
                case measure => simp [intOf]; omega
          · obtain rfl : a = b := by omega
            go_wp2
            go_roundw
            case rel => exact ⟨a + 1, by go_num, by omega, by rw [foundTo_succ, HFB.out, HFA.out]; exact hown3, HT3.out, hB3⟩
            case measure => simp [intOf]; omega
      · obtain rfl : b = m.length := by omega
        obtain ⟨fd, HFD⟩ : ∃ fd, Hid (foundTo m t N m.length = fd) := ⟨_, rfl⟩
        have hfl := foundTo_len m t N hml hb
        rw [HFD.out] at hown hfl
        obtain ⟨A5, c5, rfl⟩ := own_fits hown
        cases fd with
        | nil =>
          have hgo1 : Hid (roundsA m = t) := by
            show _ = _
            rw [HGO.out, show 4200 - k = (4199 - k) + 1 by omega, roundsGo, ← HN.out, HFD.out]
          go_wp2
          go_ret
          exact ⟨W1.heap.size, rfl, by rw [hgo1.out]; exact HT2.out, by omega, hBw.trans (hB2.mono (by omega))⟩
        | cons p0 ps =>
          have hgo1 : Hid (roundsA m = roundsGo m (4200 - (k + 1)) (N + 1) (t ++ (p0 :: ps).map fun q => (q, N))) := by
            show _ = _
            rw [HGO.out, show 4200 - k = (4200 - (k + 1)) + 1 by omega, roundsGo, ← HN.out, HFD.out]
          have hd0 : (((p0 :: ps).length : Int) == 0) = false := by simp <;> omega
          have hpl : 1 ≤ (p0 :: ps).length := by simp
          obtain ⟨fl, HFL⟩ : ∃ fl, Hid (p0 :: ps = fl) := ⟨_, rfl⟩
          rw [HFL.out] at HFD hgo1 hd0 hown hpl
          rw [HFL.out] at hfl ⊢
          go_wp2
          obtain ⟨wo2, rfl⟩ : ∃ wo2 : World, wo2 = wr := ⟨_, rfl⟩
          go_loopw [56] (fun i wr => ∃ j : Nat, i = .int .i64 j ∧ j ≤ fl.length ∧ wr.ownsRow (w.heap.size + 1) 126 2 (.slice A5 fl.length c5) fl.length (prs fl) ∧ TblAt wr W1.heap.size (t ++ (fl.take j).map fun q => (q, N)) ∧ Below (w.heap.size + 1) W1 wr) (fun i _ => fl.length - (intOf i).toNat)
          case atStart => exact ⟨0, rfl, Nat.zero_le _, hown, by simpa using HT2.out, hB2⟩
          case round =>
            obtain ⟨j, rfl, hj, hown4, htbl, hB4⟩ := hrel
            have HT4 := Lib.hid htbl
            clear htbl
            by_cases hjt : j < fl.length
            · obtain ⟨A6, c6, hv6, hcs6⟩ := own_out hown4 (by rw [prs, flat_len prCells_len]; omega)
              obtain ⟨rfl, rfl⟩ : A5 = A6 ∧ c5 = c6 := by injection hv6 with h1 _ h3; exact ⟨h1, h3⟩
              obtain ⟨p, b3, o3, hp, hb3, hix3, hc3⟩ := flat_at (c := c5) hcs6 prCells_len Try.underlying165 rPr.size_eq (by decide) hjt
              obtain ⟨pa, pb⟩ := p
              have k0 := hc3 0 _ rfl
              have k1 := hc3 1 _ rfl
              rw [Nat.add_zero] at k0
              have HP := Lib.hid hp
              obtain ⟨na, nb, hpe, hab, hbm, _⟩ := foundTo_mem (m := m) (t := t) (n := N) (k := m.length) (p := (pa, pb)) (by rw [HFD.out]; exact List.mem_of_getElem? hp)
              obtain ⟨rfl, rfl⟩ : pa = (na : Int) ∧ pb = (nb : Int) := by injection hpe with e1 e2; exact ⟨e1, e2⟩
              have hfr := fresh_next (m := m) (t := t) (n := N) (k := j) (p := ((na : Int), (nb : Int))) (by rw [HFD.out]; exact hp)
              rw [HFD.out] at hfr
              obtain ⟨w6, hput, htb6, hgr6⟩ := tbl_put (p := na) (q := nb) (n := N) (HT4.out.alloc (.cells #[.int .i64 (na : Int), .int .i64 (nb : Int)] 126)) (by unfold rng; omega) (by unfold rng; omega) hfr
              have HT6 := Lib.hid htb6
              have hszr4 := hB4.size
              have hB6 : Below (w.heap.size + 1) W1 w6 := (hB4.alloc (by omega) _).trans ((Frame.of_grown hgr6).below (fun b e => by injection e with e; omega) (by simp <;> omega))
              have HO6 := Lib.hid (own_frame (hown4.alloc (.cells #[.int .i64 (na : Int), .int .i64 (nb : Int)] 126)) (Frame.of_grown hgr6) (fun g hg e => (HT4.out.alloc (.cells #[.int .i64 (na : Int), .int .i64 (nb : Int)] 126)).not_own (hown4.alloc _) (by rw [hg]; exact e.symm)))
              clear hp hc3 hpe hfr htb6 hv6 hcs6
              go_wp2
              go_roundw
              case rel =>
                refine ⟨j + 1, by go_num, by omega, HO6.out, ?_, hB6⟩
                rw [take_succ_of HP.out, List.map_append, ← List.append_assoc]
                exact HT6.out
              case measure => simp [intOf]; omega
            · obtain rfl : j = fl.length := by omega
              rw [List.take_length] at HT4
              have hok2 : TblOk m.length (t ++ fl.map fun q => (q, N)) := HOK.out.add (by rw [HFD.out]; exact List.prefix_refl _)
              go_wp2
              go_roundw
              case rel =>
                have e : N + 1 = ((k + 1 : Nat) : Int) + 1 := by rw [HN.out]; omega
                refine ⟨k + 1, t ++ fl.map fun q => (q, N), by rw [e], ?_, hok2, by rw [← e]; exact hgo1.out, HT4.out, hB4⟩
                rw [List.length_append, List.length_map]
                omega
              case measure => rw [HN.out]; simp [intOf]; omega
end Go.Proofs.Ytlnonadkdonhmaa

/- Contract: least. -/
namespace Go.Proofs.Ytlnonadkdonhmaa
open Go.RowKit Go.Maps

def hitL (left : Int) (t : Tbl) (p : Int × Int) : Bool := (tget t (bothI p.1 p.2)).isSome && ((tget t (bothI p.1 p.2)).getD 0 == left - 1)
def keepO (os : List Int) (k : Int) : Nat → Int
  | 0 => 0
  | i + 1 => bits BinOp.or .i64 (keepO os k i) (wrap64 (bits BinOp.and .i64 (k / 2 ^ i) 1 * 2 ^ (os.getD i 0).toNat))
def keepX (rs : List Int) (a : AAct) (c k : Nat) : Int := if 0 ≤ a.rule then keepO (othersA (rs.getD a.rule.toNat 0) c) k (othersA (rs.getD a.rule.toNat 0) c).length else 0
def leastL (rs : List Int) (left : Int) (t : Tbl) : Nat → List AAct → List AAct → Lt × Nat
  | c, x :: xs, y :: ys =>
    if left = 1 then (if x.rule = y.rule then leastL rs left t (c + 1) xs ys else (⟨c, 0⟩, 0))
    else match (x.next.zip y.next).findIdx? (hitL left t) with
      | some k => (⟨c, keepX rs x c k⟩, k)
      | none => leastL rs left t (c + 1) xs ys
  | _, _, _ => (⟨0, 0⟩, 0)
def leastI (rs : List Int) (m : Mach) (p q : Nat) (left : Int) (t : Tbl) : Lt × Nat := leastL rs left t 0 (m.getD p []) (m.getD q [])

theorem findIdx_hit {α : Type} {p : α → Bool} {xs : List α} {k : Nat} {x : α} (h : (xs.take k).any p = false) (hx : xs[k]? = some x) (hp : p x = true) : xs.findIdx? p = some k := by
  have hlt := (List.getElem?_eq_some_iff.1 hx).1
  have e : xs = xs.take k ++ x :: xs.drop (k + 1) := by rw [← drop_cons hx, List.take_append_drop]
  have h1 : (xs.take k).findIdx? p = none := by
    rw [List.findIdx?_eq_none_iff]
    intro y hy
    cases hq : p y
    · rfl
    · rw [List.any_eq_true.2 ⟨y, hy, hq⟩] at h; cases h
  rw [e, List.findIdx?_append, h1, List.findIdx?_cons, hp]
  simp
  omega
theorem findIdx_no {α : Type} {p : α → Bool} {xs : List α} (h : xs.any p = false) : xs.findIdx? p = none := by
  rw [List.findIdx?_eq_none_iff]
  intro y hy
  cases hq : p y
  · rfl
  · rw [List.any_eq_true.2 ⟨y, hy, hq⟩] at h; cases h

theorem load118 {w : World} {b : Nat} {x y : Int} (h : Blk w b (.cells #[.int .i64 x, .int .i64 y] 118)) : (loadVar 118 ⟨b, 0, none⟩).run Try.prog w = .ok (.agg #[.int .i64 x, .int .i64 y]) w := by
  have c0 := h.cell 0 (v := .int .i64 x) rfl
  have c1 := h.cell 1 (v := .int .i64 y) rfl
  go_simp
theorem below_set2 {w : World} {B b : Nat} {x y : Value} (hb : B ≤ b) (hB : B ≤ w.heap.size) : Below B w ((w.setCell ⟨b, 0, none⟩ x).setCell ⟨b, 1, none⟩ y) :=
  (((Frame.refl (fun k => k = b) w).setCell (p := ⟨b, 0, none⟩) (.inl rfl) x).setCell (p := ⟨b, 1, none⟩) (.inl rfl) y).below (fun k e => by omega) hB

set_option maxRecDepth 100000 in
set_option maxHeartbeats 8000000 in
theorem least_any (n : Int) (A : Option Addr) (c : Nat) (rs : List Int) (B : Option Addr) (d : Nat) (m : Mach) (p q : Nat) (left : Int) (bt : Nat) (t : Tbl) (w : World) (hA : Cells w A (ints rs)) (hM : MachAt w B m) (hf : formedA n rs m = true) (hp : p < m.length) (hq : q < m.length)
    (hl0 : 1 ≤ left) (hl1 : left ≤ 5000) (hT : TblAt w bt t) (hru : left ≠ 1 → ∀ (c : Nat) (x y : AAct), (m.getD p [])[c]? = some x → (m.getD q [])[c]? = some y → x.rule = y.rule) :
    Calls Try.prog 86 #[.agg #[.int .i64 n, .slice A rs.length c], .agg #[.slice B m.length d], .agg #[.int .i64 (p : Int), .int .i64 (q : Int)], .int .i64 left, .map (some bt)] w fun e w' =>
      e = .returned (.tuple #[.agg #[.int .i64 (leastI rs m p q left t).1.ch, .int .i64 (leastI rs m p q left t).1.keep], .int .i64 ((leastI rs m p q left t).2 : Int)]) ∧ Below w.heap.size w w' := by
  obtain ⟨hn1, hn6⟩ : 1 ≤ n ∧ n ≤ 6 := by
    have h := hf
    simp only [formedA, Bool.and_eq_true] at h
    obtain ⟨h1, h2, _⟩ := grpOk_true h.1.1.1
    exact ⟨h1, h2⟩
  have hml : m.length ≤ 64 := by
    have h := hf
    simp only [formedA, Bool.and_eq_true, decide_eq_true_eq] at h
    exact h.1.2
  obtain ⟨W, hW⟩ : ∃ W : World, W = (((w.alloc (.cells #[.int .i64 n, .slice A rs.length c] 24)).alloc (.cells #[.slice B m.length d] 27)).alloc (.cells #[.int .i64 (p : Int), .int .i64 (q : Int)] 126)).alloc (.cells #[.int .i64 0, .int .i64 0] 118) := ⟨_, rfl⟩
  have hsW : W.heap.size = w.heap.size + 4 := by rw [hW]; simp
  have hBW : Below w.heap.size w W := by rw [hW]; exact ((((Below.refl _ _).alloc (Nat.le_refl _) _).alloc (by simp) _).alloc (by simp <;> omega) _).alloc (by simp <;> omega) _
  have a0 : W.cell? ⟨w.heap.size, 0, none⟩ = some (.int .i64 n) := by rw [hW]; go_simp
  have a1 : W.cell? ⟨w.heap.size, 1, none⟩ = some (.slice A rs.length c) := by rw [hW]; go_simp
  have a2 : W.cell? ⟨w.heap.size + 1, 0, none⟩ = some (.slice B m.length d) := by rw [hW]; go_simp
  have a3 : W.cell? ⟨w.heap.size + 1 + 1, 1, none⟩ = some (.int .i64 (q : Int)) := by rw [hW]; go_simp
  have HBX : Hid (Blk W (w.heap.size + 1 + 1 + 1) (.cells #[.int .i64 0, .int .i64 0] 118)) := by
    have e := Blk.new (((w.alloc (.cells #[.int .i64 n, .slice A rs.length c] 24)).alloc (.cells #[.slice B m.length d] 27)).alloc (.cells #[.int .i64 (p : Int), .int .i64 (q : Int)] 126)) (.cells #[.int .i64 0, .int .i64 0] 118)
    simp only [World.size_alloc] at e
    rw [hW]; exact e
  have HAW := Lib.hid (hA.below hBW (Nat.le_refl _))
  have HMW := Lib.hid (hM.below hBW (Nat.le_refl _))
  have HTW := Lib.hid (hT.frame (Frame.of_all (S := fun _ => False) hBW) (fun h => h))
  have hbt := hT.lt
  obtain ⟨xs, hx, hxl, hxa⟩ := row_of hf hp
  obtain ⟨ys, hy, hyl, hya⟩ := row_of hf hq
  have hxy : xs.length = ys.length := by omega
  have hxl6 : xs.length ≤ 6 := by omega
  have HI : Hid (leastI rs m p q left t = leastL rs left t 0 xs ys) := by show _ = _; simp [leastI, List.getD, hx, hy]
  have HRU : Hid (left ≠ 1 → ∀ (c : Nat) (x y : AAct), xs[c]? = some x → ys[c]? = some y → x.rule = y.rule) := by
    have e1 : m.getD p [] = xs := by simp [List.getD, hx]
    have e2 : m.getD q [] = ys := by simp [List.getD, hy]
    rw [e1, e2] at hru
    exact hru
  obtain ⟨R, HR⟩ : ∃ R, Hid (leastL rs left t 0 xs ys = R) := ⟨_, rfl⟩
  rw [HI.out, HR.out]
  obtain ⟨r1, E1, f1, b1, o1, hr1, hb1, hix1, hc1, ha1⟩ := mach_at (c := d) HMW.out hp
  obtain rfl : xs = r1 := by rw [hx] at hr1; injection hr1
  obtain ⟨r2, E2, f2, b2, o2, hr2, hb2, hix2, hc2, ha2⟩ := mach_at (c := d) HMW.out hq
  obtain rfl : ys = r2 := by rw [hy] at hr2; injection hr2
  have HXA := Lib.hid hxa
  have HYA := Lib.hid hya
  have HXY := Lib.hid hxy
  have HXL := Lib.hid hxl
  have hsa : w.heap.size + 4 ≤ W.heap.size := by omega
  have hsb : W.heap.size ≤ w.heap.size + 4 := by omega
  clear hx hy hr1 hr2 hxa hya hxy hf hxl hyl hru hsW
  have hcl : ((((w.alloc (.cells #[.int .i64 n, .slice A rs.length c] 24)).alloc (.cells #[.slice B m.length d] 27)).alloc (.cells #[.int .i64 (p : Int), .int .i64 (q : Int)] 126)).alloc (.cells #[.int .i64 0, .int .i64 0] 118)).cell? ⟨b1, o1, none⟩ = some (.slice E1 xs.length f1) := by rw [← hc1, hW]
  go_enter Try.func86, Try.ntmps86
  go_wp2
  rw [← hW]
  clear hW hcl
  go_loopw [28] (fun i wr => ∃ k : Nat, k ≤ xs.length ∧ i = .int .i64 k ∧ leastL rs left t k (xs.drop k) (ys.drop k) = R ∧ Below W.heap.size W wr) (fun i _ => xs.length - (intOf i).toNat)
  case atStart => exact ⟨0, Nat.zero_le _, rfl, HR.out, Below.refl _ _⟩
  case round =>
    obtain ⟨k, hk, rfl, heq, hB⟩ := hrel
    have HE := Lib.hid heq
    have hszr := hB.size
    have y0 := cell_chain hB (by omega) a0
    have y1 := cell_chain hB (by omega) a1
    have y2 := cell_chain hB (by omega) a2
    have y3 := cell_chain hB (by omega) a3
    have y4 := cell_chain hB hb1 hc1
    have y5 := cell_chain hB hb2 hc2
    have hz0 : w.heap.size < wr.heap.size := by omega
    have hz1 : w.heap.size + 1 < wr.heap.size := by omega
    have hz2 : w.heap.size + 1 + 1 < wr.heap.size := by omega
    have hz3 : b2 < wr.heap.size := by omega
    have bx := HBX.out.below hB (by omega)
    clear heq
    by_cases hlt : k < xs.length
    · obtain ⟨x, D1, p1, c1, q1, hx, hcb1, hjx1, hx0, hx1, hnx⟩ := acts_at (c := f1) (ha1.below hB (Nat.le_refl _)) hlt
      obtain ⟨y, D2, p2, c2, q2, hy, hcb2, hjx2, hy0, hy1, hny⟩ := acts_at (c := f2) (ha2.below hB (Nat.le_refl _)) (by rw [← HXY.out]; exact hlt)
      have HAX := Lib.hid (allTo_at HXA.out hx hlt)
      have HAY := Lib.hid (allTo_at HYA.out hy (by rw [← HXY.out]; exact hlt))
      have HD : Hid (leastL rs left t k (x :: xs.drop (k + 1)) (y :: ys.drop (k + 1)) = R) := by show _ = _; rw [← HE.out, drop_cons hx, drop_cons hy]
      have HRX : Hid (left ≠ 1 → x.rule = y.rule) := fun h => HRU.out h k x y hx hy
      clear hx hy
      by_cases hleft : left = 1
      · subst hleft
        by_cases hru : x.rule = y.rule
        · have hd3 : (x.rule != y.rule) = false := by simp [hru]
          have HRN : Hid (leastL rs 1 t (k + 1) (xs.drop (k + 1)) (ys.drop (k + 1)) = R) := by
            show _ = _
            rw [← HD.out, leastL, if_pos rfl, if_pos hru]
          clear hru
          go_wp2
          go_roundw
          case rel => exact ⟨k + 1, by omega, by go_num, HRN.out, (hB.alloc (by omega) _).alloc (by simp <;> omega) _⟩
          case measure => simp [intOf]; omega
        · have hd3 : (x.rule != y.rule) = true := by simpa using hru
          have HRE : Hid (R = (⟨k, 0⟩, 0)) := by
            show _ = _
            rw [← HD.out, leastL, if_pos rfl, if_neg hru]
          clear hru
          have hz4 : w.heap.size + 1 + 1 + 1 < wr.heap.size := by omega
          have f0 := bx.free 0
          have f1 := (bx.set 0 (.int .i64 (k : Int))).free 1
          have f2 := bx.free 1
          have d0 := bx.cell 0 (v := .int .i64 0) rfl
          have d1 := (bx.set 0 (.int .i64 (k : Int))).cell 1 (v := .int .i64 0) rfl
          have d2 := bx.cell 1 (v := .int .i64 0) rfl
          have HBY := Lib.hid ((((bx.set 0 (.int .i64 (k : Int))).set 1 (.int .i64 0)).alloc (.cells #[.int .i64 x.rule, .slice D1 x.next.length p1] 103)).alloc (.cells #[.int .i64 y.rule, .slice D2 y.next.length p2] 103))
          have HBL : Hid (Below w.heap.size w ((((wr.setCell ⟨w.heap.size + 1 + 1 + 1, 0, none⟩ (.int .i64 (k : Int))).setCell ⟨w.heap.size + 1 + 1 + 1, 1, none⟩ (.int .i64 0)).alloc (.cells #[.int .i64 x.rule, .slice D1 x.next.length p1] 103)).alloc (.cells #[.int .i64 y.rule, .slice D2 y.next.length p2] 103))) :=
            (((hBW.trans (hB.mono (by omega))).trans (below_set2 (by omega) (by omega))).alloc (by simp [World.setCell] <;> omega) _).alloc (by simp [World.setCell] <;> omega) _
          go_wp2
          refine bodyPost_ret (v := .tuple #[.agg #[.int .i64 (k : Int), .int .i64 0], .int .i64 0]) (results_ct rfl rfl rfl (load118 HBY.out)) rfl ⟨?_, HBL.out⟩
          rw [HRE.out]
          rfl
      · have hru := HRX.out hleft
        have hd3 : (left == 1) = false := by simp [hleft]
        have HNL := Lib.hid (next_len_eq HAX.out HAY.out hru)
        have hnl := next_len HAX.out
        have HLE := Lib.hid hleft
        clear hru hleft
        go_wp2
        obtain ⟨wA, hwA⟩ : ∃ wA : World, wA = (wr.alloc (.cells #[.int .i64 x.rule, .slice D1 x.next.length p1] 103)).alloc (.cells #[.int .i64 y.rule, .slice D2 y.next.length p2] 103) := ⟨_, rfl⟩
        have hszA : wA.heap.size = wr.heap.size + 2 := by rw [hwA]; simp
        have hBA : Below wr.heap.size wr wA := by rw [hwA]; exact ((Below.refl _ _).alloc (Nat.le_refl _) _).alloc (by simp) _
        have a0' : wA.cell? ⟨wr.heap.size, 1, none⟩ = some (.slice D1 x.next.length p1) := by rw [hwA]; go_simp
        have a0'' : wA.cell? ⟨wr.heap.size, 0, none⟩ = some (.int .i64 x.rule) := by rw [hwA]; go_simp
        have a1' : wA.cell? ⟨wr.heap.size + 1, 1, none⟩ = some (.slice D2 y.next.length p2) := by rw [hwA]; go_simp
        have hszAl : wr.heap.size + 2 ≤ wA.heap.size := by omega
        obtain ⟨wo, rfl⟩ : ∃ wo : World, wo = wr := ⟨_, rfl⟩
        rw [← hwA]
        clear hwA hszA
        go_loopw [54] (fun i wr => ∃ j : Nat, j ≤ x.next.length ∧ i = .int .i64 j ∧ ((x.next.zip y.next).take j).any (hitL left t) = false ∧ Below wA.heap.size wA wr) (fun i _ => x.next.length - (intOf i).toNat)
        case atStart => exact ⟨0, Nat.zero_le _, rfl, rfl, Below.refl _ _⟩
        case round =>
          obtain ⟨j, hj, rfl, hany, hB3⟩ := hrel
          have HAN := Lib.hid hany
          have e0 := cell_chain hB3 (by omega) a0'
          have e1 := cell_chain hB3 (by omega) a1'
          have e2 := cell_chain hB3 (by omega) a0''
          have hsz3 := hB3.size
          have hBo : Below wo.heap.size wo wr := hBA.trans (hB3.mono (by omega))
          have hBWr : Below W.heap.size W wr := hB.trans (hBo.mono (by omega))
          clear hany
          by_cases hjt : j < x.next.length
          · obtain ⟨xi, b3, o3, hxi, hb3, hix3, hc3⟩ := ints_at (c := p1) (hnx.below hBo (Nat.le_refl _)) Try.underlying22 szInt hjt
            obtain ⟨yi, b4, o4, hyi, hb4, hix4, hc4⟩ := ints_at (c := p2) (hny.below hBo (Nat.le_refl _)) Try.underlying22 szInt (k := j) (by rw [← HNL.out]; exact hjt)
            have HZ : Hid ((x.next.zip y.next)[j]? = some (xi, yi)) := by show _ = _; rw [List.getElem?_zip_eq_some]; exact ⟨hxi, hyi⟩
            have hxm := next_mem HAX.out (List.mem_of_getElem? hxi)
            have hym := next_mem HAY.out (List.mem_of_getElem? hyi)
            clear hxi hyi
            have hs0 : wo.heap.size < wr.heap.size := by omega
            have hs1 : wo.heap.size + 1 < wr.heap.size := by omega
            obtain ⟨mn, mx, HQ⟩ : ∃ mn mx, Hid (bothI xi yi = (mn, mx)) := ⟨_, _, rfl⟩
            have hq1 : min xi yi = mn := congrArg Prod.fst HQ.out
            have hq2 : max xi yi = mx := congrArg Prod.snd HQ.out
            have HRG : Hid (rng mn ∧ rng mx) := (by constructor <;> unfold rng <;> omega)
            have HQ1 := Lib.hid hq1
            have HQ2 := Lib.hid hq2
            have HTR := Lib.hid (HTW.out.frame (Frame.of_below hBWr) (by omega))
            clear hq1 hq2
            go_wp2
            refine draw (fun w' => Below wr.heap.size wr w') 18 rfl (by kernel_rfl) (fun Qd hQd => ?_)
            apply anyI_step 0 rfl (by kernel_rfl)
            focus (intro wI hI Kv hKv; have v0 := cell_chain hI hs0 e0; have v1 := cell_chain hI hs1 e1; have v2 := cell_chain hI hb3 hc3; have v3 := cell_chain hI hb4 hc4; go_simp; exact hKv)
            intro Kd hKd
            go_simp
            refine hKd _ ?_
            clear hKd Kd
            apply anyI_step 1 rfl (by kernel_rfl)
            focus (intro wI hI Kv hKv; have v0 := cell_chain hI hs0 e0; have v1 := cell_chain hI hs1 e1; have v2 := cell_chain hI hb3 hc3; have v3 := cell_chain hI hb4 hc4; go_simp; exact hKv)
            intro Kd hKd
            go_simp
            refine hKd _ ?_
            clear hKd Kd
            apply anyI_step 2 rfl (by kernel_rfl)
            focus (intro wI hI Kv hKv; have v0 := cell_chain hI hs0 e0; have v1 := cell_chain hI hs1 e1; have v2 := cell_chain hI hb3 hc3; have v3 := cell_chain hI hb4 hc4; go_simp; exact hKv)
            intro Kd hKd
            go_simp
            refine hKd _ ?_
            clear hKd Kd
            apply anyI_step 3 rfl (by kernel_rfl)
            focus (intro wI hI Kv hKv; have v0 := cell_chain hI hs0 e0; have v1 := cell_chain hI hs1 e1; have v2 := cell_chain hI hb3 hc3; have v3 := cell_chain hI hb4 hc4; go_simp; exact hKv)
            intro Kd hKd
            go_simp
            refine hKd _ ?_
            clear hKd Kd
            apply anyI_step 4 rfl (by kernel_rfl)
            focus (intro wI hI Kv hKv; have v0 := cell_chain hI hs0 e0; have v1 := cell_chain hI hs1 e1; have v2 := cell_chain hI hb3 hc3; have v3 := cell_chain hI hb4 hc4; go_simp; exact hKv)
            intro Kd hKd
            go_simp
            refine hKd _ ?_
            clear hKd Kd
            apply anyI_step 5 rfl (by kernel_rfl)
            focus (intro wI hI Kv hKv; have v0 := cell_chain hI hs0 e0; have v1 := cell_chain hI hs1 e1; have v2 := cell_chain hI hb3 hc3; have v3 := cell_chain hI hb4 hc4; go_simp; exact hKv)
            intro Kd hKd
            go_simp
            refine hKd _ ?_
            clear hKd Kd
            apply anyI_step 6 rfl (by kernel_rfl)
            focus (intro wI hI Kv hKv; have v0 := cell_chain hI hs0 e0; have v1 := cell_chain hI hs1 e1; have v2 := cell_chain hI hb3 hc3; have v3 := cell_chain hI hb4 hc4; go_simp; exact hKv)
            intro Kd hKd
            go_simp
            refine hKd _ ?_
            clear hKd Kd
            apply anyI_step 7 rfl (by kernel_rfl)
            focus (intro wI hI Kv hKv; have v0 := cell_chain hI hs0 e0; have v1 := cell_chain hI hs1 e1; have v2 := cell_chain hI hb3 hc3; have v3 := cell_chain hI hb4 hc4; go_simp; exact hKv)
            intro Kd hKd
            go_simp
            refine hKd _ ?_
            clear hKd Kd
            apply anyI_step 8 rfl (by kernel_rfl)
            focus (intro wI hI Kv hKv; have v0 := cell_chain hI hs0 e0; have v1 := cell_chain hI hs1 e1; have v2 := cell_chain hI hb3 hc3; have v3 := cell_chain hI hb4 hc4; go_simp; exact hKv)
            intro Kd hKd
            go_simp
            refine hKd _ ?_
            clear hKd Kd
            apply anyI_step 9 rfl (by kernel_rfl)
            focus (intro wI hI Kv hKv; have v0 := cell_chain hI hs0 e0; have v1 := cell_chain hI hs1 e1; have v2 := cell_chain hI hb3 hc3; have v3 := cell_chain hI hb4 hc4; go_simp; exact hKv)
            intro Kd hKd
            go_simp
            refine hKd _ ?_
            clear hKd Kd
            apply anyI_step 10 rfl (by kernel_rfl)
            focus (intro wI hI Kv hKv; have v0 := cell_chain hI hs0 e0; have v1 := cell_chain hI hs1 e1; have v2 := cell_chain hI hb3 hc3; have v3 := cell_chain hI hb4 hc4; go_simp; exact hKv)
            intro Kd hKd
            go_simp
            refine hKd _ ?_
            clear hKd Kd
            refine anyI_one' 11 rfl (by kernel_rfl) ((Below.refl _ _).drew) (fun Kd hKd => ?_)
            go_wp2_with (go_at_call 85; go_must (refine (both_any xi yi _).mono ?_); rintro e w5 ⟨rfl, hB5⟩; rw [HQ1.out, HQ2.out])
            have hB5' : Below wr.heap.size wr w5 := (Below.refl _ wr).drew.trans hB5
            apply anyI_step 12 rfl (by kernel_rfl)
            focus (intro wI hI Kv hKv; have tl := tbl_look (HTR.out.frame (Frame.of_below hI) (by omega)) HRG.out.1 HRG.out.2; go_simp; exact hKv)
            intro Kd hKd
            go_simp
            refine hKd _ ?_
            clear hKd Kd
            apply anyI_step 13 rfl (by kernel_rfl)
            focus (intro wI hI Kv hKv; have tl := tbl_look (HTR.out.frame (Frame.of_below hI) (by omega)) HRG.out.1 HRG.out.2; go_simp; exact hKv)
            intro Kd hKd
            go_simp
            refine hKd _ ?_
            clear hKd Kd
            apply anyI_step 14 rfl (by kernel_rfl)
            focus (intro wI hI Kv hKv; have tl := tbl_look (HTR.out.frame (Frame.of_below hI) (by omega)) HRG.out.1 HRG.out.2; go_simp; exact hKv)
            intro Kd hKd
            go_simp
            refine hKd _ ?_
            clear hKd Kd
            apply anyI_step 15 rfl (by kernel_rfl)
            focus (intro wI hI Kv hKv; have tl := tbl_look (HTR.out.frame (Frame.of_below hI) (by omega)) HRG.out.1 HRG.out.2; go_simp; exact hKv)
            intro Kd hKd
            go_simp
            refine hKd _ ?_
            clear hKd Kd
            apply anyI_step 16 rfl (by kernel_rfl)
            focus (intro wI hI Kv hKv; have tl := tbl_look (HTR.out.frame (Frame.of_below hI) (by omega)) HRG.out.1 HRG.out.2; go_simp; exact hKv)
            intro Kd hKd
            go_simp
            refine hKd _ ?_
            clear hKd Kd
            apply anyI_step 17 rfl (by kernel_rfl)
            focus (intro wI hI Kv hKv; have tl := tbl_look (HTR.out.frame (Frame.of_below hI) (by omega)) HRG.out.1 HRG.out.2; go_simp; exact hKv)
            intro Kd hKd
            go_simp
            refine hKd _ ?_
            clear hKd Kd
            refine anyI_end (by kernel_rfl) (hB5') (hQd _ _ ?_)
            clear hQd Qd
            have hsz5 := hB5'.size
            have hB5A : Below wA.heap.size wA w5 := hB3.trans (hB5'.mono (by omega))
            have hB5W : Below W.heap.size W w5 := hBWr.trans (hB5'.mono (by omega))
            clear hc3 hc4 hix3 hix4 e0 e1 e2 hBWr
            cases hget : tget t (mn, mx) with
            | none =>
              have HH : Hid (hitL left t (xi, yi) = false) := by show _ = _; unfold hitL; simp [HQ.out, hget]
              simp only [Option.getD_none, Option.isSome_none]
              clear hget
              go_wp2
              go_roundw
              case rel => exact ⟨j + 1, by omega, by go_num, any_drop HAN.out HZ.out HH.out, hB5A⟩
              case measure => simp [intOf]; omega
            | some v =>
              simp only [Option.getD_some, Option.isSome_some]
              by_cases hv : v = left - 1
              · have HH : Hid (hitL left t (xi, yi) = true) := by show _ = _; unfold hitL; simp [HQ.out, hget, hv]
                have hdv : (v != left - 1) = false := by simp [hv]
                have HRE : Hid (R = (⟨k, keepX rs x k j⟩, j)) := by
                  show _ = _
                  rw [← HD.out, leastL, if_neg HLE.out, findIdx_hit HAN.out HZ.out HH.out]
                clear hget hv
                have h0 := cell_chain hB5A (by omega) a0'
                have h1 := cell_chain hB5A (by omega) a0''
                have h2 := cell_chain hB5W (by omega) a0
                have h3 := cell_chain hB5W (by omega) a1
                have hs2 : wo.heap.size < w5.heap.size := by omega
                have hs3 : w.heap.size < w5.heap.size := by omega
                have hz4 : w.heap.size + 1 + 1 + 1 < w5.heap.size := by omega
                have bx5 := HBX.out.below hB5W (by omega)
                by_cases hr0 : 0 ≤ x.rule
                · have hok := HAX.out
                  simp only [actOkA, ruleOk, Bool.and_eq_true, Bool.or_eq_true, decide_eq_true_eq] at hok
                  obtain ⟨⟨hrule, _⟩, _⟩ := hok
                  obtain ⟨⟨_, hr1⟩, _⟩ := hrule.resolve_left (by omega)
                  obtain ⟨r, hrr⟩ := Int.eq_ofNat_of_zero_le hr0
                  obtain ⟨rr, hxr⟩ : ∃ rr, rs[r]? = some rr := ⟨_, List.getElem?_eq_getElem (by omega)⟩
                  obtain ⟨os, HO⟩ : ∃ os, Hid (othersA rr k = os) := ⟨_, rfl⟩
                  have hol : os.length ≤ 6 := by rw [← HO.out]; exact othersA_len _ _
                  have HOB : Hid (∀ x ∈ os, 0 ≤ x ∧ x < 6) := by rw [← HO.out]; exact fun x hx => othersA_bd hx
                  have HKX : Hid (keepX rs x k j = keepO os j os.length) := by
                    show _ = _
                    unfold keepX
                    rw [if_pos hr0, hrr, Int.toNat_natCast]
                    simp only [List.getD, hxr, Option.getD_some, HO.out]
                  have HX2 := Lib.hid hxr
                  rw [hrr] at h1
                  clear hxr hrule hr1 hrr hr0
                  have HA6 := Lib.hid ((HAW.out.below hB5W (Nat.le_refl _)).box0 (.cells #[.int .i64 (k : Int), .int .i64 0] 118))
                  go_wp2_with (go_at_call 115; go_must (refine (others_any n r k A c rs rr _ HA6.out HX2.out (by omega) (by omega)).mono ?_); rintro e w7 ⟨A7, c7, rfl, hnew7, hB7⟩; rw [HO.out] at hnew7; rw [HO.out])
                  have hB7' : Below w5.heap.size w5 w7 := ((Below.refl _ _).alloc (Nat.le_refl _) _).trans (hB7.mono (by simp))
                  have bl7 := (Blk.new w5 (.cells #[.int .i64 (k : Int), .int .i64 0] 118)).below hB7 (by simp)
                  have hsz7 := hB7.size
                  simp only [World.size_alloc] at hsz7
                  go_loopw [92] (fun i wr => ∃ e : Nat, e ≤ os.length ∧ i = .int .i64 e ∧ Blk wr w5.heap.size (.cells #[.int .i64 (k : Int), .int .i64 (keepO os j e)] 118) ∧ Frame (fun b => b = w5.heap.size) w7 wr) (fun i _ => os.length - (intOf i).toNat)
                  case atStart => exact ⟨0, Nat.zero_le _, rfl, bl7, Frame.refl _ _⟩
                  case round =>
                    obtain ⟨e, he, rfl, blr, hF⟩ := hrel
                    have q0 := blr.cell 1 (v := .int .i64 (keepO os j e)) rfl
                    have q1 := blr.cell 0 (v := .int .i64 (k : Int)) rfl
                    have q2 := blr.free 1
                    have hszF := hF.size
                    by_cases het : e < os.length
                    · obtain ⟨o, b8, o8, ho, hb8, hix8, hc8⟩ := ints_at (c := c7) (hnew7.1.frame hF (fun _ a ha e => by have := hnew7.2 a ha; simp at this; omega)) Try.underlying22 szInt het
                      have hob := HOB.out o (List.mem_of_getElem? ho)
                      obtain ⟨hob0, hob1⟩ := hob
                      have HGD : Hid (os.getD e 0 = o) := by show _ = _; simp [List.getD, ho]
                      clear ho
                      go_wp2
                      refine stail 10 (by kernel_rfl) (by kernel_rfl) (fun Kq hKq => ?_)
                      simp only [List.take_succ_cons, List.take_zero, List.drop_succ_cons, List.drop_zero] at hKq ⊢
                      repeat still_step
                      refine wpStill_nil (hKq _ ?_)
                      clear hKq Kq
                      go_wp2
                      go_roundw
                      case rel =>
                        refine ⟨e + 1, by omega, by go_num, ?_, (hF.setCell (p := ⟨w5.heap.size, 1, none⟩) (.inl rfl) _).drew⟩
                        rw [keepO, HGD.out]
                        exact (blr.set 1 _).drew
                      case measure => simp [intOf]; omega
                    · obtain rfl : e = os.length := by omega
                      have bxr := (bx5.below hB7' (by omega)).frame hF (by omega)
                      have hz5 : w.heap.size + 1 + 1 + 1 < wr.heap.size := by omega
                      have f0 := bxr.free 0
                      have f1 := (bxr.set 0 (.int .i64 (k : Int))).free 1
                      have f2 := bxr.free 1
                      have d0 := bxr.cell 0 (v := .int .i64 0) rfl
                      have d1 := (bxr.set 0 (.int .i64 (k : Int))).cell 1 (v := .int .i64 0) rfl
                      have d2 := bxr.cell 1 (v := .int .i64 0) rfl
                      have HBY := Lib.hid ((bxr.set 0 (.int .i64 (k : Int))).set 1 (.int .i64 (keepO os j os.length)))
                      have HBL : Hid (Below w.heap.size w ((wr.setCell ⟨w.heap.size + 1 + 1 + 1, 0, none⟩ (.int .i64 (k : Int))).setCell ⟨w.heap.size + 1 + 1 + 1, 1, none⟩ (.int .i64 (keepO os j os.length)))) :=
                        (((hBW.trans (hB5W.mono (by omega))).trans (hB7'.mono (by omega))).trans (hF.below (fun b e => by omega) (by omega))).trans (below_set2 (by omega) (by omega))
                      go_wp2
                      refine bodyPost_ret (v := .tuple #[.agg #[.int .i64 (k : Int), .int .i64 (keepO os j os.length)], .int .i64 (j : Int)]) (results_ct rfl rfl rfl (load118 HBY.out)) rfl ⟨?_, HBL.out⟩
                      rw [HRE.out, HKX.out]
                · have hd5 : decide (0 ≤ x.rule) = false := by simp <;> omega
                  have HKX : Hid (keepX rs x k j = 0) := by show _ = _; unfold keepX; rw [if_neg hr0]
                  have f0 := bx5.free 0
                  have f1 := (bx5.set 0 (.int .i64 (k : Int))).free 1
                  have f2 := bx5.free 1
                  have d0 := bx5.cell 0 (v := .int .i64 0) rfl
                  have d1 := (bx5.set 0 (.int .i64 (k : Int))).cell 1 (v := .int .i64 0) rfl
                  have d2 := bx5.cell 1 (v := .int .i64 0) rfl
                  have HBY := Lib.hid (((bx5.set 0 (.int .i64 (k : Int))).set 1 (.int .i64 0)).alloc (.cells #[.int .i64 (k : Int), .int .i64 0] 118))
                  have HBL : Hid (Below w.heap.size w (((w5.setCell ⟨w.heap.size + 1 + 1 + 1, 0, none⟩ (.int .i64 (k : Int))).setCell ⟨w.heap.size + 1 + 1 + 1, 1, none⟩ (.int .i64 0)).alloc (.cells #[.int .i64 (k : Int), .int .i64 0] 118))) :=
                    ((hBW.trans (hB5W.mono (by omega))).trans (below_set2 (by omega) (by omega))).alloc (by simp [World.setCell] <;> omega) _
                  go_wp2
                  refine bodyPost_ret (v := .tuple #[.agg #[.int .i64 (k : Int), .int .i64 0], .int .i64 (j : Int)]) (results_ct rfl rfl rfl (load118 HBY.out)) rfl ⟨?_, HBL.out⟩
                  rw [HRE.out, HKX.out]
              · have HH : Hid (hitL left t (xi, yi) = false) := by show _ = _; unfold hitL; simp [HQ.out, hget, hv]
                have hdv : (v != left - 1) = true := by simp [hv]
                clear hget hv
                go_wp2
                go_roundw
                case rel => exact ⟨j + 1, by omega, by go_num, any_drop HAN.out HZ.out HH.out, hB5A⟩
                case measure => simp [intOf]; omega
          · obtain rfl : j = x.next.length := by omega
            have HNO : Hid ((x.next.zip y.next).any (hitL left t) = false) := by
              have e := HAN.out
              rw [List.take_of_length_le (by rw [List.length_zip]; omega)] at e
              exact e
            go_wp2
            go_roundw
            case rel =>
              refine ⟨k + 1, by omega, by go_num, ?_, hBWr⟩
              rw [← HD.out, leastL, if_neg HLE.out, findIdx_no HNO.out]
            case measure => simp [intOf]; omega
    · obtain rfl : k = xs.length := by omega
      have HRE : Hid (R = (⟨0, 0⟩, 0)) := by
        show _ = _
        rw [← HE.out, List.drop_length]
        simp [leastL]
      have hz4 : w.heap.size + 1 + 1 + 1 < wr.heap.size := by omega
      have f0 := bx.free 0
      have f1 := (bx.set 0 (.int .i64 0)).free 1
      have f2 := bx.free 1
      have d0 := bx.cell 0 (v := .int .i64 0) rfl
      have d1 := (bx.set 0 (.int .i64 0)).cell 1 (v := .int .i64 0) rfl
      have d2 := bx.cell 1 (v := .int .i64 0) rfl
      have HBY := Lib.hid ((bx.set 0 (.int .i64 0)).set 1 (.int .i64 0))
      have HBL : Hid (Below w.heap.size w ((wr.setCell ⟨w.heap.size + 1 + 1 + 1, 0, none⟩ (.int .i64 0)).setCell ⟨w.heap.size + 1 + 1 + 1, 1, none⟩ (.int .i64 0))) :=
        (hBW.trans (hB.mono (by omega))).trans (below_set2 (by omega) (by omega))
      go_wp2
      refine bodyPost_ret (v := .tuple #[.agg #[.int .i64 0, .int .i64 0], .int .i64 0]) (results_ct rfl rfl rfl (load118 HBY.out)) rfl ⟨?_, HBL.out⟩
      rw [HRE.out]
      rfl
end Go.Proofs.Ytlnonadkdonhmaa
