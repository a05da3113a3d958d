/- Contracts of the reference: bits, report, data. -/
import Derived.Test.YtejabnoidhlfaaaS49

/- Contracts of the reference: has, bits. -/
namespace Go.Proofs.Ytejabnoidhlfaaa
open Go.RowKit Go.Maps

/-- The first number n among the early ones, or -1. -/
def HasR (l : List Im) (n z : Int) : Prop := (z = -1 ∧ hasN l n = false) ∨ ∃ k : Nat, z = (k : Int) ∧ hasN l n = true ∧ (∃ x, l[k]? = some x ∧ x.n = n) ∧ ∀ j x, j < k → l[j]? = some x → x.n ≠ n
theorem hasN_none {l : List Im} {n : Int} (h : ∀ j x, j < l.length → l[j]? = some x → x.n ≠ n) : hasN l n = false := by
  unfold hasN
  rw [List.any_eq_false]
  intro x hx
  obtain ⟨j, hj⟩ := List.getElem?_of_mem hx
  have hl := (List.getElem?_eq_some_iff.1 hj).1
  simpa using h j x hl hj
theorem hasN_some {l : List Im} {n : Int} {k : Nat} {x : Im} (h : l[k]? = some x) (hn : x.n = n) : hasN l n = true := by
  unfold hasN
  rw [List.any_eq_true]
  exact ⟨x, List.mem_of_getElem? h, by simpa using hn⟩
set_option maxRecDepth 100000 in
set_option maxHeartbeats 4000000 in
theorem has_any (e : En) (A : Option Addr) (c : Nat) (D : Option Addr) (d : Nat) (n : Int) (w : World) (h : EnAt w e A D) : Calls Try.prog 77 #[enV e A c D d, .int .i64 n] w fun r w' => ∃ z, r = .returned (.int .i64 z) ∧ HasR e.inn n z ∧ Below w.heap.size w w' := by
  have HE := Lib.hid h
  have HL : Hid (e.inn.length ≤ 17592186043904) := by have := h.inn.1; rw [ims_len] at this; show _ ≤ _; omega
  clear h
  unfold enV
  go_enter Try.func77, Try.ntmps77
  obtain ⟨W, hW⟩ : ∃ W, w.alloc (.cells #[.int .i64 e.life, .int .i64 e.peer, .int .i64 e.phase, .int .i64 e.base, .slice A e.out.length c, .int .i64 e.want, .slice D e.inn.length d] 26) = W := ⟨_, rfl⟩
  have HBW : Hid (Below w.heap.size w W) := by rw [← hW]; exact (Below.refl _ w).alloc (Nat.le_refl _) _
  have HKW : Hid (Blk W w.heap.size (.cells (enB e A c D d) 26)) := by rw [← hW]; exact Blk.new _ _
  have q9 := HKW.out
  have x0 := q9.cell 0 (v := .int .i64 e.life) rfl
  have x1 := q9.cell 1 (v := .int .i64 e.peer) rfl
  have x2 := q9.cell 2 (v := .int .i64 e.phase) rfl
  have x3 := q9.cell 3 (v := .int .i64 e.base) rfl
  have x4 := q9.cell 4 (v := .slice A e.out.length c) rfl
  have x5 := q9.cell 5 (v := .int .i64 e.want) rfl
  have x6 := q9.cell 6 (v := .slice D e.inn.length d) rfl
  have xl := q9.lt
  clear q9
  go_wp2
  clear hW
  go_loopg [5] e.inn.length (fun g iv wr => ∃ k : Nat, k + g = e.inn.length ∧ iv = .int .i64 (k : Int) ∧ wr = W ∧ ∀ j x, j < k → e.inn[j]? = some x → x.n ≠ n)
  case atStart => exact ⟨0, Nat.zero_add _, rfl, rfl, fun j x hj => absurd hj (Nat.not_lt_zero _)⟩
  case round =>
    obtain ⟨k, hk, rfl, hwr, hno⟩ := hrel
    subst hwr
    have HK := Lib.hid hk
    have HNO := Lib.hid hno
    clear hk hno
    by_cases hlt : (k : Int) < (e.inn.length : Int)
    · obtain ⟨x, xb, xo, hx, hxb, hxi, hn, ht⟩ := im_at (c := d) (k := k) (HE.out.below HBW.out).inn (by omega)
      have hw1 : IntKind.i64.wrap ((k : Int) + 1) = (k : Int) + 1 := wrap_ok ⟨by omega, by have := HL.out; omega⟩
      have HX := Lib.hid hx
      clear hx
      obtain ⟨q, hq⟩ : ∃ q, (x.n == n) = q := ⟨_, rfl⟩
      cases q with
      | true =>
        have HN : Hid (x.n = n) := beq_iff_eq.1 hq
        go_wp2
        go_ret
        exact ⟨_, rfl, .inr ⟨k, rfl, hasN_some HX.out HN.out, ⟨x, HX.out, HN.out⟩, HNO.out⟩, HBW.out⟩
      | false =>
        have HN : Hid (x.n ≠ n) := beq_eq_false_iff_ne.1 hq
        go_wp2_with fail
        go_roundg (e.inn.length - (k + 1))
        case measure => have := HK.out; omega
        case rel =>
          refine ⟨k + 1, by omega, rfl, rfl, fun j y hj hy => ?_⟩
          by_cases e9 : j = k
          · subst e9
            rw [HX.out] at hy
            injection hy with hy
            rw [← hy]
            exact HN.out
          · exact HNO.out j y (by omega) hy
    · go_wp2
      go_ret
      exact ⟨_, rfl, .inl ⟨rfl, hasN_none fun j x hj hx => HNO.out j x (by omega) hx⟩, HBW.out⟩

def bitS (l : List Im) (want : Int) : Nat → Int
  | 0 => 0
  | k + 1 => bitS l want k + if hasN l (want + 1 + (k : Int)) then ((2 ^ k : Nat) : Int) else 0
theorem bitS_three (e : En) : bitS e.inn e.want 3 = bitsA e := by
  unfold bitsA
  simp only [bitS]
  rw [show e.want + 1 + ((0 : Nat) : Int) = e.want + 1 by omega, show e.want + 1 + ((1 : Nat) : Int) = e.want + 2 by omega, show e.want + 1 + ((2 : Nat) : Int) = e.want + 3 by omega]
  split <;> split <;> split <;> rfl
theorem bitS_bound (l : List Im) (want : Int) : ∀ k, 0 ≤ bitS l want k ∧ bitS l want k < (2 ^ k : Nat)
  | 0 => ⟨Int.le_refl _, by show (0 : Int) < ((2 ^ 0 : Nat) : Int); decide⟩
  | k + 1 => by
    have h := bitS_bound l want k
    have h2 : ((2 ^ (k + 1) : Nat) : Int) = (2 ^ k : Nat) + (2 ^ k : Nat) := by rw [Nat.pow_succ]; omega
    rw [bitS, h2]
    split <;> omega
theorem HasR.neg {l : List Im} {n z : Int} (h : HasR l n z) (hz : z < 0) : hasN l n = false := by
  rcases h with h | ⟨k, h1, _⟩
  · exact h.2
  · omega
theorem HasR.pos {l : List Im} {n z : Int} (h : HasR l n z) (hz : 0 ≤ z) : hasN l n = true := by
  rcases h with h | ⟨k, _, h2, _⟩
  · omega
  · exact h2
set_option maxRecDepth 100000 in
set_option maxHeartbeats 8000000 in
theorem bits74_any (e : En) (A : Option Addr) (c : Nat) (D : Option Addr) (d : Nat) (w : World) (h : EnAt w e A D) (hw : 0 ≤ e.want ∧ e.want ≤ most) : Calls Try.prog 74 #[enV e A c D d] w fun r w' => r = .returned (.int .i64 (bitsA e)) ∧ Below w.heap.size w w' := by
  unfold most at hw
  have HE := Lib.hid h
  have HW := Lib.hid hw
  clear h hw
  unfold enV
  go_enter Try.func74, Try.ntmps74
  obtain ⟨W, hW⟩ : ∃ W, w.alloc (.cells #[.int .i64 e.life, .int .i64 e.peer, .int .i64 e.phase, .int .i64 e.base, .slice A e.out.length c, .int .i64 e.want, .slice D e.inn.length d] 26) = W := ⟨_, rfl⟩
  have HBW : Hid (Below w.heap.size w W) := by rw [← hW]; exact (Below.refl _ w).alloc (Nat.le_refl _) _
  have HKW : Hid (Blk W w.heap.size (.cells (enB e A c D d) 26)) := by rw [← hW]; exact Blk.new _ _
  go_wp2
  clear hW
  go_loopg [3, 4, 5] 3 (fun g s p iv wr => ∃ k : Nat, k + g = 3 ∧ s = .int .i64 (bitS e.inn e.want k) ∧ p = .int .i64 ((2 ^ k : Nat) : Int) ∧ iv = .int .i64 (k : Int) ∧ Below W.heap.size W wr)
  case atStart => exact ⟨0, rfl, rfl, rfl, rfl, Below.refl _ _⟩
  case round =>
    obtain ⟨k, hk, rfl, rfl, rfl, hB⟩ := hrel
    have HK := Lib.hid hk
    have HB := Lib.hid hB
    have hb := bitS_bound e.inn e.want k
    have HS1 : Hid (bitS e.inn e.want (k + 1) = bitS e.inn e.want k + if hasN e.inn (e.want + 1 + (k : Int)) then ((2 ^ k : Nat) : Int) else 0) := rfl
    obtain ⟨S, hS⟩ : ∃ S, bitS e.inn e.want k = S := ⟨_, rfl⟩
    have hP2 : ((2 ^ (k + 1) : Nat) : Int) = 2 * ((2 ^ k : Nat) : Int) := by rw [Nat.pow_succ]; omega
    have hP4 : k < 3 → (2 ^ k : Nat) ≤ 4 := fun h9 => by
      have : k = 0 ∨ k = 1 ∨ k = 2 := by omega
      rcases this with rfl | rfl | rfl <;> decide
    obtain ⟨P, hP⟩ : ∃ P : Int, ((2 ^ k : Nat) : Int) = P := ⟨_, rfl⟩
    have HP2 := Lib.hid hP2
    have hP4' : k < 3 → P ≤ 4 := fun h9 => by have := hP4 h9; omega
    have HQ : Hid (0 ≤ S ∧ S < P ∧ (k < 3 → P ≤ 4)) := ⟨by rw [← hS]; exact hb.1, by rw [← hS, ← hP]; exact hb.2, hP4'⟩
    rw [hS, hP] at HS1 ⊢
    rw [hP] at HP2
    have H3 := Lib.hid (bitS_three e)
    have HSK := Lib.hid hS
    clear hk hB hb hP2 hP4 hP4' hS hP
    by_cases hlt : (k : Int) < 3
    · have w1 : IntKind.i64.wrap (e.want + 1) = e.want + 1 := wrap_ok ⟨by have := HW.out; omega, by have := HW.out; omega⟩
      have w2 : IntKind.i64.wrap (e.want + 1 + (k : Int)) = e.want + 1 + (k : Int) := wrap_ok ⟨by have := HW.out; omega, by have := HW.out; omega⟩
      have w3 : IntKind.i64.wrap (S + P) = S + P := wrap_ok ⟨by have := HQ.out; omega, by have := HQ.out; omega⟩
      have w4 : IntKind.i64.wrap (2 * P) = 2 * P := wrap_ok ⟨by have := HQ.out; omega, by have := HQ.out; omega⟩
      have w5 : IntKind.i64.wrap ((k : Int) + 1) = (k : Int) + 1 := wrap_ok ⟨by omega, by omega⟩
      have q9 := HKW.out.below HB.out HKW.out.lt
      have x0 := q9.cell 0 (v := .int .i64 e.life) rfl
      have x1 := q9.cell 1 (v := .int .i64 e.peer) rfl
      have x2 := q9.cell 2 (v := .int .i64 e.phase) rfl
      have x3 := q9.cell 3 (v := .int .i64 e.base) rfl
      have x4 := q9.cell 4 (v := .slice A e.out.length c) rfl
      have x5 := q9.cell 5 (v := .int .i64 e.want) rfl
      have x6 := q9.cell 6 (v := .slice D e.inn.length d) rfl
      have xl := q9.lt
      clear q9
      go_wp2_with fail
      refine (has_any e A c D d (e.want + 1 + (k : Int)) wr (HE.out.below (HBW.out.trans (HB.out.mono HBW.out.size)))).mono ?_
      rintro r w9 ⟨z, rfl, hz, hB9⟩
      have HZ := Lib.hid hz
      have HB9 : Hid (Below W.heap.size W w9) := below_in HB.out hB9
      clear hz hB9
      by_cases h0 : 0 ≤ z
      · have q0 : decide (0 ≤ z) = true := decide_eq_true h0
        have HN : Hid (bitS e.inn e.want (k + 1) = S + P) := by show _ = _; rw [HS1.out, HZ.out.pos h0]; rfl
        clear h0
        go_wp2_with fail
        go_roundg (3 - (k + 1))
        case measure => have := HK.out; omega
        case rel => exact ⟨k + 1, by omega, by rw [HN.out], by rw [HP2.out], rfl, HB9.out⟩
      · have q0 : decide (0 ≤ z) = false := decide_eq_false h0
        have HN : Hid (bitS e.inn e.want (k + 1) = S) := by show _ = _; rw [HS1.out, HZ.out.neg (by omega)]; exact Int.add_zero _
        clear h0
        go_wp2_with fail
        go_roundg (3 - (k + 1))
        case measure => have := HK.out; omega
        case rel => exact ⟨k + 1, by omega, by rw [HN.out], by rw [HP2.out], rfl, HB9.out⟩
    · have HS3 : Hid (S = bitsA e) := by
        show _ = _
        rw [← HSK.out, ← H3.out]
        have : k = 3 := by have := HK.out; omega
        rw [this]
      go_wp2
      go_ret
      exact ⟨by rw [HS3.out]; rfl, HBW.out.trans (HB.out.mono HBW.out.size)⟩
end Go.Proofs.Ytejabnoidhlfaaa

/- Contracts of the reference: greeting, report, data. -/
namespace Go.Proofs.Ytejabnoidhlfaaa
open Go.RowKit Go.Maps

section
variable {ops : Array Oper} {rest : List Oper} {op : Oper} {a : Act} {w : World} {Q : Exit → Act → World → Prop}
theorem wpList_store44 {b : Nat} {p0 p : Pk} (hgd : op.guard = none) (x y : Operand) (ho : op.op = .store 44 x y) (h5 : Blk w b (.cells (pkB p0) 44)) (hx : a.eval x = .pointer (some ⟨b, 0, none⟩)) (hy : a.eval y = pkV p)
    (h : wpList Try.prog ops Q rest (a.put op.dst undef) (setPk w b p)) : wpList Try.prog ops Q (op :: rest) a w :=
  wpList_store_mid hgd 44 x y ho b 0 (pkB p) hx hy h5.there (by kernel_rfl) (by simp [pkB, Value.oneCell']) h
end
def zPk : Pk := ⟨0, 0, 0, 0, ⟨#[]⟩, 0, 0⟩
set_option maxRecDepth 100000 in
set_option maxHeartbeats 8000000 in
theorem greeting_any (e : En) (A : Option Addr) (c : Nat) (D : Option Addr) (d : Nat) (w : World) : Calls Try.prog 51 #[enV e A c D d] w fun r w' => r = .returned (pkV (helloA e)) ∧ Below w.heap.size w w' := by
  unfold enV
  go_enter Try.func51, Try.ntmps51
  go_upto_region 1 with fail
  obtain ⟨W, hW⟩ : ∃ W, (w.alloc (.cells #[.int .i64 e.life, .int .i64 e.peer, .int .i64 e.phase, .int .i64 e.base, .slice A e.out.length c, .int .i64 e.want, .slice D e.inn.length d] 26)).alloc (.cells #[.int .i64 0, .int .i64 0, .int .i64 0, .int .i64 0, .string ⟨#[]⟩, .int .i64 0, .int .i64 0] 44) = W := ⟨_, rfl⟩
  have HBW : Hid (Below w.heap.size w W) := by rw [← hW]; exact ((Below.refl _ w).alloc (Nat.le_refl _) _).alloc (by simp) _
  have HKW : Hid (Blk W w.heap.size (.cells (enB e A c D d) 26)) := by rw [← hW]; exact (Blk.new _ _).alloc _
  have HPW : Hid (Blk W (w.heap.size + 1) (.cells (pkB zPk) 44)) := by
    rw [← hW]
    have e1 := Blk.new (w.alloc (.cells (enB e A c D d) 26)) (.cells (pkB zPk) 44)
    rw [World.size_alloc] at e1
    exact e1
  rw [hW]
  clear hW
  have q9 := HKW.out
  have x0 := q9.cell 0 (v := .int .i64 e.life) rfl
  have x1 := q9.cell 1 (v := .int .i64 e.peer) rfl
  have x2 := q9.cell 2 (v := .int .i64 e.phase) rfl
  have x3 := q9.cell 3 (v := .int .i64 e.base) rfl
  have x4 := q9.cell 4 (v := .slice A e.out.length c) rfl
  have x5 := q9.cell 5 (v := .int .i64 e.want) rfl
  have x6 := q9.cell 6 (v := .slice D e.inn.length d) rfl
  have xl := q9.lt
  clear q9
  have q9 := HPW.out
  have y0 := q9.cell 0 (v := .int .i64 0) rfl
  have y1 := q9.cell 1 (v := .int .i64 0) rfl
  have y2 := q9.cell 2 (v := .int .i64 0) rfl
  have y3 := q9.cell 3 (v := .int .i64 0) rfl
  have y4 := q9.cell 4 (v := .string ⟨#[]⟩) rfl
  have y5 := q9.cell 5 (v := .int .i64 0) rfl
  have y6 := q9.cell 6 (v := .int .i64 0) rfl
  have z0 := q9.free 0
  have z1 := q9.free 1
  have z2 := q9.free 2
  have z3 := q9.free 3
  have z4 := q9.free 4
  have z5 := q9.free 5
  have z6 := q9.free 6
  have zl := q9.lt
  clear q9
  go_wp2
  have hl := load44 (w := setPk W (w.heap.size + 1) (helloA e)) (b := w.heap.size + 1) (p := helloA e) (setPk_blk HPW.out _)
  have q : Below w.heap.size w (setPk W (w.heap.size + 1) (helloA e)) := setPk_below HBW.out (by omega) (helloA e)
  exact bodyPost_ret (v := pkV (helloA e)) (results_c rfl rfl hl) rfl ⟨rfl, q⟩
set_option maxRecDepth 100000 in
set_option maxHeartbeats 8000000 in
theorem report52_any (e : En) (A : Option Addr) (c : Nat) (D : Option Addr) (d : Nat) (w : World) (h : EnAt w e A D) (hw : 0 ≤ e.want ∧ e.want ≤ most) : Calls Try.prog 52 #[enV e A c D d] w fun r w' => r = .returned (pkV (reportA e)) ∧ Below w.heap.size w w' := by
  have HE := Lib.hid h
  clear h
  unfold enV
  go_enter Try.func52, Try.ntmps52
  go_upto_region 1 with fail
  obtain ⟨W, hW⟩ : ∃ W, (w.alloc (.cells #[.int .i64 e.life, .int .i64 e.peer, .int .i64 e.phase, .int .i64 e.base, .slice A e.out.length c, .int .i64 e.want, .slice D e.inn.length d] 26)).alloc (.cells #[.int .i64 0, .int .i64 0, .int .i64 0, .int .i64 0, .string ⟨#[]⟩, .int .i64 0, .int .i64 0] 44) = W := ⟨_, rfl⟩
  have HBW : Hid (Below w.heap.size w W) := by rw [← hW]; exact ((Below.refl _ w).alloc (Nat.le_refl _) _).alloc (by simp) _
  have HKW : Hid (Blk W w.heap.size (.cells (enB e A c D d) 26)) := by rw [← hW]; exact (Blk.new _ _).alloc _
  have HPW : Hid (Blk W (w.heap.size + 1) (.cells (pkB zPk) 44)) := by
    rw [← hW]
    have e1 := Blk.new (w.alloc (.cells (enB e A c D d) 26)) (.cells (pkB zPk) 44)
    rw [World.size_alloc] at e1
    exact e1
  rw [hW]
  clear hW
  have hne : ¬ w.heap.size = w.heap.size + 1 := by omega
  refine draw (fun w' => Frame (fun b => b = w.heap.size + 1) W w') 10 rfl (by kernel_rfl) (fun Qd hQd => ?_)
  apply anyI_step 0 rfl (by kernel_rfl)
  focus (intro wI hI Kv hKv; have q9 := HKW.out.frame hI hne; have x0 := q9.cell 0 (v := .int .i64 e.life) rfl; have x1 := q9.cell 1 (v := .int .i64 e.peer) rfl; have x2 := q9.cell 2 (v := .int .i64 e.phase) rfl; have x3 := q9.cell 3 (v := .int .i64 e.base) rfl; have x4 := q9.cell 4 (v := .slice A e.out.length c) rfl; have x5 := q9.cell 5 (v := .int .i64 e.want) rfl; have x6 := q9.cell 6 (v := .slice D e.inn.length d) rfl; have xl := q9.lt; clear q9; go_simp; exact hKv)
  intro Kd hKd
  go_simp
  refine hKd _ ?_
  clear hKd Kd
  apply anyI_step 1 rfl (by kernel_rfl)
  focus (intro wI hI Kv hKv; have q9 := HKW.out.frame hI hne; have x0 := q9.cell 0 (v := .int .i64 e.life) rfl; have x1 := q9.cell 1 (v := .int .i64 e.peer) rfl; have x2 := q9.cell 2 (v := .int .i64 e.phase) rfl; have x3 := q9.cell 3 (v := .int .i64 e.base) rfl; have x4 := q9.cell 4 (v := .slice A e.out.length c) rfl; have x5 := q9.cell 5 (v := .int .i64 e.want) rfl; have x6 := q9.cell 6 (v := .slice D e.inn.length d) rfl; have xl := q9.lt; clear q9; go_simp; exact hKv)
  intro Kd hKd
  go_simp
  refine hKd _ ?_
  clear hKd Kd
  apply anyI_step 2 rfl (by kernel_rfl)
  focus (intro wI hI Kv hKv; have q9 := HKW.out.frame hI hne; have x0 := q9.cell 0 (v := .int .i64 e.life) rfl; have x1 := q9.cell 1 (v := .int .i64 e.peer) rfl; have x2 := q9.cell 2 (v := .int .i64 e.phase) rfl; have x3 := q9.cell 3 (v := .int .i64 e.base) rfl; have x4 := q9.cell 4 (v := .slice A e.out.length c) rfl; have x5 := q9.cell 5 (v := .int .i64 e.want) rfl; have x6 := q9.cell 6 (v := .slice D e.inn.length d) rfl; have xl := q9.lt; clear q9; go_simp; exact hKv)
  intro Kd hKd
  go_simp
  refine hKd _ ?_
  clear hKd Kd
  apply anyI_step 3 rfl (by kernel_rfl)
  focus (intro wI hI Kv hKv; have q9 := HKW.out.frame hI hne; have x0 := q9.cell 0 (v := .int .i64 e.life) rfl; have x1 := q9.cell 1 (v := .int .i64 e.peer) rfl; have x2 := q9.cell 2 (v := .int .i64 e.phase) rfl; have x3 := q9.cell 3 (v := .int .i64 e.base) rfl; have x4 := q9.cell 4 (v := .slice A e.out.length c) rfl; have x5 := q9.cell 5 (v := .int .i64 e.want) rfl; have x6 := q9.cell 6 (v := .slice D e.inn.length d) rfl; have xl := q9.lt; clear q9; go_simp; exact hKv)
  intro Kd hKd
  go_simp
  refine hKd _ ?_
  clear hKd Kd
  apply anyI_step 4 rfl (by kernel_rfl)
  focus (intro wI hI Kv hKv; have q9 := HKW.out.frame hI hne; have x0 := q9.cell 0 (v := .int .i64 e.life) rfl; have x1 := q9.cell 1 (v := .int .i64 e.peer) rfl; have x2 := q9.cell 2 (v := .int .i64 e.phase) rfl; have x3 := q9.cell 3 (v := .int .i64 e.base) rfl; have x4 := q9.cell 4 (v := .slice A e.out.length c) rfl; have x5 := q9.cell 5 (v := .int .i64 e.want) rfl; have x6 := q9.cell 6 (v := .slice D e.inn.length d) rfl; have xl := q9.lt; clear q9; go_simp; exact hKv)
  intro Kd hKd
  go_simp
  refine hKd _ ?_
  clear hKd Kd
  apply anyI_step 5 rfl (by kernel_rfl)
  focus (intro wI hI Kv hKv; have q9 := HKW.out.frame hI hne; have x0 := q9.cell 0 (v := .int .i64 e.life) rfl; have x1 := q9.cell 1 (v := .int .i64 e.peer) rfl; have x2 := q9.cell 2 (v := .int .i64 e.phase) rfl; have x3 := q9.cell 3 (v := .int .i64 e.base) rfl; have x4 := q9.cell 4 (v := .slice A e.out.length c) rfl; have x5 := q9.cell 5 (v := .int .i64 e.want) rfl; have x6 := q9.cell 6 (v := .slice D e.inn.length d) rfl; have xl := q9.lt; clear q9; go_simp; exact hKv)
  intro Kd hKd
  go_simp
  refine hKd _ ?_
  clear hKd Kd
  apply anyI_step 6 rfl (by kernel_rfl)
  focus (intro wI hI Kv hKv; have q9 := HKW.out.frame hI hne; have x0 := q9.cell 0 (v := .int .i64 e.life) rfl; have x1 := q9.cell 1 (v := .int .i64 e.peer) rfl; have x2 := q9.cell 2 (v := .int .i64 e.phase) rfl; have x3 := q9.cell 3 (v := .int .i64 e.base) rfl; have x4 := q9.cell 4 (v := .slice A e.out.length c) rfl; have x5 := q9.cell 5 (v := .int .i64 e.want) rfl; have x6 := q9.cell 6 (v := .slice D e.inn.length d) rfl; have xl := q9.lt; clear q9; go_simp; exact hKv)
  intro Kd hKd
  go_simp
  refine hKd _ ?_
  clear hKd Kd
  refine anyI_one' 7 rfl (by kernel_rfl) ((Frame.refl _ W).drew) (fun Kd hKd => ?_)
  go_wp2_with (go_at_call 74; go_must (refine (bits74_any e A c D d _ (HE.out.below (HBW.out.trans ((Below.refl _ W).drew.mono HBW.out.size))) hw).mono ?_); rintro r w2 ⟨rfl, hB2⟩)
  have HB2 : Hid (Below W.heap.size W w2) := below_in (Below.refl _ W).drew hB2
  clear hB2
  apply anyI_step 8 rfl (by kernel_rfl)
  focus (intro wI hI Kv hKv; go_simp; exact hKv)
  intro Kd hKd
  go_simp
  refine hKd _ ?_
  clear hKd Kd
  have hps := HPW.out.lt
  have HP2 := Lib.hid (HPW.out.below HB2.out hps)
  have HX : Hid (Blk (setPk w2 (w.heap.size + 1) (reportA e)) (w.heap.size + 1) (.cells (pkB (reportA e)) 44) ∧ Below w.heap.size w (setPk w2 (w.heap.size + 1) (reportA e)) ∧ Frame (fun b => b = w.heap.size + 1) W (setPk w2 (w.heap.size + 1) (reportA e))) := by
    refine ⟨setPk_blk HP2.out _, setPk_below (HBW.out.trans (HB2.out.mono HBW.out.size)) (by omega) _, ?_⟩
    have f0 : Frame (fun b => b = w.heap.size + 1) W w2 := Frame.of_all HB2.out
    exact ((((((f0.setCell (p := ⟨_, 0, none⟩) (.inl rfl) _).setCell (p := ⟨_, 1, none⟩) (.inl rfl) _).setCell (p := ⟨_, 2, none⟩) (.inl rfl) _).setCell (p := ⟨_, 3, none⟩) (.inl rfl) _).setCell (p := ⟨_, 4, none⟩) (.inl rfl) _).setCell (p := ⟨_, 5, none⟩) (.inl rfl) _).setCell (p := ⟨_, 6, none⟩) (.inl rfl) _
  refine anyI_one' 9 rfl (by kernel_rfl) ((Frame.of_all HB2.out)) (fun Kd hKd => ?_)
  refine wpList_store44 (p := reportA e) rfl _ _ rfl HP2.out rfl rfl ?_
  refine ⟨rfl, hKd _ _ ?_⟩
  clear hKd Kd
  refine anyI_end (by kernel_rfl) (HX.out.2.2) (hQd _ _ ?_)
  clear hQd Qd
  go_wp2
  have hl := load44 (p := reportA e) HX.out.1
  exact bodyPost_ret (v := pkV (reportA e)) (results_c rfl rfl hl) rfl ⟨rfl, HX.out.2.1⟩
end Go.Proofs.Ytejabnoidhlfaaa

/- Contract of the reference: data. -/
namespace Go.Proofs.Ytejabnoidhlfaaa
open Go.RowKit Go.Maps

set_option maxRecDepth 100000 in
set_option maxHeartbeats 8000000 in
theorem data46_any (e : En) (A : Option Addr) (c : Nat) (D : Option Addr) (d : Nat) (i : Nat) (w : World) (h : EnAt w e A D) (hw : 0 ≤ e.want ∧ e.want ≤ most) (hi : i < e.out.length) (hb : 0 ≤ e.base ∧ e.base ≤ most) (hi2 : (i : Int) ≤ most) : Calls Try.prog 46 #[enV e A c D d, .int .i64 (i : Int)] w fun r w' => r = .returned (pkV (dataA e i)) ∧ Below w.heap.size w w' := by
  unfold most at hb hi2
  have hwr : IntKind.i64.wrap (e.base + (i : Int)) = e.base + (i : Int) := wrap_ok ⟨by omega, by omega⟩
  have HE := Lib.hid h
  clear h hb hi2
  unfold enV
  go_enter Try.func46, Try.ntmps46
  go_upto_region 1 with fail
  obtain ⟨W, hW⟩ : ∃ W, (w.alloc (.cells #[.int .i64 e.life, .int .i64 e.peer, .int .i64 e.phase, .int .i64 e.base, .slice A e.out.length c, .int .i64 e.want, .slice D e.inn.length d] 26)).alloc (.cells #[.int .i64 0, .int .i64 0, .int .i64 0, .int .i64 0, .string ⟨#[]⟩, .int .i64 0, .int .i64 0] 44) = W := ⟨_, rfl⟩
  have HBW : Hid (Below w.heap.size w W) := by rw [← hW]; exact ((Below.refl _ w).alloc (Nat.le_refl _) _).alloc (by simp) _
  have HKW : Hid (Blk W w.heap.size (.cells (enB e A c D d) 26)) := by rw [← hW]; exact (Blk.new _ _).alloc _
  have HPW : Hid (Blk W (w.heap.size + 1) (.cells (pkB zPk) 44)) := by
    rw [← hW]
    have e1 := Blk.new (w.alloc (.cells (enB e A c D d) 26)) (.cells (pkB zPk) 44)
    rw [World.size_alloc] at e1
    exact e1
  rw [hW]
  clear hW
  have hsW := HPW.out.lt
  have q9 := HKW.out
  have x0 := q9.cell 0 (v := .int .i64 e.life) rfl
  have x1 := q9.cell 1 (v := .int .i64 e.peer) rfl
  have x2 := q9.cell 2 (v := .int .i64 e.phase) rfl
  have x3 := q9.cell 3 (v := .int .i64 e.base) rfl
  have x4 := q9.cell 4 (v := .slice A e.out.length c) rfl
  have x5 := q9.cell 5 (v := .int .i64 e.want) rfl
  have x6 := q9.cell 6 (v := .slice D e.inn.length d) rfl
  have xl := q9.lt
  clear q9
  go_wp2_with fail
  refine (report52_any e A c D d W (HE.out.below HBW.out) hw).mono ?_
  rintro r w2 ⟨rfl, hB⟩
  have HB2 := Lib.hid hB
  clear hB x0 x1 x2 x3 x4 x5 x6 xl
  obtain ⟨R, HR⟩ : ∃ R, Hid (reportA e = R) := ⟨_, rfl⟩
  rw [HR.out]
  unfold pkV
  go_upto_region 2 with fail
  obtain ⟨V, hV⟩ : ∃ V, w2.alloc (.cells #[.int .i64 R.kind, .int .i64 R.frm, .int .i64 R.to, .int .i64 R.num, .string R.t, .int .i64 R.ack, .int .i64 R.held] 44) = V := ⟨_, rfl⟩
  have hbV : Below w2.heap.size w2 V := by rw [← hV]; exact (Below.refl _ w2).alloc (Nat.le_refl _) _
  have HB5 : Hid (Blk V w2.heap.size (.cells (pkB R) 44)) := by rw [← hV]; exact Blk.new _ _
  have HBV : Hid (Below W.heap.size W V) := below_in HB2.out hbV
  have HKV := Lib.hid (HKW.out.below HBV.out HKW.out.lt)
  have HPV := Lib.hid (HPW.out.below HBV.out HPW.out.lt)
  have n1 : ¬ w2.heap.size = w.heap.size := by have := HB2.out.size; omega
  have n2 : ¬ w2.heap.size = w.heap.size + 1 := by have := HB2.out.size; omega
  have n3 : ¬ w.heap.size = w2.heap.size := fun e9 => n1 e9.symm
  have n4 : ¬ w.heap.size + 1 = w2.heap.size := fun e9 => n2 e9.symm
  rw [hV]
  clear hV hbV
  obtain ⟨x, xb, xo, hx, hxb, hxi, ht, hh⟩ := ou_at (c := c) (k := i) (HE.out.below HBW.out).out hi
  have HX := Lib.hid hx
  have ht2 := cell_chain HBV.out hxb ht
  have hxV : xb < V.heap.size := Nat.lt_of_lt_of_le hxb HBV.out.size
  clear hh ht
  obtain ⟨b5, hb5⟩ : ∃ b, w2.heap.size = b := ⟨_, rfl⟩
  rw [hb5] at HB5 n1 n2 n3 n4 ⊢
  have HG5 : Hid (w.heap.size ≤ b5) := by have := HB2.out.size; show _ ≤ _; omega
  have nx : ¬ xb = b5 := fun e9 => by
    have := HB2.out.size
    omega
  have q9 := HKV.out
  have x0 := q9.cell 0 (v := .int .i64 e.life) rfl
  have x1 := q9.cell 1 (v := .int .i64 e.peer) rfl
  have x2 := q9.cell 2 (v := .int .i64 e.phase) rfl
  have x3 := q9.cell 3 (v := .int .i64 e.base) rfl
  have x4 := q9.cell 4 (v := .slice A e.out.length c) rfl
  have x5 := q9.cell 5 (v := .int .i64 e.want) rfl
  have x6 := q9.cell 6 (v := .slice D e.inn.length d) rfl
  have xl := q9.lt
  clear q9
  have q9 := HB5.out
  have f0 := q9.free 0
  have f3 := q9.free 3
  have f4 := q9.free 4
  have fl := q9.lt
  have k0 := q9.cell 0 (v := .int .i64 R.kind) rfl
  have k1 := q9.cell 1 (v := .int .i64 R.frm) rfl
  have k2 := q9.cell 2 (v := .int .i64 R.to) rfl
  have k3 := q9.cell 3 (v := .int .i64 R.num) rfl
  have k4 := q9.cell 4 (v := .string R.t) rfl
  have k5 := q9.cell 5 (v := .int .i64 R.ack) rfl
  have k6 := q9.cell 6 (v := .int .i64 R.held) rfl
  clear q9 hx hb5
  have q9 := HPV.out
  have y0 := q9.cell 0 (v := .int .i64 0) rfl
  have y1 := q9.cell 1 (v := .int .i64 0) rfl
  have y2 := q9.cell 2 (v := .int .i64 0) rfl
  have y3 := q9.cell 3 (v := .int .i64 0) rfl
  have y4 := q9.cell 4 (v := .string ⟨#[]⟩) rfl
  have y5 := q9.cell 5 (v := .int .i64 0) rfl
  have y6 := q9.cell 6 (v := .int .i64 0) rfl
  have z0 := q9.free 0
  have z1 := q9.free 1
  have z2 := q9.free 2
  have z3 := q9.free 3
  have z4 := q9.free 4
  have z5 := q9.free 5
  have z6 := q9.free 6
  have zl := q9.lt
  clear q9
  go_wp2
  obtain ⟨P, HP⟩ : ∃ P : Pk, Hid (P = ⟨2, R.frm, R.to, e.base + (i : Int), x.t, R.ack, R.held⟩) := ⟨_, rfl⟩
  have HPE : Hid (dataA e i = P) := by
    show _ = _
    rw [HP.out, ← HR.out]
    unfold dataA
    rw [List.getD_eq_getElem?_getD, HX.out]
    rfl
  obtain ⟨Y, hY⟩ : ∃ Y, ((V.setCell ⟨b5, 0, none⟩ (.int .i64 2)).setCell ⟨b5, 3, none⟩ (.int .i64 (e.base + (i : Int)))).setCell ⟨b5, 4, none⟩ (.string x.t) = Y := ⟨_, rfl⟩
  have g5 : w.heap.size ≤ b5 := HG5.out
  have HBY : Hid (Below w.heap.size w Y) := by rw [← hY]; exact (((HBW.out.trans (HBV.out.mono HBW.out.size)).setCell g5 _).setCell g5 _).setCell g5 _
  have HPY : Hid (Blk Y (w.heap.size + 1) (.cells (pkB zPk) 44)) := by
    rw [← hY]
    exact HPV.out.frame ((((Frame.refl (fun b => b = b5) V).setCell (p := ⟨b5, 0, none⟩) (.inl rfl) _).setCell (p := ⟨b5, 3, none⟩) (.inl rfl) _).setCell (p := ⟨b5, 4, none⟩) (.inl rfl) _) n4
  rw [hY]
  have hl := load44 (w := setPk Y (w.heap.size + 1) P) (b := w.heap.size + 1) (p := P) (setPk_blk HPY.out P)
  have q : Below w.heap.size w (setPk Y (w.heap.size + 1) P) := setPk_below HBY.out (by omega) P
  have HPE2 := HPE.out
  have hP := HP.out
  clear HPE HP
  subst hP
  exact bodyPost_ret (v := pkV _) (results_c rfl rfl hl) rfl ⟨by rw [HPE2], q⟩
end Go.Proofs.Ytejabnoidhlfaaa
