/- Contracts and lemmas that the claim uses. -/
import Derived.Test.YtejabnoidhlfaaaV27
set_option maxRecDepth 100000
set_option maxHeartbeats 16000000
namespace Go.Proofs.Ytejabnoidhlfaaa
open Go.RowKit Go.Maps
theorem in_any (n lo hi : Int) (w : World) : Calls Try.prog 38 #[.int .i64 n, .int .i64 lo, .int .i64 hi] w fun r w' => r = .returned (.bool (decide (lo ≤ n) && decide (n ≤ hi))) ∧ w' = w := by
 go_enter Try.func38, Try.ntmps38
 obtain ⟨a, ha⟩ : ∃ a, decide (lo ≤ n) = a := ⟨_, rfl⟩; obtain ⟨b, hb⟩ : ∃ b, decide (n ≤ hi) = b := ⟨_, rfl⟩; rw [ha, hb]; cases a with
 | true =>
  go_wp2; go_ret; exact ⟨rfl, rfl⟩
 | false =>
  go_wp2; go_ret; exact ⟨rfl, rfl⟩
theorem flying_any (e : En) (A : Option Addr) (c : Nat) (D : Option Addr) (d : Nat) (w : World) : Calls Try.prog 45 #[enV e A c D d] w fun r w' => r = .returned (.int .i64 (flyN e : Int)) ∧ Below w.heap.size w w' := by
 unfold enV; go_enter Try.func45, Try.ntmps45
 obtain ⟨W, hW⟩ : ∃ W, w.alloc (.cells #[.int .i64 e.life, .int .i64 e.peer, .int .i64 e.phase, .int .i64 e.base, .slice A e.out.length c, .int .i64 e.want, .slice D e.inn.length d] 26) = W := ⟨_, rfl⟩; have HBW : Hid (Below w.heap.size w W) := by rw [← hW]; exact (Below.refl _ w).alloc (Nat.le_refl _) _
 have HKW : Hid (Blk W w.heap.size (.cells (enB e A c D d) 26)) := by rw [← hW]; exact Blk.new _ _
 obtain ⟨x0, x1, x2, x3, x4, x5, x6, xl⟩ := Blk.d7 HKW.out; cases q : (e.phase != 3) with
 | true =>
  have hf : flyN e = 0 := by unfold flyN; rw [if_neg (by simpa using q)]
  rw [hf]; clear hf; go_wp2; go_ret; exact ⟨rfl, HBW.out⟩
 | false =>
  have hp : e.phase = 3 := by simpa using q
  have HF : Hid (flyN e = min e.out.length 4) := by show _ = _; unfold flyN; rw [if_pos hp]
  clear hp; by_cases h4 : (4 : Int) < (e.out.length : Int)
  ·have q4 : decide ((4 : Int) < (e.out.length : Int)) = true := decide_eq_true h4; have hf : flyN e = 4 := by rw [HF.out]; omega
   rw [hf]; clear hf h4; go_wp2; go_ret; exact ⟨rfl, HBW.out⟩
  ·have q4 : decide ((4 : Int) < (e.out.length : Int)) = false := decide_eq_false h4; have hf : flyN e = e.out.length := by rw [HF.out]; omega
   rw [hf]; clear hf h4; go_wp2; go_ret; exact ⟨rfl, HBW.out⟩
def outsB (e : En) : Bool := decide (e.out.length ≤ 12) && outOk (flyN e) 0 e.out
theorem outOk_app (fly : Nat) : ∀ (l m : List Ou) (i : Nat), outOk fly i (l ++ m) = (outOk fly i l && outOk fly (i + l.length) m)
 | [], m, i => by simp [outOk]
 | x :: l, m, i => by
  rw [List.cons_append, outOk, outOk, outOk_app fly l m (i + 1), List.length_cons, show i + 1 + l.length = i + (l.length + 1) by omega]; simp only [Bool.and_assoc]
theorem outOk_step {fly : Nat} {l : List Ou} {k : Nat} {x : Ou} (h : outOk fly 0 (l.take k) = true) (hx : l[k]? = some x) : outOk fly 0 (l.take (k + 1)) = (decide (x.t.size ≤ 20) && (!x.h || (decide (1 ≤ k) && decide (k < fly)))) := by
 have hk := (List.getElem?_eq_some_iff.1 hx).1; rw [take_succ_of hx, outOk_app, h, List.length_take, show min k l.length = k by omega]; simp [outOk]
theorem outOk_no {fly : Nat} {l : List Ou} {k : Nat} (h : outOk fly 0 (l.take k) = false) : outOk fly 0 l = false := by
 have e : outOk fly 0 l = (outOk fly 0 (l.take k) && outOk fly (0 + (l.take k).length) (l.drop k)) := by rw [← outOk_app, List.take_append_drop]
 rw [e, h]; rfl
theorem outs_any (e : En) (A : Option Addr) (c : Nat) (D : Option Addr) (d : Nat) (w : World) (h : Cells w A (ous e.out)) : Calls Try.prog 61 #[enV e A c D d] w fun r w' => r = .returned (.bool (outsB e)) ∧ Below w.heap.size w w' := by
 have HC := Lib.hid h; clear h; unfold enV; go_enter Try.func61, Try.ntmps61
 obtain ⟨W, hW⟩ : ∃ W, w.alloc (.cells #[.int .i64 e.life, .int .i64 e.peer, .int .i64 e.phase, .int .i64 e.base, .slice A e.out.length c, .int .i64 e.want, .slice D e.inn.length d] 26) = W := ⟨_, rfl⟩; have HBW : Hid (Below w.heap.size w W) := by rw [← hW]; exact (Below.refl _ w).alloc (Nat.le_refl _) _
 have HKW : Hid (Blk W w.heap.size (.cells (enB e A c D d) 26)) := by rw [← hW]; exact Blk.new _ _
 obtain ⟨x0, x1, x2, x3, x4, x5, x6, xl⟩ := Blk.d7 HKW.out; by_cases h12 : (12 : Int) < (e.out.length : Int)
 ·have q : decide ((12 : Int) < (e.out.length : Int)) = true := decide_eq_true h12; have HR : Hid (outsB e = false) := by show _ = _; unfold outsB; rw [decide_eq_false (by omega)]; rfl
  clear h12; go_wp2; go_ret; exact ⟨by rw [HR.out]; rfl, HBW.out⟩
 have q : decide ((12 : Int) < (e.out.length : Int)) = false := decide_eq_false h12; have HL : Hid (e.out.length ≤ 12) := by show _ ≤ _; omega
 have HR : Hid (outsB e = outOk (flyN e) 0 e.out) := by show _ = _; unfold outsB; rw [decide_eq_true HL.out]; rfl
 clear h12; go_wp2_with fail
 clear hW x0 x1 x2 x3 x4 x5 x6 xl; go_loopg [3] e.out.length (fun g iv wr => ∃ k : Nat, k + g = e.out.length ∧ iv = .int .i64 (k : Int) ∧ outOk (flyN e) 0 (e.out.take k) = true ∧ Below W.heap.size W wr)
 case atStart => exact ⟨0, Nat.zero_add _, rfl, rfl, Below.refl _ _⟩
 case round =>
  obtain ⟨k, hk, rfl, hok, hB⟩ := hrel; have HK := Lib.hid hk; have HO := Lib.hid hok; have HBR := Lib.hid hB; have HKR := Lib.hid (HKW.out.below hB HKW.out.lt); have HBF : Hid (Below w.heap.size w wr) := HBW.out.trans (hB.mono HBW.out.size); clear hk hok hB; obtain ⟨x0, x1, x2, x3, x4, x5, x6, xl⟩ := Blk.d7 HKR.out; by_cases hlt : (k : Int) < (e.out.length : Int)
  ·obtain ⟨x, xb, xo, hx, hxb, hxi, ht, hh⟩ := ou_at (c := c) (k := k) (HC.out.below HBF.out (Nat.le_refl _)) (by omega); have HX := Lib.hid hx; have HST := Lib.hid (outOk_step HO.out hx); have hw1 : IntKind.i64.wrap ((k : Int) + 1) = (k : Int) + 1 := wrap_ok ⟨by omega, by have := HL.out; omega⟩; obtain ⟨b, HB⟩ : ∃ b, Hid (outOk (flyN e) 0 (e.out.take (k + 1)) = b) := ⟨_, rfl⟩; rw [HB.out] at HST; clear hx; go_upto_region 6 with fail
   go_cut [40] from 8 to 40 (fun v wx => v = .bool (!b) ∧ Below wr.heap.size wr wx)
   case first =>
    by_cases h20 : (20 : Int) < (x.t.size : Int)
    ·have qa : decide ((20 : Int) < (x.t.size : Int)) = true := decide_eq_true h20; obtain rfl : b = false := by rw [HST.out, decide_eq_false (by omega)]; rfl
     clear h20; go_wp2_with fail
     go_meet; exact ⟨rfl, Below.refl _ _⟩
    ·have qa : decide ((20 : Int) < (x.t.size : Int)) = false := decide_eq_false h20; have hd : decide (x.t.size ≤ 20) = true := decide_eq_true (by omega); rw [hd] at HST; clear h20 hd; cases qh : x.h with
     | false =>
      rw [qh] at hh HST; obtain rfl : b = true := HST.out; clear qh; go_wp2_with fail
      go_meet; exact ⟨rfl, Below.refl _ _⟩
     | true =>
      rw [qh] at hh HST; clear qh; by_cases h1 : (k : Int) < 1
      ·have qb : decide ((k : Int) < 1) = true := decide_eq_true h1; obtain rfl : b = false := by rw [HST.out, decide_eq_false (show ¬ 1 ≤ k by omega)]; rfl
       clear h1; go_wp2_with fail
       go_meet; exact ⟨rfl, Below.refl _ _⟩
      ·have qb : decide ((k : Int) < 1) = false := decide_eq_false h1; obtain ⟨F, HF⟩ : ∃ F, Hid (flyN e = F) := ⟨_, rfl⟩; have hd : decide (1 ≤ k) = true := decide_eq_true (by omega); rw [hd, HF.out] at HST; clear h1 hd; go_wp2_with fail
       refine (flying_any e A c D d wr).mono ?_; rintro r w2 ⟨rfl, hB2⟩; rw [HF.out]; have HB2 := Lib.hid hB2; clear hB2; by_cases hf : (F : Int) ≤ (k : Int)
       ·have qc : decide (F ≤ k) = true := decide_eq_true (by omega); obtain rfl : b = false := by rw [HST.out, decide_eq_false (show ¬ k < F by omega)]; rfl
        clear hf; go_wp2_with fail
        go_meet; exact ⟨rfl, HB2.out⟩
       ·have qc : decide (F ≤ k) = false := decide_eq_false (by omega); obtain rfl : b = true := by rw [HST.out, decide_eq_true (show k < F by omega)]; rfl
        clear hf; go_wp2_with fail
        go_meet; exact ⟨rfl, HB2.out⟩
   case rest =>
    obtain ⟨rfl, hbx⟩ := hcut; have HB2 := Lib.hid hbx; clear hbx; cases b with
    | true =>
     go_wp2_with fail
     go_roundg (e.out.length - (k + 1))
     case measure => have := HK.out; omega
     case rel => exact ⟨k + 1, by omega, rfl, HB.out, below_in HBR.out HB2.out⟩
    | false =>
     have HN := Lib.hid (outOk_no HB.out); go_wp2; go_ret; exact ⟨by rw [HR.out, HN.out]; rfl, below_in HBF.out HB2.out⟩
  ·have hke : k = e.out.length := by have := HK.out; omega
   have HY : Hid (outOk (flyN e) 0 e.out = true) := by
    have h1 := HO.out; rw [hke, List.take_length] at h1; exact h1
   clear hke; go_wp2; go_ret; exact ⟨by rw [HR.out, HY.out]; rfl, HBF.out⟩
def lastN : Int → List Im → Int
 | lo, [] => lo
 | _, x :: l => lastN x.n l
theorem inOk_app (want : Int) : ∀ (l m : List Im) (lo : Int), inOk want lo (l ++ m) = (inOk want lo l && inOk want (lastN lo l) m)
 | [], m, lo => by simp [inOk, lastN]
 | x :: l, m, lo => by
  rw [List.cons_append, inOk, inOk, inOk_app want l m x.n, lastN]; simp only [Bool.and_assoc]
theorem lastN_snoc : ∀ (lo : Int) (l : List Im) (x : Im), lastN lo (l ++ [x]) = x.n
 | _, [], _ => rfl
 | _, y :: l, x => lastN_snoc y.n l x
theorem inOk_step {want : Int} {l : List Im} {k : Nat} {x : Im} (h : inOk want want (l.take k) = true) (hx : l[k]? = some x) : inOk want want (l.take (k + 1)) = (decide (lastN want (l.take k) < x.n) && decide (x.n < want + 4) && decide (x.n < most) && decide (x.t.size ≤ 20)) := by
 rw [take_succ_of hx, inOk_app, h, Bool.true_and, inOk, inOk, Bool.and_true]
theorem inOk_no {want : Int} {l : List Im} {k : Nat} (h : inOk want want (l.take k) = false) : inOk want want l = false := by
 have e := inOk_app want (l.take k) (l.drop k) want; rw [List.take_append_drop, h] at e; rw [e]; rfl
theorem lastN_in {want : Int} : ∀ {l : List Im} {lo : Int}, inOk want lo l = true → lo ≤ lastN lo l ∧ (lo ≤ want + 4 → lastN lo l ≤ want + 4)
 | [], lo, _ => ⟨Int.le_refl _, fun h => h⟩
 | x :: l, lo, h => by
  simp only [inOk, Bool.and_eq_true, decide_eq_true_eq] at h; have h1 := lastN_in h.2; rw [lastN]; omega
theorem lastN_ge {want : Int} {l : List Im} (h : inOk want want l = true) : want ≤ lastN want l ∧ lastN want l ≤ want + 4 := by
 have := lastN_in h; omega
theorem ins_any (e : En) (A : Option Addr) (c : Nat) (D : Option Addr) (d : Nat) (w : World) (h : Cells w D (ims e.inn)) (hwt : 0 ≤ e.want ∧ e.want ≤ 1000000000) (hnum : ∀ x ∈ e.inn, -9223372036854775808 ≤ x.n ∧ x.n ≤ 9223372036854775807) : Calls Try.prog 62 #[enV e A c D d] w fun r w' => r = .returned (.bool (inOk e.want e.want e.inn)) ∧ Below w.heap.size w w' := by
 have HC := Lib.hid h; have HW := Lib.hid hwt; have HNM := Lib.hid hnum; clear h hwt hnum; unfold enV; go_enter Try.func62, Try.ntmps62
 obtain ⟨W, hW⟩ : ∃ W, w.alloc (.cells #[.int .i64 e.life, .int .i64 e.peer, .int .i64 e.phase, .int .i64 e.base, .slice A e.out.length c, .int .i64 e.want, .slice D e.inn.length d] 26) = W := ⟨_, rfl⟩; have HBW : Hid (Below w.heap.size w W) := by rw [← hW]; exact (Below.refl _ w).alloc (Nat.le_refl _) _
 have HKW : Hid (Blk W w.heap.size (.cells (enB e A c D d) 26)) := by rw [← hW]; exact Blk.new _ _
 obtain ⟨x0, x1, x2, x3, x4, x5, x6, xl⟩ := Blk.d7 HKW.out; go_wp2_with fail
 clear hW x0 x1 x2 x3 x4 x5 x6 xl; go_loopg [3, 4] e.inn.length (fun g lv iv wr => ∃ k : Nat, k + g = e.inn.length ∧ lv = .int .i64 (lastN e.want (e.inn.take k)) ∧ iv = .int .i64 (k : Int) ∧ inOk e.want e.want (e.inn.take k) = true ∧ Below W.heap.size W wr)
 case atStart => exact ⟨0, Nat.zero_add _, rfl, rfl, rfl, Below.refl _ _⟩
 case round =>
  obtain ⟨k, hk, rfl, rfl, hok, hB⟩ := hrel; have HK := Lib.hid hk; have HO := Lib.hid hok; have HBR := Lib.hid hB; have HKR := Lib.hid (HKW.out.below hB HKW.out.lt); have HBF : Hid (Below w.heap.size w wr) := HBW.out.trans (hB.mono HBW.out.size); have HLG := Lib.hid (lastN_ge hok); clear hk hok hB; obtain ⟨la, HLA⟩ : ∃ la, Hid (lastN e.want (e.inn.take k) = la) := ⟨_, rfl⟩; rw [HLA.out] at HLG ⊢; obtain ⟨x0, x1, x2, x3, x4, x5, x6, xl⟩ := Blk.d7 HKR.out; by_cases hlt : (k : Int) < (e.inn.length : Int)
  ·obtain ⟨x, xb, xo, hx, hxb, hxi, hn, ht⟩ := im_at (c := d) (k := k) (HC.out.below HBF.out (Nat.le_refl _)) (by omega); have HX := Lib.hid hx; have HST := Lib.hid (inOk_step HO.out hx); have HXN := Lib.hid (HNM.out x (List.mem_of_getElem? hx)); have HLN : Hid (lastN e.want (e.inn.take (k + 1)) = x.n) := by show _ = _; rw [take_succ_of hx, lastN_snoc]
   have HKB : Hid (k ≤ 17592186043904) := by have := HC.out.1; rw [ims_len] at this; show _ ≤ _; omega
   have hw1 : IntKind.i64.wrap ((k : Int) + 1) = (k : Int) + 1 := wrap_ok ⟨by omega, by have := HKB.out; omega⟩; obtain ⟨b, HB⟩ : ∃ b, Hid (inOk e.want e.want (e.inn.take (k + 1)) = b) := ⟨_, rfl⟩; rw [HB.out, HLA.out] at HST; unfold most at HST; clear hx; go_upto_region 6 with fail
   obtain ⟨X, hX⟩ : ∃ X, wr.alloc (.cells #[.int .i64 x.n, .string x.t] 73) = X := ⟨_, rfl⟩; have HBX : Hid (Below wr.heap.size wr X) := by rw [← hX]; exact (Below.refl _ wr).alloc (Nat.le_refl _) _
   have HKX : Hid (Blk X wr.heap.size (.cells #[.int .i64 x.n, .string x.t] 73)) := by rw [← hX]; exact Blk.new _ _
   have HEX := Lib.hid (HKR.out.below HBX.out HKR.out.lt); rw [hX]; have z0 := HKX.out.cell 0 (v := .int .i64 x.n) rfl; have z1 := HKX.out.cell 1 (v := .string x.t) rfl; have zl := HKX.out.lt; clear x0 x1 x2 x3 x4 x5 x6 xl hn ht hX; have x5 := HEX.out.cell 5 (v := .int .i64 e.want) rfl; have xl := HEX.out.lt; go_cut [42] from 8 to 44 (fun v wx => v = .bool (!b) ∧ wx = X)
   case first =>
    by_cases h1 : x.n ≤ la
    ·have qa : decide (x.n ≤ la) = true := decide_eq_true h1; obtain rfl : b = false := by rw [HST.out, decide_eq_false (show ¬ la < x.n by omega)]; rfl
     clear h1; go_wp2_with fail
     go_meet; exact ⟨rfl, rfl⟩
    ·have qa : decide (x.n ≤ la) = false := decide_eq_false h1; have hd : decide (la < x.n) = true := decide_eq_true (by omega); have hw2 : IntKind.i64.wrap (x.n - e.want) = x.n - e.want := wrap_ok (by have h2 := HW.out; have h3 := HXN.out; have h4 := HLG.out; exact ⟨by omega, by omega⟩); rw [hd] at HST; clear h1 hd; by_cases h2 : 4 ≤ x.n - e.want
     ·have qb : decide (4 ≤ x.n - e.want) = true := decide_eq_true h2; obtain rfl : b = false := by rw [HST.out, decide_eq_false (show ¬ x.n < e.want + 4 by omega)]; rfl
      clear h2; go_wp2_with fail
      go_meet; exact ⟨rfl, rfl⟩
     ·have qb : decide (4 ≤ x.n - e.want) = false := decide_eq_false h2; have hd : decide (x.n < e.want + 4) = true := decide_eq_true (by omega); rw [hd] at HST; clear h2 hd; by_cases h3 : 1000000000 ≤ x.n
      ·have qc : decide (1000000000 ≤ x.n) = true := decide_eq_true h3; obtain rfl : b = false := by rw [HST.out, decide_eq_false (show ¬ x.n < 1000000000 by omega)]; rfl
       clear h3; go_wp2_with fail
       go_meet; exact ⟨rfl, rfl⟩
      ·have qc : decide (1000000000 ≤ x.n) = false := decide_eq_false h3; have hd : decide (x.n < 1000000000) = true := decide_eq_true (by omega); rw [hd] at HST; clear h3 hd; by_cases h4 : (20 : Int) < (x.t.size : Int)
       ·have qd : decide ((20 : Int) < (x.t.size : Int)) = true := decide_eq_true h4; obtain rfl : b = false := by rw [HST.out, decide_eq_false (show ¬ x.t.size ≤ 20 by omega)]; rfl
        clear h4; go_wp2_with fail
        go_meet; exact ⟨rfl, rfl⟩
       ·have qd : decide ((20 : Int) < (x.t.size : Int)) = false := decide_eq_false h4; obtain rfl : b = true := by rw [HST.out, decide_eq_true (show x.t.size ≤ 20 by omega)]; rfl
        clear h4; go_wp2_with fail
        go_meet; exact ⟨rfl, rfl⟩
   case rest =>
    obtain ⟨rfl, hwx⟩ := hcut; obtain rfl := hwx.symm; clear hwx; cases b with
    | true =>
     go_wp2_with fail
     go_roundg (e.inn.length - (k + 1))
     case measure => have := HK.out; omega
     case rel => exact ⟨k + 1, by omega, by rw [HLN.out], rfl, HB.out, below_in HBR.out HBX.out⟩
    | false =>
     have HN := Lib.hid (inOk_no HB.out); go_wp2; go_ret; exact ⟨by rw [HN.out]; rfl, below_in HBF.out HBX.out⟩
  ·have hke : k = e.inn.length := by have := HK.out; omega
   have HY : Hid (inOk e.want e.want e.inn = true) := by
    have h1 := HO.out; rw [hke, List.take_length] at h1; exact h1
   clear hke; go_wp2; go_ret; exact ⟨by rw [HY.out]; rfl, HBF.out⟩
def inI (x : Int) : Prop := -9223372036854775808 ≤ x ∧ x ≤ 9223372036854775807
structure Wf (e : En) : Prop where
 base : inI e.base
 inn : ∀ x ∈ e.inn, inI x.n
theorem goodB_eq (e : En) : goodB e = (decide (1 ≤ e.life) && decide (e.life ≤ 1000000000) && (decide (0 ≤ e.peer) && decide (e.peer ≤ 1000000000)) && (decide (0 ≤ e.base) && decide (e.base ≤ 1000000000)) && (decide (0 ≤ e.want) && decide (e.want ≤ 1000000000)) && outsB e && decide ((e.out.length : Int) ≤ 1000000000 - e.base) &&
  (if e.phase = 3 then decide (0 < e.peer) && inOk e.want e.want e.inn
   else decide (e.base = 0) && decide (e.want = 0) && decide (e.inn = []) && ((decide (e.phase = 1) && decide (e.peer = 0)) || (decide (e.phase = 2) && decide (0 < e.peer))))) := by
 have iff : ∀ a b : Bool, (a = true ↔ b = true) → a = b := by decide
 apply iff; unfold goodB outsB most; split
 ·simp only [Bool.and_eq_true, decide_eq_true_eq]; constructor
  ·rintro ⟨⟨⟨⟨⟨⟨⟨⟨⟨⟨h1, h2⟩, h3⟩, h4⟩, h5⟩, h6⟩, h7⟩, h8⟩, h9⟩, h10⟩, h11, h12⟩; exact ⟨⟨⟨⟨⟨⟨⟨h1, h2⟩, h3, h4⟩, h5, by omega⟩, h6, h7⟩, h8, h10⟩, by omega⟩, h11, h12⟩
  ·rintro ⟨⟨⟨⟨⟨⟨⟨h1, h2⟩, h3, h4⟩, h5, _⟩, h6, h7⟩, h8, h10⟩, h9⟩, h11, h12⟩; exact ⟨⟨⟨⟨⟨⟨⟨⟨⟨⟨h1, h2⟩, h3⟩, h4⟩, h5⟩, h6⟩, h7⟩, h8⟩, by omega⟩, h10⟩, h11, h12⟩
 ·simp only [Bool.and_eq_true, decide_eq_true_eq]; constructor
  ·rintro ⟨⟨⟨⟨⟨⟨⟨⟨⟨⟨h1, h2⟩, h3⟩, h4⟩, h5⟩, h6⟩, h7⟩, h8⟩, h9⟩, h10⟩, h11⟩; exact ⟨⟨⟨⟨⟨⟨⟨h1, h2⟩, h3, h4⟩, h5, by omega⟩, h6, h7⟩, h8, h10⟩, by omega⟩, h11⟩
  ·rintro ⟨⟨⟨⟨⟨⟨⟨h1, h2⟩, h3, h4⟩, h5, _⟩, h6, h7⟩, h8, h10⟩, h9⟩, h11⟩; exact ⟨⟨⟨⟨⟨⟨⟨⟨⟨⟨h1, h2⟩, h3⟩, h4⟩, h5⟩, h6⟩, h7⟩, h8⟩, by omega⟩, h10⟩, h11⟩
theorem good_any (e : En) (A : Option Addr) (c : Nat) (D : Option Addr) (d : Nat) (w : World) (h : EnAt w e A D) (hwf : Wf e) : Calls Try.prog 23 #[enV e A c D d] w fun r w' => r = .returned (.bool (goodB e)) ∧ Below w.heap.size w w' := by
 have HE := Lib.hid h; have HWF := Lib.hid hwf; have HGB := Lib.hid (goodB_eq e); clear h hwf; unfold enV; go_enter Try.func23, Try.ntmps23
 obtain ⟨W, hW⟩ : ∃ W, w.alloc (.cells #[.int .i64 e.life, .int .i64 e.peer, .int .i64 e.phase, .int .i64 e.base, .slice A e.out.length c, .int .i64 e.want, .slice D e.inn.length d] 26) = W := ⟨_, rfl⟩; have HBW : Hid (Below w.heap.size w W) := by rw [← hW]; exact (Below.refl _ w).alloc (Nat.le_refl _) _
 have HKW : Hid (Blk W w.heap.size (.cells (enB e A c D d) 26)) := by rw [← hW]; exact Blk.new _ _
 obtain ⟨x0, x1, x2, x3, x4, x5, x6, xl⟩ := Blk.d7 HKW.out; obtain ⟨b1, q1⟩ : ∃ b, (decide (1 ≤ e.life) && decide (e.life ≤ 1000000000)) = b := ⟨_, rfl⟩; obtain ⟨b2, q2⟩ : ∃ b, (decide (0 ≤ e.peer) && decide (e.peer ≤ 1000000000)) = b := ⟨_, rfl⟩; obtain ⟨b3, q3⟩ : ∃ b, (decide (0 ≤ e.base) && decide (e.base ≤ 1000000000)) = b := ⟨_, rfl⟩; obtain ⟨b4, q4⟩ : ∃ b, (decide (0 ≤ e.want) && decide (e.want ≤ 1000000000)) = b := ⟨_, rfl⟩; rw [q1, q2, q3, q4] at HGB; have Q1 := Lib.hid q1; have Q2 := Lib.hid q2; have Q3 := Lib.hid q3; have Q4 := Lib.hid q4; obtain ⟨tb, HTB⟩ : ∃ tb, Hid ((b1 && b2 && b3 && b4 && outsB e && decide ((e.out.length : Int) ≤ 1000000000 - e.base)) = tb) := ⟨_, rfl⟩; rw [HTB.out] at HGB; clear q1 q2 q3 q4; go_upto_region 1 with fail
 go_cut [38] from 3 (fun v wx => v = .bool (!tb) ∧ Below W.heap.size W wx)
 case first =>
  go_wp2_with fail
  refine (in_any e.life _ _ _).mono ?_; rintro r w9 ⟨rfl, hw9⟩; obtain rfl := hw9.symm; clear hw9; rw [Q1.out]; cases b1 with
  | false =>
   obtain rfl : tb = false := by rw [← HTB.out]; rfl
   go_wp2_with fail
   go_meet; exact ⟨rfl, Below.refl _ _⟩
  | true =>
  go_wp2_with fail
  refine (in_any e.peer _ _ _).mono ?_; rintro r w9 ⟨rfl, hw9⟩; obtain rfl := hw9.symm; clear hw9; rw [Q2.out]; cases b2 with
  | false =>
   obtain rfl : tb = false := by rw [← HTB.out]; rfl
   go_wp2_with fail
   go_meet; exact ⟨rfl, Below.refl _ _⟩
  | true =>
  go_wp2_with fail
  refine (in_any e.base _ _ _).mono ?_; rintro r w9 ⟨rfl, hw9⟩; obtain rfl := hw9.symm; clear hw9; rw [Q3.out]; cases b3 with
  | false =>
   obtain rfl : tb = false := by rw [← HTB.out]; rfl
   go_wp2_with fail
   go_meet; exact ⟨rfl, Below.refl _ _⟩
  | true =>
  go_wp2_with fail
  refine (in_any e.want _ _ _).mono ?_; rintro r w9 ⟨rfl, hw9⟩; obtain rfl := hw9.symm; clear hw9; rw [Q4.out]; cases b4 with
  | false =>
   obtain rfl : tb = false := by rw [← HTB.out]; rfl
   go_wp2_with fail
   go_meet; exact ⟨rfl, Below.refl _ _⟩
  | true =>
  obtain ⟨bo, HBO⟩ : ∃ bo, Hid (outsB e = bo) := ⟨_, rfl⟩; rw [HBO.out] at HTB; go_wp2_with fail
  refine (outs_any e A c D d W (HE.out.below HBW.out).out).mono ?_; rintro r w2 ⟨rfl, hB2⟩; rw [HBO.out]; have HB2 := Lib.hid hB2; have HK2 := Lib.hid (HKW.out.below hB2 HKW.out.lt); clear hB2 x0 x1 x2 x3 x4 x5 x6 xl; cases bo with
  | false =>
   obtain rfl : tb = false := by rw [← HTB.out]; rfl
   go_wp2_with fail
   go_meet; exact ⟨rfl, HB2.out⟩
  | true =>
  obtain ⟨x0, x1, x2, x3, x4, x5, x6, xl⟩ := Blk.d7 HK2.out; have hb3 := Q3.out; simp only [Bool.and_eq_true, decide_eq_true_eq] at hb3; have hw1 : IntKind.i64.wrap (1000000000 - e.base) = 1000000000 - e.base := wrap_ok ⟨by omega, by omega⟩; clear hb3; by_cases hl : 1000000000 - e.base < (e.out.length : Int)
  ·have ql : decide (1000000000 - e.base < (e.out.length : Int)) = true := decide_eq_true hl; obtain rfl : tb = false := by rw [← HTB.out, decide_eq_false (show ¬ (e.out.length : Int) ≤ 1000000000 - e.base by omega)]; rfl
   clear hl; go_wp2_with fail
   go_meet; exact ⟨rfl, HB2.out⟩
  ·have ql : decide (1000000000 - e.base < (e.out.length : Int)) = false := decide_eq_false hl; obtain rfl : tb = true := by rw [← HTB.out, decide_eq_true (show (e.out.length : Int) ≤ 1000000000 - e.base by omega)]; rfl
   clear hl; go_wp2_with fail
   go_meet; exact ⟨rfl, HB2.out⟩
 case rest =>
  obtain ⟨rfl, hbx⟩ := hcut; have HKX := Lib.hid (HKW.out.below hbx HKW.out.lt); have HBX : Hid (Below w.heap.size w wc) := HBW.out.trans (hbx.mono HBW.out.size); have HEX := Lib.hid (HE.out.below HBX.out); clear hbx x0 x1 x2 x3 x4 x5 x6 xl hW; cases tb with
  | false =>
   have HV : Hid (goodB e = false) := by show _ = _; rw [HGB.out]; rfl
   go_wp2; go_ret; exact ⟨by rw [HV.out]; rfl, HBX.out⟩
  | true =>
  obtain ⟨x0, x1, x2, x3, x4, x5, x6, xl⟩ := Blk.d7 HKX.out; have HW4 : Hid (0 ≤ e.want ∧ e.want ≤ 1000000000) := by
   have h1 := HTB.out; simp only [Bool.and_eq_true] at h1; have h2 := Q4.out; rw [h1.1.1.2] at h2; show 0 ≤ e.want ∧ e.want ≤ 1000000000; simpa only [Bool.and_eq_true, decide_eq_true_eq] using h2
  cases qp : (e.phase == 3) with
  | true =>
   have hp3 : e.phase = 3 := beq_iff_eq.1 qp; rw [if_pos hp3, Bool.true_and] at HGB; clear hp3; by_cases hpe : 0 < e.peer
   ·have q0 : decide (0 < e.peer) = true := decide_eq_true hpe; rw [q0, Bool.true_and] at HGB; clear hpe; go_wp2_with fail
    refine (ins_any e A c D d wc HEX.out.inn HW4.out HWF.out.inn).mono ?_; rintro r w2 ⟨rfl, hB2⟩; have HB2 := Lib.hid hB2; clear hB2; go_wp2; go_ret; exact ⟨by rw [HGB.out]; rfl, below_in HBX.out HB2.out⟩
   ·have q0 : decide (0 < e.peer) = false := decide_eq_false hpe; rw [q0, Bool.false_and] at HGB; clear hpe; go_wp2; go_ret; exact ⟨by rw [HGB.out]; rfl, HBX.out⟩
  | false =>
   have HPN : Hid (¬ e.phase = 3) := beq_eq_false_iff_ne.1 qp; rw [if_neg HPN.out, Bool.true_and] at HGB; cases k1 : (e.base != 0) with
   | true =>
    have HV : Hid (goodB e = false) := by show _ = _; rw [HGB.out, decide_eq_false (show ¬ e.base = 0 by simpa using k1)]; rfl
    go_wp2; go_ret; exact ⟨by rw [HV.out]; rfl, HBX.out⟩
   | false =>
   have hb0 : decide (e.base = 0) = true := decide_eq_true (by simpa using k1); rw [hb0, Bool.true_and] at HGB; clear hb0; cases k2 : (e.want != 0) with
   | true =>
    have HV : Hid (goodB e = false) := by show _ = _; rw [HGB.out, decide_eq_false (show ¬ e.want = 0 by simpa using k2)]; rfl
    go_wp2; go_ret; exact ⟨by rw [HV.out]; rfl, HBX.out⟩
   | false =>
   have hb0 : decide (e.want = 0) = true := decide_eq_true (by simpa using k2); rw [hb0, Bool.true_and] at HGB; clear hb0; by_cases hi : (0 : Int) < (e.inn.length : Int)
   ·have k3 : decide (0 < e.inn.length) = true := decide_eq_true (by omega); have HV : Hid (goodB e = false) := by
     show _ = _; rw [HGB.out, decide_eq_false (show ¬ e.inn = [] by intro h0; rw [h0] at hi; simp at hi)]; rfl
    clear hi; go_wp2; go_ret; exact ⟨by rw [HV.out]; rfl, HBX.out⟩
   have k3 : decide (0 < e.inn.length) = false := decide_eq_false (by omega); have hi0 : decide (e.inn = []) = true := decide_eq_true (List.eq_nil_of_length_eq_zero (by omega)); rw [hi0, Bool.true_and] at HGB; clear hi hi0; cases k4 : (e.phase == 1) with
   | true =>
    have h1 : e.phase = 1 := beq_iff_eq.1 k4; have k5 : (e.phase == 2) = false := beq_eq_false_iff_ne.2 (by omega); cases k6 : (e.peer == 0) with
    | true =>
     have HV : Hid (goodB e = true) := by show _ = _; rw [HGB.out, decide_eq_true h1, decide_eq_true (show e.peer = 0 by simpa using k6)]; rfl
     clear h1; go_wp2; go_ret; exact ⟨by rw [HV.out]; rfl, HBX.out⟩
    | false =>
     have HV : Hid (goodB e = false) := by show _ = _; rw [HGB.out, decide_eq_true h1, decide_eq_false (show ¬ e.peer = 0 by simpa using k6), decide_eq_false (show ¬ e.phase = 2 by omega)]; rfl
     clear h1; go_wp2; go_ret; exact ⟨by rw [HV.out]; rfl, HBX.out⟩
   | false =>
    have h1 : ¬ e.phase = 1 := beq_eq_false_iff_ne.1 k4; cases k5 : (e.phase == 2) with
    | true =>
     by_cases hpe : 0 < e.peer
     ·have k6 : decide (0 < e.peer) = true := decide_eq_true hpe; have HV : Hid (goodB e = true) := by show _ = _; rw [HGB.out, decide_eq_false h1, decide_eq_true (show e.phase = 2 by simpa using k5), k6]; rfl
      clear h1 hpe; go_wp2; go_ret; exact ⟨by rw [HV.out]; rfl, HBX.out⟩
     ·have k6 : decide (0 < e.peer) = false := decide_eq_false hpe; have HV : Hid (goodB e = false) := by show _ = _; rw [HGB.out, decide_eq_false h1, decide_eq_true (show e.phase = 2 by simpa using k5), k6]; rfl
      clear h1 hpe; go_wp2; go_ret; exact ⟨by rw [HV.out]; rfl, HBX.out⟩
    | false =>
     have HV : Hid (goodB e = false) := by show _ = _; rw [HGB.out, decide_eq_false h1, decide_eq_false (show ¬ e.phase = 2 by simpa using k5)]; rfl
     clear h1; go_wp2; go_ret; exact ⟨by rw [HV.out]; rfl, HBX.out⟩
end Go.Proofs.Ytejabnoidhlfaaa
