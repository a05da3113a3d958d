/- Contracts and lemmas that the claim uses. -/
import Derived.Test.YtejabnoidhlfaaaV33
set_option maxRecDepth 100000
set_option maxHeartbeats 16000000
namespace Go.Proofs.Ytejabnoidhlfaaa
def taleIx (e : En) (i : Int) (ts : List Ta) : Int := match ts.findIdx? (keyB e i) with
 | some k => (k : Int)
 | none => -1
theorem TaleR.ix {e : En} {i : Int} {ts : List Ta} {z : Int} (h : TaleR e i ts z) : z = taleIx e i ts := by
 unfold taleIx; rcases h with ⟨rfl, h⟩ | ⟨k, t, rfl, hk, hb, hno⟩
 ·rw [List.findIdx?_eq_none_iff.2 h]
 ·have hkl := (List.getElem?_eq_some_iff.1 hk).1; have hke := (List.getElem?_eq_some_iff.1 hk).2; have h2 : ts.findIdx? (keyB e i) = some k := by
   rw [List.findIdx?_eq_some_iff_getElem]; refine ⟨hkl, by rw [hke]; exact hb, fun j hj => ?_⟩; have hjl : j < ts.length := by omega
   have h3 := hno j ts[j] hj (List.getElem?_eq_getElem hjl); rw [h3]; decide
  rw [h2]
def onTale (l : Lp) (i : Int) (f : Ta → Ta) : Lp :=
 let z := taleIx (l.end_ i) i l.tales
 if 0 ≤ z then { l with tales := setAt f z.toNat l.tales } else l
def rSends (l : Lp) (i : Int) (t : ByteArray) : Lp :=
 let r := sendA (l.end_ i) t
 if r.2.2 = 0 then wayA (onTale (l.setEnd i r.1) i (fun v => { v with sent := v.sent ++ textsA r.2.1 })) i r.2.1 else l
def rTakes (l : Lp) (x : Tp) : Lp :=
 let r := takeA (l.end_ x.to) x.p
 let l1 := (onTale l x.to (fun v => { v with lost := v.lost ++ r.2.1.lost })).setEnd x.to r.1
 let l2 := if taleIx r.1 x.to l1.tales < 0 ∧ r.1.phase = 3 then { l1 with tales := l1.tales ++ [⟨x.to, r.1.life, r.1.peer, [], [], []⟩] } else l1
 let l3 := onTale l2 x.to (fun v => { v with sent := v.sent ++ textsA r.2.1.packets, taken := v.taken ++ r.2.1.taken })
 wayA l3 x.to r.2.1.packets
def rDoes (l : Lp) (d : Dd) : Lp :=
 let k := (d.at_ % (l.wire.length : Int)).toNat
 if d.do_ = 1 then rSends l d.end_ d.t
 else if d.do_ = 2 then wayA l d.end_ (tickA (l.end_ d.end_)).1
 else if d.do_ = 3 then
  let r := againA (l.end_ d.end_)
  if r.2 = 0 then l.setEnd d.end_ r.1 else l
 else if l.wire.length = 0 then l
 else match l.wire[k]? with
  | none => l
  | some x =>
   if d.do_ = 6 then wayA l (1 - x.to) [x.p]
   else if d.do_ = 4 then rTakes { l with wire := l.wire.eraseIdx k } x
   else { l with wire := l.wire.eraseIdx k }
def rPlayed (l : List Dd) : Lp × Int := if 200 < l.length then (firstA, 3) else if l.all deedB = false then (firstA, 2) else (l.foldl rDoes firstA, 0)
structure SameL (l r : Lp) : Prop where
 e0 : l.e0 = r.e0
 e1 : l.e1 = r.e1
 wire : l.wire = r.wire
 tales : l.tales = r.tales
 free : l.free = r.free
theorem SameL.show_ {l r : Lp} (h : SameL l r) : showA l = showA r := by
 unfold showA; rw [h.e0, h.e1, h.wire, h.tales]
theorem SameL.end_ {l r : Lp} (h : SameL l r) (i : Int) : l.end_ i = r.end_ i := by
 unfold Lp.end_; rw [h.e0, h.e1]
theorem SameL.refl (l : Lp) : SameL l l := ⟨rfl, rfl, rfl, rfl, rfl⟩
theorem SameL.trans {l r s : Lp} (h : SameL l r) (k : SameL r s) : SameL l s := ⟨h.e0.trans k.e0, h.e1.trans k.e1, h.wire.trans k.wire, h.tales.trans k.tales, h.free.trans k.free⟩
theorem SameL.setEnd {l r : Lp} (h : SameL l r) (i : Int) (e : En) : SameL (l.setEnd i e) (r.setEnd i e) := by
 unfold Lp.setEnd; split
 ·exact ⟨rfl, h.e1, h.wire, h.tales, h.free⟩
 ·exact ⟨h.e0, rfl, h.wire, h.tales, h.free⟩
theorem SameL.way (frm : Int) : ∀ (ps : List Pk) {l r : Lp}, SameL l r → SameL (wayA l frm ps) (wayA r frm ps)
 | [], l, r, h => h
 | p :: ps, l, r, h => by
  rw [wayA, wayA, h.free, h.wire]; refine SameL.way frm ps ?_; split
  ·exact ⟨h.e0, h.e1, rfl, h.tales, rfl⟩
  ·exact h
theorem SameL.onTale {l r : Lp} (h : SameL l r) (i : Int) (f : Ta → Ta) : SameL (onTale l i f) (onTale r i f) := by
 unfold Go.Proofs.Ytejabnoidhlfaaa.onTale; simp only [h.end_, h.tales]; split
 ·exact ⟨h.e0, h.e1, h.wire, rfl, h.free⟩
 ·exact h
end Go.Proofs.Ytejabnoidhlfaaa
namespace Go.Proofs.Ytejabnoidhlfaaa
open Go.RowKit Go.Maps
def HasR (l : List Im) (n z : Int) : Prop := (z = -1 ∧ hasN l n = false) ∨ ∃ k : Nat, z = (k : Int) ∧ hasN l n = true ∧ (∃ x, l[k]? = some x ∧ x.n = n) ∧ ∀ j x, j < k → l[j]? = some x → x.n ≠ n
theorem hasN_none {l : List Im} {n : Int} (h : ∀ j x, j < l.length → l[j]? = some x → x.n ≠ n) : hasN l n = false := by
 unfold hasN; rw [List.any_eq_false]; intro x hx; obtain ⟨j, hj⟩ := List.getElem?_of_mem hx; have hl := (List.getElem?_eq_some_iff.1 hj).1; simpa using h j x hl hj
theorem hasN_some {l : List Im} {n : Int} {k : Nat} {x : Im} (h : l[k]? = some x) (hn : x.n = n) : hasN l n = true := by
 unfold hasN; rw [List.any_eq_true]; exact ⟨x, List.mem_of_getElem? h, by simpa using hn⟩
theorem has_any (e : En) (A : Option Addr) (c : Nat) (D : Option Addr) (d : Nat) (n : Int) (w : World) (h : EnAt w e A D) : Calls Try.prog 77 #[enV e A c D d, .int .i64 n] w fun r w' => ∃ z, r = .returned (.int .i64 z) ∧ HasR e.inn n z ∧ Below w.heap.size w w' := by
 have HE := Lib.hid h; have HL : Hid (e.inn.length ≤ 17592186043904) := by have := h.inn.1; rw [ims_len] at this; show _ ≤ _; omega
 clear h; unfold enV; go_enter Try.func77, Try.ntmps77
 obtain ⟨W, hW⟩ : ∃ W, w.alloc (.cells #[.int .i64 e.life, .int .i64 e.peer, .int .i64 e.phase, .int .i64 e.base, .slice A e.out.length c, .int .i64 e.want, .slice D e.inn.length d] 26) = W := ⟨_, rfl⟩; have HBW : Hid (Below w.heap.size w W) := by rw [← hW]; exact (Below.refl _ w).alloc (Nat.le_refl _) _
 have HKW : Hid (Blk W w.heap.size (.cells (enB e A c D d) 26)) := by rw [← hW]; exact Blk.new _ _
 obtain ⟨x0, x1, x2, x3, x4, x5, x6, xl⟩ := Blk.d7 HKW.out; go_wp2; clear hW; go_loopg [5] e.inn.length (fun g iv wr => ∃ k : Nat, k + g = e.inn.length ∧ iv = .int .i64 (k : Int) ∧ wr = W ∧ ∀ j x, j < k → e.inn[j]? = some x → x.n ≠ n)
 case atStart => exact ⟨0, Nat.zero_add _, rfl, rfl, fun j x hj => absurd hj (Nat.not_lt_zero _)⟩
 case round =>
  obtain ⟨k, hk, rfl, hwr, hno⟩ := hrel; subst hwr; have HK := Lib.hid hk; have HNO := Lib.hid hno; clear hk hno; by_cases hlt : (k : Int) < (e.inn.length : Int)
  ·obtain ⟨x, xb, xo, hx, hxb, hxi, hn, ht⟩ := im_at (c := d) (k := k) (HE.out.below HBW.out).inn (by omega); have hw1 : IntKind.i64.wrap ((k : Int) + 1) = (k : Int) + 1 := wrap_ok ⟨by omega, by have := HL.out; omega⟩; have HX := Lib.hid hx; clear hx; obtain ⟨q, hq⟩ : ∃ q, (x.n == n) = q := ⟨_, rfl⟩; cases q with
   | true =>
    have HN : Hid (x.n = n) := beq_iff_eq.1 hq; go_wp2; go_ret; exact ⟨_, rfl, .inr ⟨k, rfl, hasN_some HX.out HN.out, ⟨x, HX.out, HN.out⟩, HNO.out⟩, HBW.out⟩
   | false =>
    have HN : Hid (x.n ≠ n) := beq_eq_false_iff_ne.1 hq; go_wp2_with fail
    go_roundg (e.inn.length - (k + 1))
    case measure => have := HK.out; omega
    case rel =>
     refine ⟨k + 1, by omega, rfl, rfl, fun j y hj hy => ?_⟩; by_cases e9 : j = k
     ·subst e9; rw [HX.out] at hy; injection hy with hy; rw [← hy]; exact HN.out
     ·exact HNO.out j y (by omega) hy
  ·go_wp2; go_ret; exact ⟨_, rfl, .inl ⟨rfl, hasN_none fun j x hj hx => HNO.out j x (by omega) hx⟩, HBW.out⟩
def bitS (l : List Im) (want : Int) : Nat → Int
 | 0 => 0
 | k + 1 => bitS l want k + if hasN l (want + 1 + (k : Int)) then ((2 ^ k : Nat) : Int) else 0
theorem bitS_three (e : En) : bitS e.inn e.want 3 = bitsA e := by
 unfold bitsA; simp only [bitS]; rw [show e.want + 1 + ((0 : Nat) : Int) = e.want + 1 by omega, show e.want + 1 + ((1 : Nat) : Int) = e.want + 2 by omega, show e.want + 1 + ((2 : Nat) : Int) = e.want + 3 by omega]; split <;> split <;> split <;> rfl
theorem bitS_bound (l : List Im) (want : Int) : ∀ k, 0 ≤ bitS l want k ∧ bitS l want k < (2 ^ k : Nat)
 | 0 => ⟨Int.le_refl _, by show (0 : Int) < ((2 ^ 0 : Nat) : Int); decide⟩
 | k + 1 => by
  have h := bitS_bound l want k; have h2 : ((2 ^ (k + 1) : Nat) : Int) = (2 ^ k : Nat) + (2 ^ k : Nat) := by rw [Nat.pow_succ]; omega
  rw [bitS, h2]; split <;> omega
theorem HasR.neg {l : List Im} {n z : Int} (h : HasR l n z) (hz : z < 0) : hasN l n = false := by
 rcases h with h | ⟨k, h1, _⟩
 ·exact h.2
 ·omega
theorem HasR.pos {l : List Im} {n z : Int} (h : HasR l n z) (hz : 0 ≤ z) : hasN l n = true := by
 rcases h with h | ⟨k, _, h2, _⟩
 ·omega
 ·exact h2
theorem bits74_any (e : En) (A : Option Addr) (c : Nat) (D : Option Addr) (d : Nat) (w : World) (h : EnAt w e A D) (hw : 0 ≤ e.want ∧ e.want ≤ most) : Calls Try.prog 74 #[enV e A c D d] w fun r w' => r = .returned (.int .i64 (bitsA e)) ∧ Below w.heap.size w w' := by
 unfold most at hw; have HE := Lib.hid h; have HW := Lib.hid hw; clear h hw; unfold enV; go_enter Try.func74, Try.ntmps74
 obtain ⟨W, hW⟩ : ∃ W, w.alloc (.cells #[.int .i64 e.life, .int .i64 e.peer, .int .i64 e.phase, .int .i64 e.base, .slice A e.out.length c, .int .i64 e.want, .slice D e.inn.length d] 26) = W := ⟨_, rfl⟩; have HBW : Hid (Below w.heap.size w W) := by rw [← hW]; exact (Below.refl _ w).alloc (Nat.le_refl _) _
 have HKW : Hid (Blk W w.heap.size (.cells (enB e A c D d) 26)) := by rw [← hW]; exact Blk.new _ _
 go_wp2; clear hW; go_loopg [3, 4, 5] 3 (fun g s p iv wr => ∃ k : Nat, k + g = 3 ∧ s = .int .i64 (bitS e.inn e.want k) ∧ p = .int .i64 ((2 ^ k : Nat) : Int) ∧ iv = .int .i64 (k : Int) ∧ Below W.heap.size W wr)
 case atStart => exact ⟨0, rfl, rfl, rfl, rfl, Below.refl _ _⟩
 case round =>
  obtain ⟨k, hk, rfl, rfl, rfl, hB⟩ := hrel; have HK := Lib.hid hk; have HB := Lib.hid hB; have hb := bitS_bound e.inn e.want k; have HS1 : Hid (bitS e.inn e.want (k + 1) = bitS e.inn e.want k + if hasN e.inn (e.want + 1 + (k : Int)) then ((2 ^ k : Nat) : Int) else 0) := rfl; obtain ⟨S, hS⟩ : ∃ S, bitS e.inn e.want k = S := ⟨_, rfl⟩; have hP2 : ((2 ^ (k + 1) : Nat) : Int) = 2 * ((2 ^ k : Nat) : Int) := by rw [Nat.pow_succ]; omega
  have hP4 : k < 3 → (2 ^ k : Nat) ≤ 4 := fun h9 => by
   have : k = 0 ∨ k = 1 ∨ k = 2 := by omega
   rcases this with rfl | rfl | rfl <;> decide
  obtain ⟨P, hP⟩ : ∃ P : Int, ((2 ^ k : Nat) : Int) = P := ⟨_, rfl⟩; have HP2 := Lib.hid hP2; have hP4' : k < 3 → P ≤ 4 := fun h9 => by have := hP4 h9; omega
  have HQ : Hid (0 ≤ S ∧ S < P ∧ (k < 3 → P ≤ 4)) := ⟨by rw [← hS]; exact hb.1, by rw [← hS, ← hP]; exact hb.2, hP4'⟩; rw [hS, hP] at HS1 ⊢; rw [hP] at HP2; have H3 := Lib.hid (bitS_three e); have HSK := Lib.hid hS; clear hk hB hb hP2 hP4 hP4' hS hP; by_cases hlt : (k : Int) < 3
  ·have w1 : IntKind.i64.wrap (e.want + 1) = e.want + 1 := wrap_ok ⟨by have := HW.out; omega, by have := HW.out; omega⟩; have w2 : IntKind.i64.wrap (e.want + 1 + (k : Int)) = e.want + 1 + (k : Int) := wrap_ok ⟨by have := HW.out; omega, by have := HW.out; omega⟩; have w3 : IntKind.i64.wrap (S + P) = S + P := wrap_ok ⟨by have := HQ.out; omega, by have := HQ.out; omega⟩; have w4 : IntKind.i64.wrap (2 * P) = 2 * P := wrap_ok ⟨by have := HQ.out; omega, by have := HQ.out; omega⟩; have w5 : IntKind.i64.wrap ((k : Int) + 1) = (k : Int) + 1 := wrap_ok ⟨by omega, by omega⟩; obtain ⟨x0, x1, x2, x3, x4, x5, x6, xl⟩ := Blk.d7 (HKW.out.below HB.out HKW.out.lt); go_wp2_with fail
   refine (has_any e A c D d (e.want + 1 + (k : Int)) wr (HE.out.below (HBW.out.trans (HB.out.mono HBW.out.size)))).mono ?_; rintro r w9 ⟨z, rfl, hz, hB9⟩; have HZ := Lib.hid hz; have HB9 : Hid (Below W.heap.size W w9) := below_in HB.out hB9; clear hz hB9; by_cases h0 : 0 ≤ z
   ·have q0 : decide (0 ≤ z) = true := decide_eq_true h0; have HN : Hid (bitS e.inn e.want (k + 1) = S + P) := by show _ = _; rw [HS1.out, HZ.out.pos h0]; rfl
    clear h0; go_wp2_with fail
    go_roundg (3 - (k + 1))
    case measure => have := HK.out; omega
    case rel => exact ⟨k + 1, by omega, by rw [HN.out], by rw [HP2.out], rfl, HB9.out⟩
   ·have q0 : decide (0 ≤ z) = false := decide_eq_false h0; have HN : Hid (bitS e.inn e.want (k + 1) = S) := by show _ = _; rw [HS1.out, HZ.out.neg (by omega)]; exact Int.add_zero _
    clear h0; go_wp2_with fail
    go_roundg (3 - (k + 1))
    case measure => have := HK.out; omega
    case rel => exact ⟨k + 1, by omega, by rw [HN.out], by rw [HP2.out], rfl, HB9.out⟩
  ·have HS3 : Hid (S = bitsA e) := by
    show _ = _; rw [← HSK.out, ← H3.out]; have : k = 3 := by have := HK.out; omega
    rw [this]
   go_wp2; go_ret; exact ⟨by rw [HS3.out]; rfl, HBW.out.trans (HB.out.mono HBW.out.size)⟩
section
variable {ops : Array Oper} {rest : List Oper} {op : Oper} {a : Act} {w : World} {Q : Exit → Act → World → Prop}
theorem wpList_store44 {b : Nat} {p0 p : Pk} (hgd : op.guard = none) (x y : Operand) (ho : op.op = .store 44 x y) (h5 : Blk w b (.cells (pkB p0) 44)) (hx : a.eval x = .pointer (some ⟨b, 0, none⟩)) (hy : a.eval y = pkV p)
  (h : wpList Try.prog ops Q rest (a.put op.dst undef) (setPk w b p)) : wpList Try.prog ops Q (op :: rest) a w :=
 wpList_store_mid hgd 44 x y ho b 0 (pkB p) hx hy h5.there (by kernel_rfl) (by simp [pkB, Value.oneCell']) h
end
def zPk : Pk := ⟨0, 0, 0, 0, ⟨#[]⟩, 0, 0⟩
theorem greeting_any (e : En) (A : Option Addr) (c : Nat) (D : Option Addr) (d : Nat) (w : World) : Calls Try.prog 51 #[enV e A c D d] w fun r w' => r = .returned (pkV (helloA e)) ∧ Below w.heap.size w w' := by
 unfold enV; go_enter Try.func51, Try.ntmps51
 go_upto_region 1 with fail
 obtain ⟨W, hW⟩ : ∃ W, (w.alloc (.cells #[.int .i64 e.life, .int .i64 e.peer, .int .i64 e.phase, .int .i64 e.base, .slice A e.out.length c, .int .i64 e.want, .slice D e.inn.length d] 26)).alloc (.cells #[.int .i64 0, .int .i64 0, .int .i64 0, .int .i64 0, .string ⟨#[]⟩, .int .i64 0, .int .i64 0] 44) = W := ⟨_, rfl⟩; have HBW : Hid (Below w.heap.size w W) := by rw [← hW]; exact ((Below.refl _ w).alloc (Nat.le_refl _) _).alloc (by simp) _
 have HKW : Hid (Blk W w.heap.size (.cells (enB e A c D d) 26)) := by rw [← hW]; exact (Blk.new _ _).alloc _
 have HPW : Hid (Blk W (w.heap.size + 1) (.cells (pkB zPk) 44)) := by
  rw [← hW]; have e1 := Blk.new (w.alloc (.cells (enB e A c D d) 26)) (.cells (pkB zPk) 44); rw [World.size_alloc] at e1; exact e1
 rw [hW]; clear hW; obtain ⟨x0, x1, x2, x3, x4, x5, x6, xl⟩ := Blk.d7 HKW.out; have q9 := HPW.out; obtain ⟨y0, y1, y2, y3, y4, y5, y6⟩ := Blk.c7 q9; obtain ⟨z0, z1, z2, z3, z4, z5, z6, zl⟩ := Blk.g7 q9; clear q9; go_wp2; have hl := load44 (w := setPk W (w.heap.size + 1) (helloA e)) (b := w.heap.size + 1) (p := helloA e) (setPk_blk HPW.out _); have q : Below w.heap.size w (setPk W (w.heap.size + 1) (helloA e)) := setPk_below HBW.out (by omega) (helloA e); exact bodyPost_ret (v := pkV (helloA e)) (results_c rfl rfl hl) rfl ⟨rfl, q⟩
theorem report52_any (e : En) (A : Option Addr) (c : Nat) (D : Option Addr) (d : Nat) (w : World) (h : EnAt w e A D) (hw : 0 ≤ e.want ∧ e.want ≤ most) : Calls Try.prog 52 #[enV e A c D d] w fun r w' => r = .returned (pkV (reportA e)) ∧ Below w.heap.size w w' := by
 have HE := Lib.hid h; clear h; unfold enV; go_enter Try.func52, Try.ntmps52
 go_upto_region 1 with fail
 obtain ⟨W, hW⟩ : ∃ W, (w.alloc (.cells #[.int .i64 e.life, .int .i64 e.peer, .int .i64 e.phase, .int .i64 e.base, .slice A e.out.length c, .int .i64 e.want, .slice D e.inn.length d] 26)).alloc (.cells #[.int .i64 0, .int .i64 0, .int .i64 0, .int .i64 0, .string ⟨#[]⟩, .int .i64 0, .int .i64 0] 44) = W := ⟨_, rfl⟩; have HBW : Hid (Below w.heap.size w W) := by rw [← hW]; exact ((Below.refl _ w).alloc (Nat.le_refl _) _).alloc (by simp) _
 have HKW : Hid (Blk W w.heap.size (.cells (enB e A c D d) 26)) := by rw [← hW]; exact (Blk.new _ _).alloc _
 have HPW : Hid (Blk W (w.heap.size + 1) (.cells (pkB zPk) 44)) := by
  rw [← hW]; have e1 := Blk.new (w.alloc (.cells (enB e A c D d) 26)) (.cells (pkB zPk) 44); rw [World.size_alloc] at e1; exact e1
 rw [hW]; clear hW; have hne : ¬ w.heap.size = w.heap.size + 1 := by omega
 refine draw (fun w' => Frame (fun b => b = w.heap.size + 1) W w') 10 rfl (by kernel_rfl) (fun Qd hQd => ?_); iterate 7 (first | apply sI 0 (by rfl) rfl (by kernel_rfl) | apply sI 1 (by rfl) rfl (by kernel_rfl) | apply sI 2 (by rfl) rfl (by kernel_rfl) | apply sI 3 (by rfl) rfl (by kernel_rfl) | apply sI 4 (by rfl) rfl (by kernel_rfl) | apply sI 5 (by rfl) rfl (by kernel_rfl) | apply sI 6 (by rfl) rfl (by kernel_rfl)); (focus intro wI hI Kv hKv; obtain ⟨x0, x1, x2, x3, x4, x5, x6, xl⟩ := Blk.d7 (HKW.out.frame hI hne); go_simp; exact hKv); intro Kd hKd; go_simp; refine hKd _ ?_; clear hKd Kd
 refine anyI_one' 7 rfl (by kernel_rfl) ((Frame.refl _ W).drew) (fun Kd hKd => ?_); go_wp2_with (go_at_call 74; go_must (refine (bits74_any e A c D d _ (HE.out.below (HBW.out.trans ((Below.refl _ W).drew.mono HBW.out.size))) hw).mono ?_); rintro r w2 ⟨rfl, hB2⟩)
 have HB2 : Hid (Below W.heap.size W w2) := below_in (Below.refl _ W).drew hB2; clear hB2; apply anyI_step 8 rfl (by kernel_rfl); (focus intro wI hI Kv hKv; go_simp; exact hKv); intro Kd hKd; go_simp; refine hKd _ ?_; clear hKd Kd
 have hps := HPW.out.lt; have HP2 := Lib.hid (HPW.out.below HB2.out hps); have HX : Hid (Blk (setPk w2 (w.heap.size + 1) (reportA e)) (w.heap.size + 1) (.cells (pkB (reportA e)) 44) ∧ Below w.heap.size w (setPk w2 (w.heap.size + 1) (reportA e)) ∧ Frame (fun b => b = w.heap.size + 1) W (setPk w2 (w.heap.size + 1) (reportA e))) := by
  refine ⟨setPk_blk HP2.out _, setPk_below (HBW.out.trans (HB2.out.mono HBW.out.size)) (by omega) _, ?_⟩; have f0 : Frame (fun b => b = w.heap.size + 1) W w2 := Frame.of_all HB2.out; exact ((((((f0.setCell (p := ⟨_, 0, none⟩) (.inl rfl) _).setCell (p := ⟨_, 1, none⟩) (.inl rfl) _).setCell (p := ⟨_, 2, none⟩) (.inl rfl) _).setCell (p := ⟨_, 3, none⟩) (.inl rfl) _).setCell (p := ⟨_, 4, none⟩) (.inl rfl) _).setCell (p := ⟨_, 5, none⟩) (.inl rfl) _).setCell (p := ⟨_, 6, none⟩) (.inl rfl) _
 refine anyI_one' 9 rfl (by kernel_rfl) ((Frame.of_all HB2.out)) (fun Kd hKd => ?_); refine wpList_store44 (p := reportA e) rfl _ _ rfl HP2.out rfl rfl ?_; refine ⟨rfl, hKd _ _ ?_⟩; clear hKd Kd; refine anyI_end (by kernel_rfl) (HX.out.2.2) (hQd _ _ ?_); clear hQd Qd; go_wp2; have hl := load44 (p := reportA e) HX.out.1; exact bodyPost_ret (v := pkV (reportA e)) (results_c rfl rfl hl) rfl ⟨rfl, HX.out.2.1⟩
theorem data46_any (e : En) (A : Option Addr) (c : Nat) (D : Option Addr) (d : Nat) (i : Nat) (w : World) (h : EnAt w e A D) (hw : 0 ≤ e.want ∧ e.want ≤ most) (hi : i < e.out.length) (hb : 0 ≤ e.base ∧ e.base ≤ most) (hi2 : (i : Int) ≤ most) : Calls Try.prog 46 #[enV e A c D d, .int .i64 (i : Int)] w fun r w' => r = .returned (pkV (dataA e i)) ∧ Below w.heap.size w w' := by
 unfold most at hb hi2; have hwr : IntKind.i64.wrap (e.base + (i : Int)) = e.base + (i : Int) := wrap_ok ⟨by omega, by omega⟩; have HE := Lib.hid h; clear h hb hi2; unfold enV; go_enter Try.func46, Try.ntmps46
 go_upto_region 1 with fail
 obtain ⟨W, hW⟩ : ∃ W, (w.alloc (.cells #[.int .i64 e.life, .int .i64 e.peer, .int .i64 e.phase, .int .i64 e.base, .slice A e.out.length c, .int .i64 e.want, .slice D e.inn.length d] 26)).alloc (.cells #[.int .i64 0, .int .i64 0, .int .i64 0, .int .i64 0, .string ⟨#[]⟩, .int .i64 0, .int .i64 0] 44) = W := ⟨_, rfl⟩; have HBW : Hid (Below w.heap.size w W) := by rw [← hW]; exact ((Below.refl _ w).alloc (Nat.le_refl _) _).alloc (by simp) _
 have HKW : Hid (Blk W w.heap.size (.cells (enB e A c D d) 26)) := by rw [← hW]; exact (Blk.new _ _).alloc _
 have HPW : Hid (Blk W (w.heap.size + 1) (.cells (pkB zPk) 44)) := by
  rw [← hW]; have e1 := Blk.new (w.alloc (.cells (enB e A c D d) 26)) (.cells (pkB zPk) 44); rw [World.size_alloc] at e1; exact e1
 rw [hW]; clear hW; have hsW := HPW.out.lt; obtain ⟨x0, x1, x2, x3, x4, x5, x6, xl⟩ := Blk.d7 HKW.out; go_wp2_with fail
 refine (report52_any e A c D d W (HE.out.below HBW.out) hw).mono ?_; rintro r w2 ⟨rfl, hB⟩; have HB2 := Lib.hid hB; clear hB x0 x1 x2 x3 x4 x5 x6 xl; obtain ⟨R, HR⟩ : ∃ R, Hid (reportA e = R) := ⟨_, rfl⟩; rw [HR.out]; unfold pkV; go_upto_region 2 with fail
 obtain ⟨V, hV⟩ : ∃ V, w2.alloc (.cells #[.int .i64 R.kind, .int .i64 R.frm, .int .i64 R.to, .int .i64 R.num, .string R.t, .int .i64 R.ack, .int .i64 R.held] 44) = V := ⟨_, rfl⟩; have hbV : Below w2.heap.size w2 V := by rw [← hV]; exact (Below.refl _ w2).alloc (Nat.le_refl _) _
 have HB5 : Hid (Blk V w2.heap.size (.cells (pkB R) 44)) := by rw [← hV]; exact Blk.new _ _
 have HBV : Hid (Below W.heap.size W V) := below_in HB2.out hbV; have HKV := Lib.hid (HKW.out.below HBV.out HKW.out.lt); have HPV := Lib.hid (HPW.out.below HBV.out HPW.out.lt); have n1 : ¬ w2.heap.size = w.heap.size := by have := HB2.out.size; omega
 have n2 : ¬ w2.heap.size = w.heap.size + 1 := by have := HB2.out.size; omega
 have n3 : ¬ w.heap.size = w2.heap.size := fun e9 => n1 e9.symm; have n4 : ¬ w.heap.size + 1 = w2.heap.size := fun e9 => n2 e9.symm; rw [hV]; clear hV hbV; obtain ⟨x, xb, xo, hx, hxb, hxi, ht, hh⟩ := ou_at (c := c) (k := i) (HE.out.below HBW.out).out hi; have HX := Lib.hid hx; have ht2 := cell_chain HBV.out hxb ht; have hxV : xb < V.heap.size := Nat.lt_of_lt_of_le hxb HBV.out.size; clear hh ht; obtain ⟨b5, hb5⟩ : ∃ b, w2.heap.size = b := ⟨_, rfl⟩; rw [hb5] at HB5 n1 n2 n3 n4 ⊢; have HG5 : Hid (w.heap.size ≤ b5) := by have := HB2.out.size; show _ ≤ _; omega
 have nx : ¬ xb = b5 := fun e9 => by
  have := HB2.out.size; omega
 obtain ⟨x0, x1, x2, x3, x4, x5, x6, xl⟩ := Blk.d7 HKV.out; have q9 := HB5.out; have f0 := q9.free 0; have f3 := q9.free 3; have f4 := q9.free 4; have fl := q9.lt; obtain ⟨k0, k1, k2, k3, k4, k5, k6⟩ := Blk.c7 q9; clear q9 hx hb5; have q9 := HPV.out; obtain ⟨y0, y1, y2, y3, y4, y5, y6⟩ := Blk.c7 q9; obtain ⟨z0, z1, z2, z3, z4, z5, z6, zl⟩ := Blk.g7 q9; clear q9; go_wp2; obtain ⟨P, HP⟩ : ∃ P : Pk, Hid (P = ⟨2, R.frm, R.to, e.base + (i : Int), x.t, R.ack, R.held⟩) := ⟨_, rfl⟩; have HPE : Hid (dataA e i = P) := by
  show _ = _; rw [HP.out, ← HR.out]; unfold dataA; rw [List.getD_eq_getElem?_getD, HX.out]; rfl
 obtain ⟨Y, hY⟩ : ∃ Y, ((V.setCell ⟨b5, 0, none⟩ (.int .i64 2)).setCell ⟨b5, 3, none⟩ (.int .i64 (e.base + (i : Int)))).setCell ⟨b5, 4, none⟩ (.string x.t) = Y := ⟨_, rfl⟩; have g5 : w.heap.size ≤ b5 := HG5.out; have HBY : Hid (Below w.heap.size w Y) := by rw [← hY]; exact (((HBW.out.trans (HBV.out.mono HBW.out.size)).setCell g5 _).setCell g5 _).setCell g5 _
 have HPY : Hid (Blk Y (w.heap.size + 1) (.cells (pkB zPk) 44)) := by
  rw [← hY]; exact HPV.out.frame ((((Frame.refl (fun b => b = b5) V).setCell (p := ⟨b5, 0, none⟩) (.inl rfl) _).setCell (p := ⟨b5, 3, none⟩) (.inl rfl) _).setCell (p := ⟨b5, 4, none⟩) (.inl rfl) _) n4
 rw [hY]; have hl := load44 (w := setPk Y (w.heap.size + 1) P) (b := w.heap.size + 1) (p := P) (setPk_blk HPY.out P); have q : Below w.heap.size w (setPk Y (w.heap.size + 1) P) := setPk_below HBY.out (by omega) P; have HPE2 := HPE.out; have hP := HP.out; clear HPE HP; subst hP; exact bodyPost_ret (v := pkV _) (results_c rfl rfl hl) rfl ⟨by rw [HPE2], q⟩
theorem twin_any (e : En) (A : Option Addr) (c : Nat) (D : Option Addr) (d : Nat) (w : World) (h : EnAt w e A D) (hA : A = none → e.out.length = 0 ∧ c = 0) (hD : D = none → e.inn.length = 0 ∧ d = 0) (hlo : e.out.length ≤ 1000) (hli : e.inn.length ≤ 1000) :
  Calls Try.prog 44 #[enV e A c D d] w fun r w' => ∃ A' c' D' d', r = .returned (enV e A' c' D' d') ∧ w'.ownsRow w.heap.size 71 2 (.slice A' e.out.length c') e.out.length (ous e.out) ∧ w'.ownsRow w.heap.size 73 2 (.slice D' e.inn.length d') e.inn.length (ims e.inn) ∧ Below w.heap.size w w' := by
 have HE := Lib.hid h; clear h; unfold enV; go_enter Try.func44, Try.ntmps44
 go_upto_region 1 with fail
 obtain ⟨W, hW⟩ : ∃ W, (w.alloc (.cells #[.int .i64 e.life, .int .i64 e.peer, .int .i64 e.phase, .int .i64 e.base, .slice A e.out.length c, .int .i64 e.want, .slice D e.inn.length d] 26)).alloc (.cells #[.int .i64 0, .int .i64 0, .int .i64 0, .int .i64 0, .slice none 0 0, .int .i64 0, .slice none 0 0] 26) = W := ⟨_, rfl⟩; have HBW : Hid (Below w.heap.size w W) := by rw [← hW]; exact ((Below.refl _ w).alloc (Nat.le_refl _) _).alloc (by simp) _
 have HKW : Hid (Blk W w.heap.size (.cells (enB e A c D d) 26)) := by rw [← hW]; exact (Blk.new _ _).alloc _
 have HRW : Hid (Blk W (w.heap.size + 1) (.cells (enB noEn none 0 none 0) 26)) := by
  rw [← hW]; have e1 := Blk.new (w.alloc (.cells (enB e A c D d) 26)) (.cells (enB noEn none 0 none 0) 26); rw [World.size_alloc] at e1; exact e1
 rw [hW]; clear hW; have q9 := HKW.out; have x4 := q9.cell 4 (v := .slice A e.out.length c) rfl; have x6 := q9.cell 6 (v := .slice D e.inn.length d) rfl; have xl := q9.lt; clear q9; have HO1 : Hid (W.ownsRow W.heap.size 71 2 (.slice none 0 0) 0 []) := World.ownsRow_nil _ _ _ _; have HC1 := Lib.hid (HE.out.below HBW.out).out; go_upto_region 2 with (at_builtin; go_must (refine wpList_appN rOu _ rfl _ _ rfl HO1.out rfl A e.out.length c (ous e.out) rfl hA HC1.out (ous_len _) (ouC_one _) (by omega) (Nat.le_refl _) ?_); intro v1 w1 hown1 hB1 hg1 hloc1; rw [Nat.zero_add, List.nil_append] at hown1; obtain ⟨A1, c1, rfl⟩ := own_fits hown1; have HK1 := Lib.hid (HKW.out.below hB1 HKW.out.lt); have HB1 := Lib.hid hB1; have HO2 := Lib.hid hown1; have f4 := HK1.out.free 4; have k4 := HK1.out.cell 4 (v := .slice A e.out.length c) rfl; have fl := HK1.out.lt; clear hown1 hB1 hg1 hloc1)
 clear x4 x6 xl; obtain ⟨V, hV⟩ : ∃ V, w1.setCell ⟨w.heap.size, 4, none⟩ (.slice A1 e.out.length c1) = V := ⟨_, rfl⟩; have HKV : Hid (Blk V w.heap.size (.cells (enB e A1 c1 D d) 26)) := by rw [← hV]; exact HK1.out.set 4 _
 have HFV : Hid (Frame (fun b => b = w.heap.size) w1 V) := by rw [← hV]; exact (Frame.refl (fun b => b = w.heap.size) w1).setCell (p := ⟨w.heap.size, 4, none⟩) (.inl rfl) _
 have HO3 : Hid (V.ownsRow W.heap.size 71 2 (.slice A1 e.out.length c1) e.out.length (ous e.out)) := own_frame HO2.out HFV.out (fun g hg e2 => own_ne HO2.out HK1.out (by decide) (by rw [hg, e2])); have HBV : Hid (Below w.heap.size w V) := by rw [← hV]; exact (HBW.out.trans (HB1.out.mono HBW.out.size)).setCell (Nat.le_refl _) _
 have HRV : Hid (Blk V (w.heap.size + 1) (.cells (enB noEn none 0 none 0) 26)) := (HRW.out.below HB1.out HRW.out.lt).frame HFV.out (by show ¬ _ = _; omega); have HSV : Hid (W.heap.size ≤ V.heap.size) := by have h1 := HB1.out.size; have h2 := HFV.out.size; show _ ≤ _; omega
 rw [hV]; clear hV; have HO4 : Hid (V.ownsRow V.heap.size 73 2 (.slice none 0 0) 0 []) := World.ownsRow_nil _ _ _ _; have HC2 := Lib.hid (HE.out.below HBV.out).inn; have q9 := HKV.out; have x6 := q9.cell 6 (v := .slice D e.inn.length d) rfl; have xl := q9.lt; clear q9; go_upto_region 3 with (at_builtin; go_must (refine wpList_appN rIm _ rfl _ _ rfl HO4.out rfl D e.inn.length d (ims e.inn) rfl hD HC2.out (ims_len _) (imC_one _) (by omega) (Nat.le_refl _) ?_); intro v2 w2 hown2 hB2 hg2 hloc2; rw [Nat.zero_add, List.nil_append] at hown2; obtain ⟨D1, d1, rfl⟩ := own_fits hown2; have HK2 := Lib.hid (HKV.out.below hB2 HKV.out.lt); have HB2 := Lib.hid hB2; have HO5 := Lib.hid hown2; have f6 := HK2.out.free 6; have k6 := HK2.out.cell 6 (v := .slice D e.inn.length d) rfl; have fl := HK2.out.lt; clear hown2 hB2 hg2 hloc2)
 clear x6 xl; obtain ⟨U, hU⟩ : ∃ U, w2.setCell ⟨w.heap.size, 6, none⟩ (.slice D1 e.inn.length d1) = U := ⟨_, rfl⟩; have HKU : Hid (Blk U w.heap.size (.cells (enB e A1 c1 D1 d1) 26)) := by rw [← hU]; exact HK2.out.set 6 _
 have HFU : Hid (Frame (fun b => b = w.heap.size) w2 U) := by rw [← hU]; exact (Frame.refl (fun b => b = w.heap.size) w2).setCell (p := ⟨w.heap.size, 6, none⟩) (.inl rfl) _
 have HO6 : Hid (U.ownsRow V.heap.size 73 2 (.slice D1 e.inn.length d1) e.inn.length (ims e.inn)) := own_frame HO5.out HFU.out (fun g hg e2 => own_ne HO5.out HK2.out (by decide) (by rw [hg, e2])); have HO7 : Hid (U.ownsRow W.heap.size 71 2 (.slice A1 e.out.length c1) e.out.length (ous e.out)) := own_frame (own_frame HO3.out (Frame.of_all (S := fun _ => False) HB2.out) (fun _ _ h => h)) HFU.out (fun g hg e2 => own_ne HO3.out HKV.out (by decide) (by rw [hg, e2])); have HBU : Hid (Below w.heap.size w U) := by rw [← hU]; exact (HBV.out.trans (HB2.out.mono HBV.out.size)).setCell (Nat.le_refl _) _
 have HRU : Hid (Blk U (w.heap.size + 1) (.cells (enB noEn none 0 none 0) 26)) := (HRV.out.below HB2.out HRV.out.lt).frame HFU.out (by show ¬ _ = _; omega); rw [hU]; clear hU; obtain ⟨x0, x1, x2, x3, x4, x5, x6, xl⟩ := Blk.d7 HKU.out; have q9 := HRU.out; obtain ⟨z0, z1, z2, z3, z4, z5, z6⟩ := Blk.c7 q9; obtain ⟨u0, u1, u2, u3, u4, u5, u6, ul⟩ := Blk.g7 q9; clear q9; go_wp2; have q := setEn_frame (e := e) (A := A1) (c := c1) (B := D1) (d := d1) (Frame.refl (fun b => b = w.heap.size + 1) U) (.inl rfl); have hl := load26 (setEn_blk (e := e) (A := A1) (c := c1) (B := D1) (d := d1) HRU.out); have hb := setEn_below (e := e) (A := A1) (c := c1) (B := D1) (d := d1) HBU.out (show w.heap.size ≤ w.heap.size + 1 by omega); have ho1 := own_mono (own_frame HO7.out q (fun g hg e2 => own_ne HO7.out HRU.out (by decide) (by rw [hg, e2]))) (show w.heap.size ≤ W.heap.size from HBW.out.size); have ho2 := own_mono (own_frame HO6.out q (fun g hg e2 => own_ne HO6.out HRU.out (by decide) (by rw [hg, e2]))) (show w.heap.size ≤ V.heap.size from HBV.out.size); exact bodyPost_ret (v := enV e A1 c1 D1 d1) (results_c rfl rfl hl) rfl ⟨A1, c1, D1, d1, rfl, ho1, ho2, hb⟩
end Go.Proofs.Ytejabnoidhlfaaa
