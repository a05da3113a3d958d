/- Contracts: Equal, begins, flying, other. -/
import Derived.Test.YtejabnoidhlfaaaDoorS47
import Derived.Test.YtejabnoidhlfaaaDoorS48

/- Contracts: slices.Equal, other, begins, flying. -/
namespace Go.Proofs.YtejabnoidhlfaaaDoor
open Go.RowKit Go.Maps

set_option maxRecDepth 100000 in
set_option maxHeartbeats 8000000 in
theorem equal_any (A : Option Addr) (ca : Nat) (a : List ByteArray) (B : Option Addr) (cb : Nat) (b : List ByteArray) (w : World) (ha : Cells w A (strs a)) (hb : Cells w B (strs b)) :
  Calls Tryd.prog 15 #[.slice A a.length ca, .slice B b.length cb] w fun r w' => r = .returned (.bool (decide (a = b))) ∧ Below w.heap.size w w' := by
 have HLB : Hid (a.length ≤ 17592186043904) := by have := ha.1; rw [strs_len] at this; exact this
 have HA := Lib.hid ha
 have HB := Lib.hid hb
 clear ha hb
 go_enter Tryd.func15, Tryd.ntmps15
 by_cases hl : (a.length : Int) = (b.length : Int)
 rotate_left
 ·have q0 : ((a.length : Int) != (b.length : Int)) = true := by simpa using hl
  have HN : Hid (decide (a = b) = false) := decide_eq_false fun e => hl (by rw [e])
  clear hl
  go_wp2
  go_ret
  exact ⟨by rw [HN.out]; rfl, Below.refl _ _⟩
 have HL : Hid (a.length = b.length) := by show _ = _; omega
 have q0 : ((a.length : Int) != (b.length : Int)) = false := by simpa using hl
 clear hl
 go_wp2
 go_loopg [5, 13] a.length (fun g _v5 iv wr => ∃ k : Nat, k + g = a.length ∧ iv = .int .i64 (k : Int) ∧ a.take k = b.take k ∧ Below w.heap.size w wr)
 case atStart => exact ⟨0, Nat.zero_add _, rfl, rfl, Below.refl _ _⟩
 case round =>
  obtain ⟨k, hk, rfl, htk, hB⟩ := hrel
  have HK := Lib.hid hk
  have HT := Lib.hid htk
  have HBR := Lib.hid hB
  clear hk htk hB
  by_cases hlt : (k : Int) < (a.length : Int)
  ·obtain ⟨x, xb, xo, hx, hxb, hxi, hx0⟩ := st_at (c := ca) (k := k) (HA.out.below HBR.out (Nat.le_refl _)) (by omega)
   obtain ⟨y, yb, yo, hy, hyb, hyi, hy0⟩ := st_at (c := cb) (k := k) (HB.out.below HBR.out (Nat.le_refl _)) (by have := HL.out; omega)
   have HX := Lib.hid hx
   have HY := Lib.hid hy
   have hw1 : IntKind.i64.wrap ((k : Int) + 1) = (k : Int) + 1 := wrap_ok ⟨by omega, by have := HA.out.1; have := HLB.out; omega⟩
   clear hx hy
   have heq : (x.toList == y.toList) = decide (x = y) := toList_eq
   obtain ⟨nb, HNB⟩ : ∃ nb, decide (x = y) = nb := ⟨_, rfl⟩
   go_upto_region 6 with fail
   cases nb with
   | true =>
    have HXY : Hid (x = y) := Lib.hid (of_decide_eq_true HNB)
    refine sall (by kernel_rfl) (by kernel_rfl) (fun Kq hKq => ?_)
    repeat still_step
    refine wpStill_nil (hKq _ ?_)
    clear hKq Kq
    go_wp2_with fail
    go_roundg (a.length - (k + 1))
    case measure => have := HK.out; omega
    case rel => exact ⟨k + 1, by omega, rfl, by rw [take_succ_of HX.out, take_succ_of HY.out, HT.out, HXY.out], HBR.out.drew⟩
   | false =>
    have HN : Hid (decide (a = b) = false) := decide_eq_false fun e => by
     have h1 := HX.out
     rw [e, HY.out] at h1
     injection h1 with h1
     exact of_decide_eq_false HNB h1.symm
    refine sall (by kernel_rfl) (by kernel_rfl) (fun Kq hKq => ?_)
    repeat still_step
    refine wpStill_nil (hKq _ ?_)
    clear hKq Kq
    go_wp2
    go_ret
    exact ⟨by rw [HN.out]; rfl, HBR.out.drew⟩
  ·have HY : Hid (decide (a = b) = true) := decide_eq_true (take_eq_all HL.out HT.out (by omega))
   go_wp2
   go_ret
   exact ⟨by rw [HY.out]; rfl, HBR.out⟩
theorem strs_take {w : World} {A : Option Addr} {l : List ByteArray} (h : Cells w A (strs l)) (n : Nat) : Cells w A (strs (l.take n)) := cells_pre h (by
 have e1 : strs l = strs (l.take n) ++ strs (l.drop n) := by unfold strs; rw [← List.flatMap_append, List.take_append_drop]
 rw [e1]
 exact List.prefix_append _ _)
/-- begins: a list is the beginning of another one. -/
def begB (a b : List ByteArray) : Bool := decide (a.length ≤ b.length) && decide (a = b.take a.length)
theorem begB_pre {a b : List ByteArray} (h : a <+: b) : begB a b = true := by
 obtain ⟨c, rfl⟩ := h
 unfold begB
 rw [decide_eq_true (by rw [List.length_append]; omega), List.take_left, decide_eq_true rfl]
 rfl
set_option maxRecDepth 100000 in
set_option maxHeartbeats 8000000 in
theorem begins_any (A : Option Addr) (ca : Nat) (a : List ByteArray) (B : Option Addr) (cb : Nat) (b : List ByteArray) (w : World) (ha : Cells w A (strs a)) (hb : Cells w B (strs b)) (hc : b.length ≤ cb) :
  Calls Tryd.prog 16 #[.slice A a.length ca, .slice B b.length cb] w fun r w' => r = .returned (.bool (begB a b)) ∧ Below w.heap.size w w' := by
 have HA := Lib.hid ha
 have HB := Lib.hid (strs_take hb a.length)
 clear ha hb
 go_enter Tryd.func16, Tryd.ntmps16
 by_cases hl : (a.length : Int) ≤ (b.length : Int)
 ·have HL : Hid ((b.take a.length).length = a.length) := by show _ = _; rw [List.length_take]; omega
  have HE := Lib.hid (equal_any A ca a B cb (b.take a.length) w HA.out HB.out)
  rw [HL.out] at HE
  have HD : Hid (begB a b = decide (a = b.take a.length)) := by show _ = _; unfold begB; rw [decide_eq_true (by omega), Bool.true_and]
  go_wp2_with (go_at_call 15; go_must (refine HE.out.mono ?_); rintro r w2 ⟨rfl, hB2⟩)
  go_ret
  exact ⟨by rw [HD.out]; rfl, hB2⟩
 ·have HD : Hid (begB a b = false) := by show _ = _; unfold begB; rw [decide_eq_false (by omega), Bool.false_and]
  go_wp2
  go_ret
  exact ⟨by rw [HD.out]; rfl, Below.refl _ _⟩
set_option maxRecDepth 100000 in
set_option maxHeartbeats 8000000 in
theorem flying2_any (e : En) (A : Option Addr) (c : Nat) (D : Option Addr) (d : Nat) (w : World) (hl : e.out.length ≤ 1000) :
  Calls Tryd.prog 17 #[enV e A c D d] w fun r w' => r = .returned (.int .i64 (flyN e : Int)) ∧ Below w.heap.size w w' := by
 unfold enV
 cases hp : (e.phase != 3) with
 | true =>
  have HF : Hid (flyN e = 0) := by show _ = _; unfold flyN; rw [if_neg (by simpa using hp)]
  go_enter Tryd.func17, Tryd.ntmps17
  go_wp2
  go_ret
  exact ⟨by rw [HF.out]; rfl, (Below.refl _ w).alloc (Nat.le_refl _) _⟩
 | false =>
  have HF : Hid (flyN e = min e.out.length 4) := by show _ = _; unfold flyN; rw [if_pos (by simpa using hp)]
  have hmin : min (e.out.length : Int) 4 = ((min e.out.length 4 : Nat) : Int) := by omega
  go_enter Tryd.func17, Tryd.ntmps17
  go_wp2
  go_ret
  exact ⟨by rw [HF.out]; rfl, (Below.refl _ w).alloc (Nat.le_refl _) _⟩
end Go.Proofs.YtejabnoidhlfaaaDoor

/- Contract: other. -/
namespace Go.Proofs.YtejabnoidhlfaaaDoor
open Go.RowKit Go.Maps

def tzV (z : Tz) : Value := .agg #[.int .i64 z.v.end_, .int .i64 z.v.life, .int .i64 z.v.peer, .slice z.S z.v.sent.length z.cs, .slice z.L z.v.lost.length z.cl, .slice z.K z.v.taken.length z.ck]
def tzB (z : Tz) : Array Value := #[.int .i64 z.v.end_, .int .i64 z.v.life, .int .i64 z.v.peer, .slice z.S z.v.sent.length z.cs, .slice z.L z.v.lost.length z.cl, .slice z.K z.v.taken.length z.ck]
def noTz : Tz := ⟨⟨0, 0, 0, [], [], []⟩, none, 0, none, 0, none, 0⟩
theorem tza {w : World} {A : Option Addr} {l : List Tz} {c k : Nat} (h : Cells w A (tzs l)) (hk : k < l.length) : ∃ z b o, l[k]? = some z ∧ b < w.heap.size ∧ (∀ w', (Instr.indexAt 26 (.slice A l.length c) (.int .i64 (k : Int))).run Tryd.prog w' = .ok (.pointer (some ⟨b, o, none⟩)) w') ∧
  w.cell? ⟨b, o, none⟩ = some (.int .i64 z.v.end_) ∧ w.cell? ⟨b, o + 1, none⟩ = some (.int .i64 z.v.life) ∧ w.cell? ⟨b, o + 2, none⟩ = some (.int .i64 z.v.peer) ∧ w.cell? ⟨b, o + 3, none⟩ = some (.slice z.S z.v.sent.length z.cs) ∧
  w.cell? ⟨b, o + 4, none⟩ = some (.slice z.L z.v.lost.length z.cl) ∧ w.cell? ⟨b, o + 5, none⟩ = some (.slice z.K z.v.taken.length z.ck) := by
 obtain ⟨x, b, o, hx, hb, hix, hc⟩ := flat_at (c := c) h tzC_len Tryd.underlying26 rTz.size_eq (by decide) hk
 exact ⟨x, b, o, hx, hb, hix, hc 0 _ rfl, hc 1 _ rfl, hc 2 _ rfl, hc 3 _ rfl, hc 4 _ rfl, hc 5 _ rfl⟩
theorem tale_first : ∀ {l : List Tz} {k : Nat} {z : Tz} {i a b : Int}, l[k]? = some z → isKey i a b z.v = true → (∀ (j : Nat) u, j < k → l[j]? = some u → isKey i a b u.v = false) → tale (l.map Tz.v) i a b = some z.v
 | [], k, z, i, a, b, h, _, _ => by simp at h
 | y :: l, 0, z, i, a, b, h, hk, _ => by
  have e : y = z := by simpa using h
  subst e
  unfold tale
  rw [List.map_cons, List.find?_cons, hk]
 | y :: l, k + 1, z, i, a, b, h, hk, hn => by
  have h0 := hn 0 y (by omega) rfl
  have ih := tale_first (l := l) (k := k) (by simpa using h) hk (fun j u hj hu => hn (j + 1) u (by omega) (by simpa using hu))
  unfold tale at ih ⊢
  rw [List.map_cons, List.find?_cons, h0]
  exact ih
theorem tale_not {l : List Tz} {i a b : Int} (h : ∀ (j : Nat) u, j < l.length → l[j]? = some u → isKey i a b u.v = false) : tale (l.map Tz.v) i a b = none := by
 unfold tale
 rw [List.find?_eq_none]
 intro x hx
 obtain ⟨u, hu, rfl⟩ := List.mem_map.1 hx
 obtain ⟨j, hj⟩ := List.mem_iff_getElem?.1 hu
 rw [h j u (List.getElem?_eq_some_iff.1 hj).1 hj]
 decide
/-- What other answers. -/
def OtPost (zs : List Tz) (z : Tz) (r : Ending) : Prop := ∃ u is, r = .returned (.tuple #[tzV u, .bool is]) ∧ ((is = true ∧ u ∈ zs ∧ tale (zs.map Tz.v) (1 - z.v.end_) z.v.peer z.v.life = some u.v) ∨ (is = false ∧ u = noTz ∧ tale (zs.map Tz.v) (1 - z.v.end_) z.v.peer z.v.life = none))
set_option maxRecDepth 100000 in
set_option maxHeartbeats 8000000 in
theorem other_any (EV WV : Value) (TA : Option Addr) (ct : Nat) (zs : List Tz) (z : Tz) (w : World) (_hE : EV.oneCell' = true) (_hW : WV.oneCell' = true) (h : Cells w TA (tzs zs)) (hz : z.v.end_ = 0 ∨ z.v.end_ = 1) :
  Calls Tryd.prog 14 #[.agg #[EV, WV, .slice TA zs.length ct], tzV z] w fun r w' => OtPost zs z r ∧ Below w.heap.size w w' := by
 have HC := Lib.hid h
 have hwe : IntKind.i64.wrap (1 - z.v.end_) = 1 - z.v.end_ := wrap_ok ⟨by omega, by omega⟩
 clear h hz
 unfold tzV
 go_enter Tryd.func14, Tryd.ntmps14
 go_wp2_with fail
 obtain ⟨W, hW'⟩ : ∃ W, ((w.alloc (.cells #[EV, WV, .slice TA zs.length ct] 28)).alloc (.cells #[.int .i64 z.v.end_, .int .i64 z.v.life, .int .i64 z.v.peer, .slice z.S z.v.sent.length z.cs, .slice z.L z.v.lost.length z.cl, .slice z.K z.v.taken.length z.ck] 57)).alloc (.cells #[.int .i64 0, .int .i64 0, .int .i64 0, .slice none 0 0, .slice none 0 0, .slice none 0 0] 57) = W := ⟨_, rfl⟩
 have HBW : Hid (Below w.heap.size w W) := by rw [← hW']; exact (((Below.refl _ w).alloc (Nat.le_refl _) _).alloc (by simp) _).alloc (by simp; omega) _
 have HTW : Hid (Blk W (w.heap.size + 1) (.cells (tzB z) 57)) := by
  rw [← hW']
  have e1 := (Blk.new (w.alloc (.cells #[EV, WV, .slice TA zs.length ct] 28)) (.cells (tzB z) 57)).alloc (.cells (tzB noTz) 57)
  rw [World.size_alloc] at e1
  exact e1
 have HKW : Hid (Blk W (w.heap.size + 1 + 1) (.cells (tzB noTz) 57)) := by
  rw [← hW']
  have e1 := Blk.new ((w.alloc (.cells #[EV, WV, .slice TA zs.length ct] 28)).alloc (.cells (tzB z) 57)) (.cells (tzB noTz) 57)
  rw [World.size_alloc, World.size_alloc] at e1
  exact e1
 rw [hW']
 clear hW'
 go_loopg [11] zs.length (fun g iv wr => ∃ k : Nat, k + g = zs.length ∧ iv = .int .i64 (k : Int) ∧ (∀ (j : Nat) u, j < k → zs[j]? = some u → isKey (1 - z.v.end_) z.v.peer z.v.life u.v = false) ∧ Below W.heap.size W wr)
 case atStart => exact ⟨0, Nat.zero_add _, rfl, fun j u hj => absurd hj (Nat.not_lt_zero _), Below.refl _ _⟩
 case round =>
  obtain ⟨k, hk, rfl, hno, hB⟩ := hrel
  have HK := Lib.hid hk
  have HNO := Lib.hid hno
  have HBR := Lib.hid hB
  have HTR := Lib.hid (HTW.out.below hB HTW.out.lt)
  have HKR := Lib.hid (HKW.out.below hB HKW.out.lt)
  have HBX0 : Hid (Below w.heap.size w wr) := HBW.out.trans (hB.mono HBW.out.size)
  have t9 := HTR.out
  have t0 := t9.cell 0 (v := .int .i64 z.v.end_) rfl
  have t1 := t9.cell 1 (v := .int .i64 z.v.life) rfl
  have t2 := t9.cell 2 (v := .int .i64 z.v.peer) rfl
  have tl := t9.lt
  clear hk hno hB t9
  by_cases hlt : (k : Int) < (zs.length : Int)
  ·obtain ⟨u, b, o, hu, hb, hix, c0, c1, c2, c3, c4, c5⟩ := tza (c := ct) (k := k) (HC.out.below HBX0.out (Nat.le_refl _)) (by omega)
   have HU := Lib.hid hu
   have hw1 : IntKind.i64.wrap ((k : Int) + 1) = (k : Int) + 1 := wrap_ok ⟨by omega, by have := HC.out.1; rw [tzs_len] at this; omega⟩
   clear hu
   by_cases k1 : u.v.end_ = 1 - z.v.end_
   ·by_cases k2 : u.v.life = z.v.peer
    ·by_cases k3 : u.v.peer = z.v.life
     ·have b1 : (u.v.end_ == 1 - z.v.end_) = true := beq_iff_eq.2 k1
      have b2 : (u.v.life == z.v.peer) = true := beq_iff_eq.2 k2
      have b3 : (u.v.peer == z.v.life) = true := beq_iff_eq.2 k3
      have HY : Hid (OtPost zs z (.returned (.tuple #[tzV u, .bool true]))) := ⟨u, true, rfl, .inl ⟨rfl, List.mem_of_getElem? HU.out, tale_first HU.out (isKey_iff.2 ⟨k1, k2, k3⟩) HNO.out⟩⟩
      clear k1 k2 k3
      go_upto_region 5 with fail
      obtain ⟨X, hX⟩ : ∃ X, wr.alloc (.cells #[.int .i64 u.v.end_, .int .i64 u.v.life, .int .i64 u.v.peer, .slice u.S u.v.sent.length u.cs, .slice u.L u.v.lost.length u.cl, .slice u.K u.v.taken.length u.ck] 57) = X := ⟨_, rfl⟩
      have HKX : Hid (Blk X (w.heap.size + 1 + 1) (.cells (tzB noTz) 57)) := by rw [← hX]; exact HKR.out.alloc _
      have HBX : Hid (Below w.heap.size w X) := by rw [← hX]; exact HBX0.out.alloc HBX0.out.size _
      have HUX : Hid (Blk X wr.heap.size (.cells (tzB u) 57)) := by rw [← hX]; exact Blk.new _ _
      rw [hX]
      have x9 := HUX.out
      have x0 := x9.cell 0 (v := .int .i64 u.v.end_) rfl
      have x1 := x9.cell 1 (v := .int .i64 u.v.life) rfl
      have x2 := x9.cell 2 (v := .int .i64 u.v.peer) rfl
      have x3 := x9.cell 3 (v := .slice u.S u.v.sent.length u.cs) rfl
      have x4 := x9.cell 4 (v := .slice u.L u.v.lost.length u.cl) rfl
      have x5 := x9.cell 5 (v := .slice u.K u.v.taken.length u.ck) rfl
      have xl := x9.lt
      have y9 := HKX.out
      have y0 := y9.cell 0 (v := .int .i64 0) rfl
      have y1 := y9.cell 1 (v := .int .i64 0) rfl
      have y2 := y9.cell 2 (v := .int .i64 0) rfl
      have y3 := y9.cell 3 (v := .slice none 0 0) rfl
      have y4 := y9.cell 4 (v := .slice none 0 0) rfl
      have y5 := y9.cell 5 (v := .slice none 0 0) rfl
      have f0 := y9.free 0
      have f1 := y9.free 1
      have f2 := y9.free 2
      have f3 := y9.free 3
      have f4 := y9.free 4
      have f5 := y9.free 5
      have yl := y9.lt
      clear hX x9 y9 c0 c1 c2 c3 c4 c5 t0 t1 t2 tl hix
      go_wp2
      obtain ⟨W3, hW3⟩ : ∃ W3, (((((X.setCell ⟨w.heap.size + 1 + 1, 0, none⟩ (.int .i64 (u : Tz).v.end_)).setCell ⟨w.heap.size + 1 + 1, 1, none⟩ (.int .i64 (u : Tz).v.life)).setCell ⟨w.heap.size + 1 + 1, 2, none⟩ (.int .i64 (u : Tz).v.peer)).setCell ⟨w.heap.size + 1 + 1, 3, none⟩ (.slice (u : Tz).S (u : Tz).v.sent.length (u : Tz).cs)).setCell ⟨w.heap.size + 1 + 1, 4, none⟩ (.slice (u : Tz).L (u : Tz).v.lost.length (u : Tz).cl)).setCell ⟨w.heap.size + 1 + 1, 5, none⟩ (.slice (u : Tz).K (u : Tz).v.taken.length (u : Tz).ck) = W3 := ⟨_, rfl⟩
      have HK3 : Hid (Blk W3 (w.heap.size + 1 + 1) (.cells (tzB u) 57)) := by rw [← hW3]; exact (((((HKX.out.set 0 _).set 1 _).set 2 _).set 3 _).set 4 _).set 5 _
      have HB3 : Hid (Below w.heap.size w W3) := by rw [← hW3]; exact (((((HBX.out.setCell (by show _ ≤ w.heap.size + 1 + 1; omega) _).setCell (by show _ ≤ w.heap.size + 1 + 1; omega) _).setCell (by show _ ≤ w.heap.size + 1 + 1; omega) _).setCell (by show _ ≤ w.heap.size + 1 + 1; omega) _).setCell (by show _ ≤ w.heap.size + 1 + 1; omega) _).setCell (by show _ ≤ w.heap.size + 1 + 1; omega) _
      try dsimp only [noTz, List.length_nil] at hW3
      rw [hW3]
      have k9 := HK3.out
      have s0 := k9.cell 0 (v := .int .i64 (u : Tz).v.end_) rfl
      have s1 := k9.cell 1 (v := .int .i64 (u : Tz).v.life) rfl
      have s2 := k9.cell 2 (v := .int .i64 (u : Tz).v.peer) rfl
      have s3 := k9.cell 3 (v := .slice (u : Tz).S (u : Tz).v.sent.length (u : Tz).cs) rfl
      have s4 := k9.cell 4 (v := .slice (u : Tz).L (u : Tz).v.lost.length (u : Tz).cl) rfl
      have s5 := k9.cell 5 (v := .slice (u : Tz).K (u : Tz).v.taken.length (u : Tz).ck) rfl
      clear hW3 k9
      have hl : (loadVar 57 ⟨w.heap.size + 1 + 1, 0, none⟩).run Tryd.prog W3 = .ok (tzV u) W3 := by unfold tzV; go_simp
      refine bodyPost_ret (v := .tuple #[tzV u, .bool true]) (results_ct rfl rfl rfl hl) rfl ⟨HY.out, HB3.out⟩
     ·have b1 : (u.v.end_ == 1 - z.v.end_) = true := beq_iff_eq.2 k1
      have b2 : (u.v.life == z.v.peer) = true := beq_iff_eq.2 k2
      have b3 : (u.v.peer == z.v.life) = false := beq_eq_false_iff_ne.2 k3
      clear k1 k2
      have HNK : Hid (isKey (1 - z.v.end_) z.v.peer z.v.life u.v = false) := by
       show _ = _
       cases hq : isKey (1 - z.v.end_) z.v.peer z.v.life u.v with
       | false => rfl
       | true =>
        obtain ⟨r1, r2, r3⟩ := isKey_iff.1 hq
        exact absurd r3 k3
      clear k3
      go_wp2_with fail
      go_roundg (zs.length - (k + 1))
      case measure => have := HK.out; omega
      case rel => exact ⟨k + 1, by omega, rfl, fun j v hj hv => by
        by_cases e1 : j = k
        ·subst e1
         rw [HU.out] at hv
         injection hv with hv
         rw [← hv]
         exact HNK.out
        ·exact HNO.out j v (by omega) hv, HBR.out.alloc HBR.out.size _⟩
    ·have b1 : (u.v.end_ == 1 - z.v.end_) = true := beq_iff_eq.2 k1
     have b2 : (u.v.life == z.v.peer) = false := beq_eq_false_iff_ne.2 k2
     clear k1
     have HNK : Hid (isKey (1 - z.v.end_) z.v.peer z.v.life u.v = false) := by
      show _ = _
      cases hq : isKey (1 - z.v.end_) z.v.peer z.v.life u.v with
      | false => rfl
      | true =>
       obtain ⟨r1, r2, r3⟩ := isKey_iff.1 hq
       exact absurd r2 k2
     clear k2
     go_wp2_with fail
     go_roundg (zs.length - (k + 1))
     case measure => have := HK.out; omega
     case rel => exact ⟨k + 1, by omega, rfl, fun j v hj hv => by
       by_cases e1 : j = k
       ·subst e1
        rw [HU.out] at hv
        injection hv with hv
        rw [← hv]
        exact HNK.out
       ·exact HNO.out j v (by omega) hv, HBR.out.alloc HBR.out.size _⟩
   ·have b1 : (u.v.end_ == 1 - z.v.end_) = false := beq_eq_false_iff_ne.2 k1
    have HNK : Hid (isKey (1 - z.v.end_) z.v.peer z.v.life u.v = false) := by
     show _ = _
     cases hq : isKey (1 - z.v.end_) z.v.peer z.v.life u.v with
     | false => rfl
     | true =>
      obtain ⟨r1, r2, r3⟩ := isKey_iff.1 hq
      exact absurd r1 k1
    clear k1
    go_wp2_with fail
    go_roundg (zs.length - (k + 1))
    case measure => have := HK.out; omega
    case rel => exact ⟨k + 1, by omega, rfl, fun j v hj hv => by
      by_cases e1 : j = k
      ·subst e1
       rw [HU.out] at hv
       injection hv with hv
       rw [← hv]
       exact HNK.out
      ·exact HNO.out j v (by omega) hv, HBR.out.alloc HBR.out.size _⟩
  ·have hke : k = zs.length := by have := HK.out; omega
   have HY : Hid (OtPost zs z (.returned (.tuple #[tzV noTz, .bool false]))) := ⟨noTz, false, rfl, .inr ⟨rfl, rfl, tale_not (fun j u hj hu => HNO.out j u (by omega) hu)⟩⟩
   have HKX := HKR
   have HBX := HBX0
   have y9 := HKX.out
   have y0 := y9.cell 0 (v := .int .i64 0) rfl
   have y1 := y9.cell 1 (v := .int .i64 0) rfl
   have y2 := y9.cell 2 (v := .int .i64 0) rfl
   have y3 := y9.cell 3 (v := .slice none 0 0) rfl
   have y4 := y9.cell 4 (v := .slice none 0 0) rfl
   have y5 := y9.cell 5 (v := .slice none 0 0) rfl
   have f0 := y9.free 0
   have f1 := y9.free 1
   have f2 := y9.free 2
   have f3 := y9.free 3
   have f4 := y9.free 4
   have f5 := y9.free 5
   have yl := y9.lt
   clear y9 t0 t1 t2 tl hke
   go_wp2
   obtain ⟨W3, hW3⟩ : ∃ W3, (((((wr.setCell ⟨w.heap.size + 1 + 1, 0, none⟩ (.int .i64 (noTz : Tz).v.end_)).setCell ⟨w.heap.size + 1 + 1, 1, none⟩ (.int .i64 (noTz : Tz).v.life)).setCell ⟨w.heap.size + 1 + 1, 2, none⟩ (.int .i64 (noTz : Tz).v.peer)).setCell ⟨w.heap.size + 1 + 1, 3, none⟩ (.slice (noTz : Tz).S (noTz : Tz).v.sent.length (noTz : Tz).cs)).setCell ⟨w.heap.size + 1 + 1, 4, none⟩ (.slice (noTz : Tz).L (noTz : Tz).v.lost.length (noTz : Tz).cl)).setCell ⟨w.heap.size + 1 + 1, 5, none⟩ (.slice (noTz : Tz).K (noTz : Tz).v.taken.length (noTz : Tz).ck) = W3 := ⟨_, rfl⟩
   have HK3 : Hid (Blk W3 (w.heap.size + 1 + 1) (.cells (tzB noTz) 57)) := by rw [← hW3]; exact (((((HKX.out.set 0 _).set 1 _).set 2 _).set 3 _).set 4 _).set 5 _
   have HB3 : Hid (Below w.heap.size w W3) := by rw [← hW3]; exact (((((HBX.out.setCell (by show _ ≤ w.heap.size + 1 + 1; omega) _).setCell (by show _ ≤ w.heap.size + 1 + 1; omega) _).setCell (by show _ ≤ w.heap.size + 1 + 1; omega) _).setCell (by show _ ≤ w.heap.size + 1 + 1; omega) _).setCell (by show _ ≤ w.heap.size + 1 + 1; omega) _).setCell (by show _ ≤ w.heap.size + 1 + 1; omega) _
   try dsimp only [noTz, List.length_nil] at hW3
   rw [hW3]
   have k9 := HK3.out
   have s0 := k9.cell 0 (v := .int .i64 (noTz : Tz).v.end_) rfl
   have s1 := k9.cell 1 (v := .int .i64 (noTz : Tz).v.life) rfl
   have s2 := k9.cell 2 (v := .int .i64 (noTz : Tz).v.peer) rfl
   have s3 := k9.cell 3 (v := .slice (noTz : Tz).S (noTz : Tz).v.sent.length (noTz : Tz).cs) rfl
   have s4 := k9.cell 4 (v := .slice (noTz : Tz).L (noTz : Tz).v.lost.length (noTz : Tz).cl) rfl
   have s5 := k9.cell 5 (v := .slice (noTz : Tz).K (noTz : Tz).v.taken.length (noTz : Tz).ck) rfl
   clear hW3 k9
   have hl : (loadVar 57 ⟨w.heap.size + 1 + 1, 0, none⟩).run Tryd.prog W3 = .ok (tzV noTz) W3 := by unfold tzV; go_simp
   refine bodyPost_ret (v := .tuple #[tzV noTz, .bool false]) (results_ct rfl rfl rfl hl) rfl ⟨HY.out, HB3.out⟩
end Go.Proofs.YtejabnoidhlfaaaDoor
