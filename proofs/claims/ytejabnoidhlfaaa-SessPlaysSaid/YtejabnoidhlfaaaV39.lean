/- Contracts and lemmas that the claim uses. -/
import Derived.Test.YtejabnoidhlfaaaV38
set_option maxRecDepth 100000
set_option maxHeartbeats 16000000
namespace Go.Proofs.Ytejabnoidhlfaaa
open Go.RowKit Go.Maps
theorem properB_eq (k fr tw nu : Int) (t : ByteArray) (ac he : Int) : properB ⟨k, fr, tw, nu, t, ac, he⟩ = ((decide (1 ≤ fr) && decide (fr ≤ 1000000000)) && ((decide (0 ≤ tw) && decide (tw ≤ 1000000000)) &&
  (if k = 1 then decide (nu = 0) && (decide (t.toList = []) && (decide (ac = 0) && decide (he = 0)))
   else if k = 2 then decide (0 < tw) && ((decide (0 ≤ nu) && decide (nu ≤ 999999999)) && (decide (t.size ≤ 20) && ((decide (0 ≤ ac) && decide (ac ≤ 1000000000)) && (decide (0 ≤ he) && decide (he ≤ 7)))))
   else if k = 3 then decide (0 < tw) && (decide (nu = 0) && (decide (t.toList = []) && ((decide (0 ≤ ac) && decide (ac ≤ 1000000000)) && (decide (0 ≤ he) && decide (he ≤ 7)))))
   else false))) := by
 have ht : decide (t = emptyT) = decide (t.toList = []) := by
  rw [decide_eq_decide]; exact ⟨fun h => by rw [h]; exact nil_list, fun h => size0 h⟩
 have hn : decide (nu < 1000000000) = decide (nu ≤ 999999999) := by rw [decide_eq_decide]; omega
 unfold properB most; simp only [ht, hn]; split
 ·simp only [Bool.and_assoc]
 ·split
  ·simp only [Bool.and_assoc]
  ·split
   ·simp only [Bool.and_assoc]
   ·simp only [Bool.and_false, Bool.and_assoc]
theorem proper57_any (p : Pk) (w : World) : Calls Try.prog 57 #[pkV p] w fun r w' => r = .returned (.bool (properB p)) ∧ Below w.heap.size w w' := by
 obtain ⟨k, fr, tw, nu, t, ac, he⟩ := p; obtain ⟨b1, Q1⟩ : ∃ b, Hid ((decide (1 ≤ fr) && decide (fr ≤ 1000000000)) = b) := ⟨_, rfl⟩; obtain ⟨b2, Q2⟩ : ∃ b, Hid ((decide (0 ≤ tw) && decide (tw ≤ 1000000000)) = b) := ⟨_, rfl⟩; obtain ⟨b3, Q3⟩ : ∃ b, Hid ((decide (0 ≤ nu) && decide (nu ≤ 999999999)) = b) := ⟨_, rfl⟩; obtain ⟨b4, Q4⟩ : ∃ b, Hid ((decide (0 ≤ ac) && decide (ac ≤ 1000000000)) = b) := ⟨_, rfl⟩; obtain ⟨b5, Q5⟩ : ∃ b, Hid ((decide (0 ≤ he) && decide (he ≤ 7)) = b) := ⟨_, rfl⟩; have HPB := Lib.hid (properB_eq k fr tw nu t ac he); unfold pkV; go_enter Try.func57, Try.ntmps57
 obtain ⟨W, hW⟩ : ∃ W, w.alloc (.cells #[.int .i64 k, .int .i64 fr, .int .i64 tw, .int .i64 nu, .string t, .int .i64 ac, .int .i64 he] 44) = W := ⟨_, rfl⟩; have HBW : Hid (Below w.heap.size w W) := by rw [← hW]; exact (Below.refl _ w).alloc (Nat.le_refl _) _
 have q9 : Blk W w.heap.size (.cells #[.int .i64 k, .int .i64 fr, .int .i64 tw, .int .i64 nu, .string t, .int .i64 ac, .int .i64 he] 44) := by rw [← hW]; exact Blk.new _ _
 obtain ⟨x0, x1, x2, x3, x4, x5, x6, xl⟩ := Blk.d7 q9; clear q9; go_wp2_with fail
 clear hW; refine (in_any fr _ _ _).mono ?_; rintro r w9 ⟨rfl, hw9⟩; obtain rfl := hw9.symm; rw [Q1.out]; cases b1 with
 | false =>
  have HNP : Hid (properB ⟨k, fr, tw, nu, t, ac, he⟩ = false) := by show _ = _; rw [HPB.out, Q1.out]; rfl
  go_wp2; go_ret; exact ⟨by rw [HNP.out]; rfl, HBW.out⟩
 | true =>
  go_wp2_with fail
  refine (in_any tw _ _ _).mono ?_; rintro r w9 ⟨rfl, hw9⟩; obtain rfl := hw9.symm; rw [Q2.out]; cases b2 with
  | false =>
   have HNP : Hid (properB ⟨k, fr, tw, nu, t, ac, he⟩ = false) := by show _ = _; rw [HPB.out, Q1.out, Q2.out]; rfl
   go_wp2; go_ret; exact ⟨by rw [HNP.out]; rfl, HBW.out⟩
  | true =>
   by_cases k1 : k = 1
   ·have s1 : (k == 1) = true := beq_iff_eq.2 k1; have K1 := Lib.hid k1; clear k1; go_upto_region 5 with fail
    by_cases n1 : nu = 0
    ·have dn1 : decide (nu = 0) = true := decide_eq_true n1; have qn1 : (nu == 0) = true := beq_iff_eq.2 n1; have Dn1 := Lib.hid dn1; clear n1; by_cases n2 : t.toList = []
     ·have dn2 : decide (t.toList = []) = true := decide_eq_true n2; have Dn2 := Lib.hid dn2; by_cases n3 : ac = 0
      ·have dn3 : decide (ac = 0) = true := decide_eq_true n3; have qn3 : (ac == 0) = true := beq_iff_eq.2 n3; have Dn3 := Lib.hid dn3; clear n3; by_cases n4 : he = 0
       ·have dn4 : decide (he = 0) = true := decide_eq_true n4; have qn4 : (he == 0) = true := beq_iff_eq.2 n4; have Dn4 := Lib.hid dn4; clear n4; have HNP : Hid (properB ⟨k, fr, tw, nu, t, ac, he⟩ = true) := by show _ = _; rw [HPB.out, Q1.out, Q2.out, if_pos K1.out, Bool.true_and, Bool.true_and]; simp only [Dn1.out, Dn2.out, Dn3.out, Dn4.out, Bool.true_and]
        go_wp2; go_ret; exact ⟨by rw [HNP.out]; rfl, HBW.out⟩
       ·have dn4 : decide (he = 0) = false := decide_eq_false n4; have qn4 : (he == 0) = false := beq_eq_false_iff_ne.2 n4; have Dn4 := Lib.hid dn4; clear n4; have HNP : Hid (properB ⟨k, fr, tw, nu, t, ac, he⟩ = false) := by show _ = _; rw [HPB.out, Q1.out, Q2.out, if_pos K1.out, Bool.true_and, Bool.true_and]; simp only [Dn1.out, Dn2.out, Dn3.out, Dn4.out, Bool.true_and]
        go_wp2; go_ret; exact ⟨by rw [HNP.out]; rfl, HBW.out⟩
      ·have dn3 : decide (ac = 0) = false := decide_eq_false n3; have qn3 : (ac == 0) = false := beq_eq_false_iff_ne.2 n3; have Dn3 := Lib.hid dn3; clear n3; have HNP : Hid (properB ⟨k, fr, tw, nu, t, ac, he⟩ = false) := by show _ = _; rw [HPB.out, Q1.out, Q2.out, if_pos K1.out, Bool.true_and, Bool.true_and]; simp only [Dn1.out, Dn2.out, Dn3.out, Bool.true_and, Bool.false_and]
       go_wp2; go_ret; exact ⟨by rw [HNP.out]; rfl, HBW.out⟩
     ·have dn2 : decide (t.toList = []) = false := decide_eq_false n2; have Dn2 := Lib.hid dn2; have HNP : Hid (properB ⟨k, fr, tw, nu, t, ac, he⟩ = false) := by show _ = _; rw [HPB.out, Q1.out, Q2.out, if_pos K1.out, Bool.true_and, Bool.true_and]; simp only [Dn1.out, Dn2.out, Bool.true_and, Bool.false_and]
      go_wp2; go_ret; exact ⟨by rw [HNP.out]; rfl, HBW.out⟩
    ·have dn1 : decide (nu = 0) = false := decide_eq_false n1; have qn1 : (nu == 0) = false := beq_eq_false_iff_ne.2 n1; have Dn1 := Lib.hid dn1; clear n1; have HNP : Hid (properB ⟨k, fr, tw, nu, t, ac, he⟩ = false) := by show _ = _; rw [HPB.out, Q1.out, Q2.out, if_pos K1.out, Bool.true_and, Bool.true_and]; simp only [Dn1.out, Bool.false_and]
     go_wp2; go_ret; exact ⟨by rw [HNP.out]; rfl, HBW.out⟩
   have s1 : (k == 1) = false := beq_eq_false_iff_ne.2 k1; have K1 := Lib.hid k1; clear k1; by_cases k2 : k = 2
   ·have s2 : (k == 2) = true := beq_iff_eq.2 k2; have K2 := Lib.hid k2; clear k2; go_upto_region 7 with fail
    by_cases n5 : 0 < tw
    ·have dn5 : decide (0 < tw) = true := decide_eq_true n5; have Dn5 := Lib.hid dn5; clear n5; go_wp2_with fail
     refine (in_any nu _ _ _).mono ?_; rintro r w9 ⟨rfl, hw9⟩; obtain rfl := hw9.symm; rw [Q3.out]; cases b3 with
     | false =>
      have HNP : Hid (properB ⟨k, fr, tw, nu, t, ac, he⟩ = false) := by show _ = _; rw [HPB.out, Q1.out, Q2.out, if_neg K1.out, if_pos K2.out, Bool.true_and, Bool.true_and]; simp only [Dn5.out, Q3.out, Bool.true_and, Bool.false_and]
      go_wp2; go_ret; exact ⟨by rw [HNP.out]; rfl, HBW.out⟩
     | true =>
      by_cases n6 : t.size ≤ 20
      ·have dn6 : decide (t.size ≤ 20) = true := decide_eq_true n6; have en6 : decide ((t.size : Int) ≤ 20) = true := by rw [← dn6, decide_eq_decide]; omega
       have Dn6 := Lib.hid dn6; clear n6; go_wp2_with fail
       refine (in_any ac _ _ _).mono ?_; rintro r w9 ⟨rfl, hw9⟩; obtain rfl := hw9.symm; rw [Q4.out]; cases b4 with
       | false =>
        have HNP : Hid (properB ⟨k, fr, tw, nu, t, ac, he⟩ = false) := by show _ = _; rw [HPB.out, Q1.out, Q2.out, if_neg K1.out, if_pos K2.out, Bool.true_and, Bool.true_and]; simp only [Dn5.out, Q3.out, Dn6.out, Q4.out, Bool.true_and, Bool.false_and]
        go_wp2; go_ret; exact ⟨by rw [HNP.out]; rfl, HBW.out⟩
       | true =>
        go_wp2_with fail
        refine (in_any he _ _ _).mono ?_; rintro r w9 ⟨rfl, hw9⟩; obtain rfl := hw9.symm; rw [Q5.out]; cases b5 with
        | false =>
         have HNP : Hid (properB ⟨k, fr, tw, nu, t, ac, he⟩ = false) := by show _ = _; rw [HPB.out, Q1.out, Q2.out, if_neg K1.out, if_pos K2.out, Bool.true_and, Bool.true_and]; simp only [Dn5.out, Q3.out, Dn6.out, Q4.out, Q5.out, Bool.true_and]
         go_wp2; go_ret; exact ⟨by rw [HNP.out]; rfl, HBW.out⟩
        | true =>
         have HNP : Hid (properB ⟨k, fr, tw, nu, t, ac, he⟩ = true) := by show _ = _; rw [HPB.out, Q1.out, Q2.out, if_neg K1.out, if_pos K2.out, Bool.true_and, Bool.true_and]; simp only [Dn5.out, Q3.out, Dn6.out, Q4.out, Q5.out, Bool.true_and]
         go_wp2; go_ret; exact ⟨by rw [HNP.out]; rfl, HBW.out⟩
      ·have dn6 : decide (t.size ≤ 20) = false := decide_eq_false n6; have en6 : decide ((t.size : Int) ≤ 20) = false := by rw [← dn6, decide_eq_decide]; omega
       have Dn6 := Lib.hid dn6; clear n6; have HNP : Hid (properB ⟨k, fr, tw, nu, t, ac, he⟩ = false) := by show _ = _; rw [HPB.out, Q1.out, Q2.out, if_neg K1.out, if_pos K2.out, Bool.true_and, Bool.true_and]; simp only [Dn5.out, Q3.out, Dn6.out, Bool.true_and, Bool.false_and]
       go_wp2; go_ret; exact ⟨by rw [HNP.out]; rfl, HBW.out⟩
    ·have dn5 : decide (0 < tw) = false := decide_eq_false n5; have Dn5 := Lib.hid dn5; clear n5; have HNP : Hid (properB ⟨k, fr, tw, nu, t, ac, he⟩ = false) := by show _ = _; rw [HPB.out, Q1.out, Q2.out, if_neg K1.out, if_pos K2.out, Bool.true_and, Bool.true_and]; simp only [Dn5.out, Bool.false_and]
     go_wp2; go_ret; exact ⟨by rw [HNP.out]; rfl, HBW.out⟩
   have s2 : (k == 2) = false := beq_eq_false_iff_ne.2 k2; have K2 := Lib.hid k2; clear k2; by_cases k3 : k = 3
   ·have s3 : (k == 3) = true := beq_iff_eq.2 k3; have K3 := Lib.hid k3; clear k3; go_upto_region 9 with fail
    by_cases n5 : 0 < tw
    ·have dn5 : decide (0 < tw) = true := decide_eq_true n5; have Dn5 := Lib.hid dn5; clear n5; by_cases n1 : nu = 0
     ·have dn1 : decide (nu = 0) = true := decide_eq_true n1; have qn1 : (nu == 0) = true := beq_iff_eq.2 n1; have Dn1 := Lib.hid dn1; clear n1; by_cases n2 : t.toList = []
      ·have dn2 : decide (t.toList = []) = true := decide_eq_true n2; have Dn2 := Lib.hid dn2; go_wp2_with fail
       refine (in_any ac _ _ _).mono ?_; rintro r w9 ⟨rfl, hw9⟩; obtain rfl := hw9.symm; rw [Q4.out]; cases b4 with
       | false =>
        have HNP : Hid (properB ⟨k, fr, tw, nu, t, ac, he⟩ = false) := by show _ = _; rw [HPB.out, Q1.out, Q2.out, if_neg K1.out, if_neg K2.out, if_pos K3.out, Bool.true_and, Bool.true_and]; simp only [Dn5.out, Dn1.out, Dn2.out, Q4.out, Bool.true_and, Bool.false_and]
        go_wp2; go_ret; exact ⟨by rw [HNP.out]; rfl, HBW.out⟩
       | true =>
        go_wp2_with fail
        refine (in_any he _ _ _).mono ?_; rintro r w9 ⟨rfl, hw9⟩; obtain rfl := hw9.symm; rw [Q5.out]; cases b5 with
        | false =>
         have HNP : Hid (properB ⟨k, fr, tw, nu, t, ac, he⟩ = false) := by show _ = _; rw [HPB.out, Q1.out, Q2.out, if_neg K1.out, if_neg K2.out, if_pos K3.out, Bool.true_and, Bool.true_and]; simp only [Dn5.out, Dn1.out, Dn2.out, Q4.out, Q5.out, Bool.true_and]
         go_wp2; go_ret; exact ⟨by rw [HNP.out]; rfl, HBW.out⟩
        | true =>
         have HNP : Hid (properB ⟨k, fr, tw, nu, t, ac, he⟩ = true) := by show _ = _; rw [HPB.out, Q1.out, Q2.out, if_neg K1.out, if_neg K2.out, if_pos K3.out, Bool.true_and, Bool.true_and]; simp only [Dn5.out, Dn1.out, Dn2.out, Q4.out, Q5.out, Bool.true_and]
         go_wp2; go_ret; exact ⟨by rw [HNP.out]; rfl, HBW.out⟩
      ·have dn2 : decide (t.toList = []) = false := decide_eq_false n2; have Dn2 := Lib.hid dn2; have HNP : Hid (properB ⟨k, fr, tw, nu, t, ac, he⟩ = false) := by show _ = _; rw [HPB.out, Q1.out, Q2.out, if_neg K1.out, if_neg K2.out, if_pos K3.out, Bool.true_and, Bool.true_and]; simp only [Dn5.out, Dn1.out, Dn2.out, Bool.true_and, Bool.false_and]
       go_wp2; go_ret; exact ⟨by rw [HNP.out]; rfl, HBW.out⟩
     ·have dn1 : decide (nu = 0) = false := decide_eq_false n1; have qn1 : (nu == 0) = false := beq_eq_false_iff_ne.2 n1; have Dn1 := Lib.hid dn1; clear n1; have HNP : Hid (properB ⟨k, fr, tw, nu, t, ac, he⟩ = false) := by show _ = _; rw [HPB.out, Q1.out, Q2.out, if_neg K1.out, if_neg K2.out, if_pos K3.out, Bool.true_and, Bool.true_and]; simp only [Dn5.out, Dn1.out, Bool.true_and, Bool.false_and]
      go_wp2; go_ret; exact ⟨by rw [HNP.out]; rfl, HBW.out⟩
    ·have dn5 : decide (0 < tw) = false := decide_eq_false n5; have Dn5 := Lib.hid dn5; clear n5; have HNP : Hid (properB ⟨k, fr, tw, nu, t, ac, he⟩ = false) := by show _ = _; rw [HPB.out, Q1.out, Q2.out, if_neg K1.out, if_neg K2.out, if_pos K3.out, Bool.true_and, Bool.true_and]; simp only [Dn5.out, Bool.false_and]
     go_wp2; go_ret; exact ⟨by rw [HNP.out]; rfl, HBW.out⟩
   have s3 : (k == 3) = false := beq_eq_false_iff_ne.2 k3; have K3 := Lib.hid k3; clear k3; have HNP : Hid (properB ⟨k, fr, tw, nu, t, ac, he⟩ = false) := by show _ = _; rw [HPB.out, Q1.out, Q2.out, if_neg K1.out, if_neg K2.out, if_neg K3.out, Bool.true_and, Bool.true_and]
   go_wp2; go_ret; exact ⟨by rw [HNP.out]; rfl, HBW.out⟩
theorem own_blk {w : World} {B : Nat} {e : TypeId} {size n : Nat} {v : Value} {xs : List Value} (h : w.ownsRow B e size v n xs) {g : Nat} (hg : v.ownBlock = some g) : ∃ cur, Blk w g (.cells cur e) := by
 rcases h.2 with ⟨rfl, _⟩ | ⟨g', cap, cur, rfl, _, hh, _⟩
 ·simp [Value.ownBlock] at hg
 ·have e1 : g' = g := by simpa [Value.ownBlock] using hg
  subst e1; exact ⟨cur, hh⟩
theorem own_away {S : Nat → Prop} {w w' : World} {B : Nat} {e : TypeId} {size n : Nat} {v : Value} {xs : List Value} (h : w.ownsRow B e size v n xs) (hF : Frame S w w') (hS : ∀ b cur, Blk w b (.cells cur e) → ¬ S b) : w'.ownsRow B e size v n xs :=
 own_frame h hF fun g hg => by
  obtain ⟨cur, hc⟩ := own_blk h hg; exact hS g cur hc
theorem takeB_eq {e1 e2 e3 e4 : En} {ls ts : List ByteArray} {p : Pk} {mine b2 kh kn kd : Bool} (hm : (p.to == e1.life) = mine) (h2 : (e1.phase == 2) = b2) (hk : (p.kind == 1) = kh) (hn : (p.kind != 1) = kn) (hd : (p.kind == 2) = kd)
  (he2 : (if mine && b2 then ({ e1 with phase := 3 } : En) else e1) = e2) (he3 : (if mine && kn then ackedA e2 p (flyN e1) else e2) = e3) (he4 : (if mine && kd then cameA e3 p else (e3, [])) = (e4, ts)) :
  takeB e1 ls p = (e4, ⟨(if mine then [] else [helloA e4]) ++ fromA e4 (e1.base + (flyN e1 : Int) - e4.base).toNat ++ (if mine && b2 && kh || (mine && kd) then [reportA e4] else []), ts, ls⟩, 0) := by
 unfold takeB; simp only [hm, h2, hk, hn, hd, he2, he3, he4]
def frS (e : En) (s k : Nat) : List Pk := ((List.range k).drop s).map (dataA e)
theorem frS_yes {e : En} {s k : Nat} (h : s ≤ k) : frS e s (k + 1) = frS e s k ++ [dataA e k] := by
 unfold frS; rw [List.range_succ, List.drop_append_of_le_length (by simpa using h), List.map_append]; rfl
theorem frS_no {e : En} {s k : Nat} (h : ¬ s ≤ k) : frS e s (k + 1) = frS e s k := by
 unfold frS; rw [List.drop_eq_nil_of_le (by simp; omega), List.drop_eq_nil_of_le (by simp; omega)]
theorem frS_len (e : En) (s k : Nat) : (frS e s k).length ≤ k := by
 unfold frS; rw [List.length_map, List.length_drop, List.length_range]; omega
structure Ep (w0 w : World) (e : En) (A : Option Addr) (c : Nat) (D : Option Addr) (d : Nat) : Prop where
 out : Cells w A (ous e.out)
 row : RowAt w w0.heap.size A e.out
 cap : e.out.length ≤ c
 nil : A = none → c = 0
 inn : Cells w D (ims e.inn)
 im : ImAt w D e.inn
 dcap : e.inn.length ≤ d
 dnil : D = none → d = 0
section
variable {w0 w w' : World} {S : Nat → Prop} {b7 : Nat} {p : Pk} {e e' : En} {A A' : Option Addr} {c c' : Nat} {D D' : Option Addr} {d d' : Nat} {g g' : Gn} {P P' : Option Addr} {cp cp' : Nat} {T T' : Option Addr} {ct ct' : Nat} {L L' : Option Addr} {cl cl' : Nat}
theorem Ep.frame (h : Ep w0 w e A c D d) (hF : Frame S w w') (h1 : ∀ b cur, Blk w b (.cells cur 71) → ¬ S b) (h2 : ∀ b cur, Blk w b (.cells cur 73) → ¬ S b) : Ep w0 w' e A c D d :=
 ⟨h.row.cells h.out hF h1, h.row.frame hF h1, h.cap, h.nil, h.im.cells h.inn hF h2, h.im.frame hF h2, h.dcap, h.dnil⟩
theorem Ep.below (h : Ep w0 w e A c D d) (hB : Below w.heap.size w w') : Ep w0 w' e A c D d := h.frame (Frame.of_all (S := fun _ => False) hB) (fun _ _ _ h => h) (fun _ _ _ h => h)
theorem Ep.at_ (h : Ep w0 w e A c D d) : EnAt w e A D := ⟨h.out, h.inn⟩
structure Gp (w0 w : World) (g : Gn) (P : Option Addr) (cp : Nat) (T : Option Addr) (ct : Nat) (L : Option Addr) (cl : Nat) : Prop where
 pk : w.ownsRow (w0.heap.size + 4) 44 7 (.slice P g.packets.length cp) g.packets.length (pks g.packets)
 tk : w.ownsRow w0.heap.size 9 1 (.slice T g.taken.length ct) g.taken.length (strs g.taken)
 ls : w.ownsRow w0.heap.size 9 1 (.slice L g.lost.length cl) g.lost.length (strs g.lost)
theorem Gp.frame (h : Gp w0 w g P cp T ct L cl) (hF : Frame S w w') (h1 : ∀ b cur, Blk w b (.cells cur 44) → ¬ S b) (h2 : ∀ b cur, Blk w b (.cells cur 9) → ¬ S b) : Gp w0 w' g P cp T ct L cl :=
 ⟨own_away h.pk hF h1, own_away h.tk hF h2, own_away h.ls hF h2⟩
structure Rs (w0 w : World) (b7 : Nat) (p : Pk) (e : En) (A : Option Addr) (c : Nat) (D : Option Addr) (d : Nat) (g : Gn) (P : Option Addr) (cp : Nat) (T : Option Addr) (ct : Nat) (L : Option Addr) (cl : Nat) : Prop where
 be : Blk w w0.heap.size (.cells (enB e A c D d) 26)
 bp : Blk w (w0.heap.size + 1) (.cells (pkB p) 44)
 k4 : Blk w (w0.heap.size + 1 + 1) (.cells (enB noEn none 0 none 0) 26)
 k5 : Blk w (w0.heap.size + 1 + 1 + 1) (.cells #[.slice none 0 0, .slice none 0 0, .slice none 0 0] 47)
 k7 : Blk w b7 (.cells (gnB g P cp T ct L cl) 47)
 gp : Gp w0 w g P cp T ct L cl
 bel : Below w0.heap.size w0 w
 h7 : w0.heap.size + 4 ≤ b7
theorem Rs.frame (h : Rs w0 w b7 p e A c D d g P cp T ct L cl) (hF : Frame S w w') (hS : ∀ b, S b → w0.heap.size ≤ b ∧ ∃ cur, Blk w b (.cells cur 71)) : Rs w0 w' b7 p e A c D d g P cp T ct L cl := by
 have n : ∀ {b : Nat} {cs : Array Value} {t : TypeId}, Blk w b (.cells cs t) → t ≠ 71 → ¬ S b := fun hb ht hs => by
  obtain ⟨_, cur, hc⟩ := hS _ hs; exact blk_ne hb hc ht rfl
 exact ⟨h.be.frame hF (n h.be (by decide)), h.bp.frame hF (n h.bp (by decide)), h.k4.frame hF (n h.k4 (by decide)), h.k5.frame hF (n h.k5 (by decide)), h.k7.frame hF (n h.k7 (by decide)),
  h.gp.frame hF (fun b cur hb => n hb (by decide)) (fun b cur hb => n hb (by decide)), h.bel.trans (hF.below (B := w0.heap.size) (fun b hb => (hS b hb).1) h.bel.size), h.h7⟩
theorem Rs.below (h : Rs w0 w b7 p e A c D d g P cp T ct L cl) (hB : Below w.heap.size w w') : Rs w0 w' b7 p e A c D d g P cp T ct L cl := h.frame (Frame.of_all (S := fun _ => False) hB) (fun _ h => h.elim)
theorem Rs.box (h : Rs w0 w b7 p e A c D d g P cp T ct L cl) (hk : Blk w' w0.heap.size (.cells (enB e' A' c' D' d') 26)) (hF : Frame (fun b => b = w0.heap.size) w w') : Rs w0 w' b7 p e' A' c' D' d' g P cp T ct L cl :=
 ⟨hk, h.bp.frame hF (by show ¬ _ = _; omega), h.k4.frame hF (by show ¬ _ = _; omega), h.k5.frame hF (by show ¬ _ = _; omega), h.k7.frame hF (by have := h.h7; show ¬ _ = _; omega),
  h.gp.frame hF (fun b cur hb e2 => blk_ne hb h.be (by decide) e2) (fun b cur hb e2 => blk_ne hb h.be (by decide) e2), h.bel.trans (hF.below (B := w0.heap.size) (fun b e2 => by omega) h.bel.size), h.h7⟩
theorem Rs.ep (h : Rs w0 w b7 p e A c D d g P cp T ct L cl) (hF : Frame (fun b => b = w0.heap.size) w w') {e1 : En} {A1 : Option Addr} {c1 : Nat} {D1 : Option Addr} {d1 : Nat} (he : Ep w0 w e1 A1 c1 D1 d1) : Ep w0 w' e1 A1 c1 D1 d1 :=
 he.frame hF (fun b cur hb e2 => blk_ne hb h.be (by decide) e2) (fun b cur hb e2 => blk_ne hb h.be (by decide) e2)
theorem Rs.setE (h : Rs w0 w b7 p e A c D d g P cp T ct L cl) (he : Ep w0 w e' A' c' D' d') : Rs w0 (setEn w w0.heap.size e' A' c' D' d') b7 p e' A' c' D' d' g P cp T ct L cl ∧ Ep w0 (setEn w w0.heap.size e' A' c' D' d') e' A' c' D' d' := by
 have hF := setEn_frame (e := e') (A := A') (c := c') (B := D') (d := d') (Frame.refl (fun b => b = w0.heap.size) w) (.inl rfl); exact ⟨h.box (setEn_blk h.be) hF, h.ep hF he⟩
theorem Rs.setPh (h : Rs w0 w b7 p e A c D d g P cp T ct L cl) (he : Ep w0 w e A c D d) : Rs w0 (w.setCell ⟨w0.heap.size, 2, none⟩ (.int .i64 3)) b7 p { e with phase := 3 } A c D d g P cp T ct L cl ∧ Ep w0 (w.setCell ⟨w0.heap.size, 2, none⟩ (.int .i64 3)) { e with phase := 3 } A c D d := by
 have hF : Frame (fun b => b = w0.heap.size) w (w.setCell ⟨w0.heap.size, 2, none⟩ (.int .i64 3)) := (Frame.refl (fun b => b = w0.heap.size) w).setCell (p := ⟨_, 2, none⟩) (.inl rfl) _; have h2 := h.ep hF he; exact ⟨h.box (h.be.set 2 _) hF, ⟨h2.out, h2.row, h2.cap, h2.nil, h2.inn, h2.im, h2.dcap, h2.dnil⟩⟩
theorem Rs.setA (h : Rs w0 w b7 p e A c D d g P cp T ct L cl) (he : Ep w0 w e A c D d) {B : Nat} (ho : w.ownsRow B 71 2 (.slice A' e.out.length c') e.out.length (ous e.out)) (hB : w0.heap.size ≤ B) (hl : e.out.length ≤ 12) :
  Rs w0 (w.setCell ⟨w0.heap.size, 4, none⟩ (.slice A' e.out.length c')) b7 p e A' c' D d g P cp T ct L cl ∧ Ep w0 (w.setCell ⟨w0.heap.size, 4, none⟩ (.slice A' e.out.length c')) e A' c' D d := by
 have hF : Frame (fun b => b = w0.heap.size) w (w.setCell ⟨w0.heap.size, 4, none⟩ (.slice A' e.out.length c')) := (Frame.refl (fun b => b = w0.heap.size) w).setCell (p := ⟨_, 4, none⟩) (.inl rfl) _; refine ⟨h.box (h.be.set 4 _) hF, h.ep hF ⟨(Cells.of_own ho (by rw [ous_len]; omega)).1, ?_, own_cap ho, own_nil ho, he.inn, he.im, he.dcap, he.dnil⟩⟩; intro hn; rcases ho.2 with ⟨_, h0⟩ | ⟨b, cap, cur, hv, hb, hh, _⟩
 ·exact absurd (List.eq_nil_of_length_eq_zero h0) hn
 ·injection hv with h1; exact ⟨b, 0, cur, h1, by omega, hh⟩
theorem Rs.setD (h : Rs w0 w b7 p e A c D d g P cp T ct L cl) (he : Ep w0 w e A c D d) {B : Nat} (ho : w.ownsRow B 73 2 (.slice D' e.inn.length d') e.inn.length (ims e.inn)) (hl : e.inn.length ≤ 12) :
  Rs w0 (w.setCell ⟨w0.heap.size, 6, none⟩ (.slice D' e.inn.length d')) b7 p e A c D' d' g P cp T ct L cl ∧ Ep w0 (w.setCell ⟨w0.heap.size, 6, none⟩ (.slice D' e.inn.length d')) e A c D' d' := by
 have hF : Frame (fun b => b = w0.heap.size) w (w.setCell ⟨w0.heap.size, 6, none⟩ (.slice D' e.inn.length d')) := (Frame.refl (fun b => b = w0.heap.size) w).setCell (p := ⟨_, 6, none⟩) (.inl rfl) _; exact ⟨h.box (h.be.set 6 _) hF, h.ep hF ⟨he.out, he.row, he.cap, he.nil, (Cells.of_own ho (by rw [ims_len]; omega)).1, im_of_own ho, own_cap ho, own_nil ho⟩⟩
theorem Rs.gain (h : Rs w0 w b7 p e A c D d g P cp T ct L cl) (hk : Blk w' b7 (.cells (gnB g' P' cp' T' ct' L' cl') 47)) (hF : Frame (fun b => b = b7) w w') (hg : Gp w0 w g' P' cp' T' ct' L' cl') : Rs w0 w' b7 p e A c D d g' P' cp' T' ct' L' cl' := by
 have h7 := h.h7; exact ⟨h.be.frame hF (by show ¬ _ = _; omega), h.bp.frame hF (by show ¬ _ = _; omega), h.k4.frame hF (by show ¬ _ = _; omega), h.k5.frame hF (by show ¬ _ = _; omega), hk,
  hg.frame hF (fun b cur hb e2 => blk_ne hb h.k7 (by decide) e2) (fun b cur hb e2 => blk_ne hb h.k7 (by decide) e2), h.bel.trans (hF.below (B := w0.heap.size) (fun b e2 => by omega) h.bel.size), h7⟩
theorem Rs.ep7 (h : Rs w0 w b7 p e A c D d g P cp T ct L cl) (hF : Frame (fun b => b = b7) w w') (he : Ep w0 w e A c D d) : Ep w0 w' e A c D d :=
 he.frame hF (fun b cur hb e2 => blk_ne hb h.k7 (by decide) e2) (fun b cur hb e2 => blk_ne hb h.k7 (by decide) e2)
theorem Rs.setT (h : Rs w0 w b7 p e A c D d g P cp T ct L cl) (he : Ep w0 w e A c D d) {ts : List ByteArray} {B : Nat} (ho : w.ownsRow B 9 1 (.slice T' ts.length ct') ts.length (strs ts)) (hB : w0.heap.size ≤ B) :
  Rs w0 (w.setCell ⟨b7, 1, none⟩ (.slice T' ts.length ct')) b7 p e A c D d { g with taken := ts } P cp T' ct' L cl ∧ Ep w0 (w.setCell ⟨b7, 1, none⟩ (.slice T' ts.length ct')) e A c D d := by
 have hF : Frame (fun b => b = b7) w (w.setCell ⟨b7, 1, none⟩ (.slice T' ts.length ct')) := (Frame.refl (fun b => b = b7) w).setCell (p := ⟨_, 1, none⟩) (.inl rfl) _; exact ⟨h.gain (h.k7.set 1 _) hF ⟨h.gp.pk, own_mono ho hB, h.gp.ls⟩, h.ep7 hF he⟩
theorem Rs.setL (h : Rs w0 w b7 p e A c D d g P cp T ct L cl) (he : Ep w0 w e A c D d) {ts : List ByteArray} {B : Nat} (ho : w.ownsRow B 9 1 (.slice L' ts.length cl') ts.length (strs ts)) (hB : w0.heap.size ≤ B) :
  Rs w0 (w.setCell ⟨b7, 2, none⟩ (.slice L' ts.length cl')) b7 p e A c D d { g with lost := ts } P cp T ct L' cl' ∧ Ep w0 (w.setCell ⟨b7, 2, none⟩ (.slice L' ts.length cl')) e A c D d := by
 have hF : Frame (fun b => b = b7) w (w.setCell ⟨b7, 2, none⟩ (.slice L' ts.length cl')) := (Frame.refl (fun b => b = b7) w).setCell (p := ⟨_, 2, none⟩) (.inl rfl) _; exact ⟨h.gain (h.k7.set 2 _) hF ⟨h.gp.pk, h.gp.tk, own_mono ho hB⟩, h.ep7 hF he⟩
theorem Rs.setP (h : Rs w0 w b7 p e A c D d g P cp T ct L cl) (he : Ep w0 w e A c D d) (hF : Frame (fun b => (Value.slice P g.packets.length cp).ownBlock = some b) w w') {ps : List Pk} (ho : w'.ownsRow (w0.heap.size + 4) 44 7 (.slice P' ps.length cp') ps.length (pks ps)) :
  Rs w0 (w'.setCell ⟨b7, 0, none⟩ (.slice P' ps.length cp')) b7 p e A c D d { g with packets := ps } P' cp' T ct L cl ∧ Ep w0 (w'.setCell ⟨b7, 0, none⟩ (.slice P' ps.length cp')) e A c D d := by
 have n : ∀ {b : Nat} {cs : Array Value} {t : TypeId}, Blk w b (.cells cs t) → 44 ≠ t → ¬ (Value.slice P g.packets.length cp).ownBlock = some b := fun hb ht => own_ne h.gp.pk hb ht; have hp : (Value.slice P g.packets.length cp).ownBlock ≠ some (w0.heap.size + 1) := fun e2 => by have := (h.gp.pk.lt _ e2).1; omega
 have hF2 : Frame (fun b => b = b7) w' (w'.setCell ⟨b7, 0, none⟩ (.slice P' ps.length cp')) := (Frame.refl (fun b => b = b7) w').setCell (p := ⟨_, 0, none⟩) (.inl rfl) _; have hb7 := h.k7.frame hF (n h.k7 (by decide)); have h7 := h.h7; have hg : Gp w0 w' { g with packets := ps } P' cp' T ct L cl := ⟨ho, own_away h.gp.tk hF (fun b cur hb => n hb (by decide)), own_away h.gp.ls hF (fun b cur hb => n hb (by decide))⟩; refine ⟨⟨(h.be.frame hF (n h.be (by decide))).frame hF2 (by show ¬ _ = _; omega), (h.bp.frame hF hp).frame hF2 (by show ¬ _ = _; omega), (h.k4.frame hF (n h.k4 (by decide))).frame hF2 (by show ¬ _ = _; omega), (h.k5.frame hF (n h.k5 (by decide))).frame hF2 (by show ¬ _ = _; omega), hb7.set 0 _,
  hg.frame hF2 (fun b cur hb e2 => blk_ne hb hb7 (by decide) e2) (fun b cur hb e2 => blk_ne hb hb7 (by decide) e2), ?_, h7⟩, ?_⟩
 ·refine (h.bel.trans (hF.below (B := w0.heap.size) (fun b e2 => by have := (h.gp.pk.lt b e2).1; omega) h.bel.size)).trans (hF2.below (B := w0.heap.size) (fun b e2 => by omega) ?_); have := h.bel.size; have := hF.size; omega
 ·exact (he.frame hF (fun b cur hb => n hb (by decide)) (fun b cur hb => n hb (by decide))).frame hF2 (fun b cur hb e2 => blk_ne hb hb7 (by decide) e2) (fun b cur hb e2 => blk_ne hb hb7 (by decide) e2)
theorem Gp.at_ (h : Gp w0 w g P cp T ct L cl) (hp : g.packets.length ≤ 1000) (ht : g.taken.length ≤ 1000) (hl : g.lost.length ≤ 1000) : GnAt w g P T L :=
 ⟨(Cells.of_own h.pk (by rw [pks_len]; omega)).1, (Cells.of_own h.tk (by rw [strs_len]; omega)).1, (Cells.of_own h.ls (by rw [strs_len]; omega)).1⟩
theorem Rs.start {w3 : World} {B1 B2 : Nat} (hbel : Below w.heap.size w w3) (be : Blk w3 w.heap.size (.cells (enB e A c D d) 26)) (bp : Blk w3 (w.heap.size + 1) (.cells (pkB p) 44)) (k4 : Blk w3 (w.heap.size + 1 + 1) (.cells (enB noEn none 0 none 0) 26))
  (k5 : Blk w3 (w.heap.size + 1 + 1 + 1) (.cells #[.slice none 0 0, .slice none 0 0, .slice none 0 0] 47)) (hr1 : w3.ownsRow B1 71 2 (.slice A' e.out.length c') e.out.length (ous e.out)) (hr2 : w3.ownsRow B2 73 2 (.slice D' e.inn.length d') e.inn.length (ims e.inn)) (hB1 : w.heap.size ≤ B1) (hl1 : e.out.length ≤ 12) (hl2 : e.inn.length ≤ 12) :
  Rs w ((setEn w3 w.heap.size e A' c' D' d').alloc (.cells #[.slice none 0 0, .slice none 0 0, .slice none 0 0] 47)) w3.heap.size p e A' c' D' d' noGn none 0 none 0 none 0 ∧ Ep w ((setEn w3 w.heap.size e A' c' D' d').alloc (.cells #[.slice none 0 0, .slice none 0 0, .slice none 0 0] 47)) e A' c' D' d' := by
 have hF := setEn_frame (e := e) (A := A') (c := c') (B := D') (d := d') (Frame.refl (fun b => b = w.heap.size) w3) (.inl rfl); have hsz : (setEn w3 w.heap.size e A' c' D' d').heap.size = w3.heap.size := by unfold setEn; simp
 have hlt := k5.lt; have hp : Ep w w3 e A' c' D' d' := by
  refine ⟨(Cells.of_own hr1 (by rw [ous_len]; omega)).1, ?_, own_cap hr1, own_nil hr1, (Cells.of_own hr2 (by rw [ims_len]; omega)).1, im_of_own hr2, own_cap hr2, own_nil hr2⟩; intro hn; rcases hr1.2 with ⟨_, h0⟩ | ⟨b, cap, cur, hv, hb, hh, _⟩
  ·exact absurd (List.eq_nil_of_length_eq_zero h0) hn
  ·injection hv with h1; exact ⟨b, 0, cur, h1, by omega, hh⟩
 have hp2 := hp.frame hF (fun b cur hb e2 => blk_ne hb be (by decide) e2) (fun b cur hb e2 => blk_ne hb be (by decide) e2); have hbx := setEn_below (e := e) (A := A') (c := c') (B := D') (d := d') hbel (Nat.le_refl _); refine ⟨⟨(setEn_blk be).alloc _, (bp.frame hF (by show ¬ _ = _; omega)).alloc _, (k4.frame hF (by show ¬ _ = _; omega)).alloc _, (k5.frame hF (by show ¬ _ = _; omega)).alloc _, ?_, ⟨World.ownsRow_nil _ _ _ _, World.ownsRow_nil _ _ _ _, World.ownsRow_nil _ _ _ _⟩, hbx.alloc (by omega) _, by omega⟩, hp2.below ((Below.refl _ _).alloc (Nat.le_refl _) _)⟩; rw [← hsz]; exact Blk.new _ _
theorem Ep.acked {n : Nat} (h : Ep w0 w e A c D d) (k : AkPost w0.heap.size e p n A' c' w w') : Ep w0 w' (ackedA e p n) A' c' D d := by
 have hi : (ackedA e p n).inn = e.inn := by unfold ackedA; split <;> rfl
 have n73 : ∀ b cur, Blk w b (.cells cur 73) → ¬ (w0.heap.size ≤ b ∧ ∃ cur, Blk w b (.cells cur 71)) := fun b cur hb ⟨_, _, hc⟩ => blk_ne hb hc (by decide) rfl; exact ⟨k.out, k.row, k.cap, k.nil, by rw [hi]; exact h.im.cells h.inn k.fr n73, by rw [hi]; exact h.im.frame k.fr n73, by rw [hi]; exact h.dcap, h.dnil⟩
theorem Ep.came (h : Ep w0 w e A c D d) (hB : Below w.heap.size w w') (hi : Cells w' D' (ims (cameA e p).1.inn)) (him : ImAt w' D' (cameA e p).1.inn) (hdc : (cameA e p).1.inn.length ≤ d') (hdn : D' = none → d' = 0) : Ep w0 w' (cameA e p).1 A c D' d' := by
 have h2 := h.below hB; have ho := (came_base e p).2.1; exact ⟨by rw [ho]; exact h2.out, by rw [ho]; exact h2.row, by rw [ho]; exact h2.cap, h2.nil, hi, him, hdc, hdn⟩
end
end Go.Proofs.Ytejabnoidhlfaaa
