/- SessStill returns true at every list of deeds by numbers and every list of integers, and leaves its arguments as they were. No condition but the card's own. -/
import Derived.Test.YtejabnoidhlfaaaDoorS49
import Derived.Test.YtejabnoidhlfaaaDoorS41
import Derived.Test.YtejabnoidhlfaaaDoorS50
import Derived.Test.YtejabnoidhlfaaaDoorS1
import Derived.Deep.Slices
import Derived.SizedLaws
import Derived.Lib.SmallJoins
import Derived.ProofKit
import Derived.OpenShut
import Derived.ShutString
import Derived.ChangeOld
import Derived.Below
import Derived.Test.YtejabnoidhlfaaaDoorS47
import Derived.Stop.LaidErr
import Derived.Lib.LaidTab
import Derived.LaidMore
import Derived.Test.YtejabnoidhlfaaaDoorCards
import Derived.Test.YtejabnoidhlfaaaDoorTie
import Derived.ChangeMaps5
import Derived.Stop.Joined
import Derived.SevenTiedAt

/- SessOrder: the walk. -/
namespace Go.Proofs.YtejabnoidhlfaaaDoor
open Go.RowKit Go.Maps

theorem played_show {ds : List Dd} (h : (playedA ds).2 = 0) : playA ds = (showA (playedA ds).1, 0) := by unfold playA; rw [if_pos h]
/-- What an end took in a session, beside what the other one sent in it. -/
theorem Saf.order {l : Lp} (h : Saf l) {t : Ta} (ht : t ∈ l.tales) : (∀ u, tale l.tales (1 - t.end_) t.peer t.life = some u → t.taken <+: u.sent) ∧ (tale l.tales (1 - t.end_) t.peer t.life = none → t.taken = []) := by
 have h1 := h.pre t.end_ (h.ends t ht) t.life t.peer
 rw [takenOf_some (tale_of_mem h.ord ht)] at h1
 refine ⟨fun u hu => ?_, fun hu => ?_⟩
 ·rw [sentOf_some hu] at h1; exact h1
 ·rw [sentOf_none hu] at h1
  exact List.prefix_nil.1 h1
set_option maxRecDepth 100000 in
set_option maxHeartbeats 8000000 in
theorem walk_order (A : Option Addr) (c N : Nat) (l : List Ac) (w : World) (h : Cells w A (acs l)) (hN : l.length = min N 150) (hc : N ≤ c) (ha : ∀ a ∈ l, AcOk a) (hP : Pow w) :
  Calls Tryd.prog 5 #[.slice A N c] w fun r w' => r = .returned (.bool true) ∧ Below w.heap.size w w' := by
 have HC := Lib.hid h
 have HA := Lib.hid ha
 have HP := Lib.hid hP
 have HNN := Lib.hid hN
 clear h ha hP hN
 go_enter Tryd.func5, Tryd.ntmps5
 go_wp2_with fail
 refine (acts_any A c N l w HC.out HNN.out hc HA.out HP.out).mono ?_
 rintro r w1 ⟨D, d, rfl, ho, hB1⟩
 have HLD : Hid ((actsD l).length ≤ 150) := (actsD_ok HA.out).1
 have HCD : Hid (Cells w1 D (dds (actsD l))) := (Cells.of_own ho (by rw [dds_len]; have := HLD.out; omega)).1
 have HB1 := Lib.hid hB1
 clear ho hB1
 go_wp2_with fail
 refine (play_any D d (actsD l) w1 HCD.out).mono ?_
 rintro r w2 ⟨EA, ce, WA, cw, TA, ct, es, zs, rfl, hln, hB2, hct⟩
 have hp2 := acts_played HA.out
 have HSF := Lib.hid (played_saf hp2)
 rw [played_show hp2] at hln hct ⊢
 obtain ⟨P, HPP⟩ : ∃ P, Hid ((playedA (actsD l)).1 = P) := ⟨_, rfl⟩
 rw [HPP.out] at hln hct HSF ⊢
 have HTV : Hid (zs.map Tz.v = P.tales) := hln.tv
 have HZL : Hid (P.tales.length = zs.length) := by show _ = _; rw [← HTV.out, List.length_map]
 have HCT : Hid (zs.length ≤ ct) := by show _ ≤ _; rw [← HZL.out]; exact hct
 have HLN := Lib.hid hln
 have HB2 : Hid (Below w.heap.size w w2) := HB1.out.trans (hB2.mono HB1.out.size)
 have HZM : Hid (∀ z ∈ zs, z.v ∈ P.tales) := fun z hz => by rw [← HTV.out]; exact List.mem_map_of_mem hz
 clear hln hct hB2 hp2
 unfold lnV showA
 rw [HZL.out]
 simp only [List.length_cons, List.length_nil, Nat.zero_add, Nat.reduceAdd]
 obtain ⟨nw, hnw⟩ : ∃ nw, P.wire.length = nw := ⟨_, rfl⟩
 rw [hnw]
 clear hnw
 go_upto_region 2 with fail
 obtain ⟨W, hW⟩ : ∃ W, w2.alloc (.cells #[.slice EA 2 ce, .slice WA nw cw, .slice TA zs.length ct] 28) = W := ⟨_, rfl⟩
 have HBW : Hid (Below w.heap.size w W) := by rw [← hW]; exact HB2.out.alloc HB2.out.size _
 have HXW : Hid (Blk W w2.heap.size (.cells #[.slice EA 2 ce, .slice WA nw cw, .slice TA zs.length ct] 28)) := by rw [← hW]; exact Blk.new _ _
 have HLW : Hid (LnAt W w1.heap.size (showA P) EA WA TA es zs) := by rw [← hW]; exact HLN.out.below ((Below.refl _ _).alloc (Nat.le_refl _) _)
 rw [hW]
 clear hW
 have k9 := HXW.out
 have x0 := k9.cell 0 (v := .slice EA 2 ce) rfl
 have x1 := k9.cell 1 (v := .slice WA nw cw) rfl
 have x2 := k9.cell 2 (v := .slice TA zs.length ct) rfl
 have xl := k9.lt
 clear k9
 go_wp2_with fail
 clear x0 x1 x2 xl
 go_loopg [22] zs.length (fun g iv wr => ∃ k : Nat, k + g = zs.length ∧ iv = .int .i64 (k : Int) ∧ Below W.heap.size W wr)
 case atStart => exact ⟨0, Nat.zero_add _, rfl, Below.refl _ _⟩
 case round =>
  obtain ⟨k, hk, rfl, hB⟩ := hrel
  have HK := Lib.hid hk
  have HBR := Lib.hid hB
  have HBR0 : Hid (Below w.heap.size w wr) := HBW.out.trans (hB.mono HBW.out.size)
  clear hk hB
  by_cases hlt : (k : Int) < (zs.length : Int)
  ·obtain ⟨z, b, o, hz, hb, hix, c0, c1, c2, c3, c4, c5⟩ := tza (c := ct) (k := k) (HLW.out.tales.below HBR.out (Nat.le_refl _)) (by omega)
   have HZ := Lib.hid hz
   have HZE := Lib.hid (HSF.out.ends _ (HZM.out z (List.mem_of_getElem? hz)))
   have HZO := Lib.hid (HSF.out.order (HZM.out z (List.mem_of_getElem? hz)))
   have HZL2 : Hid (zs.length ≤ 1000000000) := by have h9 := HLW.out.tales.1; rw [tzs_len] at h9; have := (played_k (acts_played HA.out)).2.1.bulk.tales; rw [HPP.out, HZL.out] at this; show _ ≤ _; omega
   have hw1 : IntKind.i64.wrap ((k : Int) + 1) = (k : Int) + 1 := wrap_ok ⟨by omega, by have := HZL2.out; omega⟩
   clear hz
   go_upto_region 7 with fail
   obtain ⟨V, hV⟩ : ∃ V, wr.alloc (.cells #[.int .i64 z.v.end_, .int .i64 z.v.life, .int .i64 z.v.peer, .slice z.S z.v.sent.length z.cs, .slice z.L z.v.lost.length z.cl, .slice z.K z.v.taken.length z.ck] 57) = V := ⟨_, rfl⟩
   have HBV : Hid (Below W.heap.size W V) := by rw [← hV]; exact HBR.out.alloc HBR.out.size _
   have HTV2 : Hid (Blk V wr.heap.size (.cells (tzB z) 57)) := by rw [← hV]; exact Blk.new _ _
   have HXV := Lib.hid (HXW.out.below HBV.out HXW.out.lt)
   have HSZ : Hid (W.heap.size ≤ wr.heap.size) := HBR.out.size
   rw [hV]
   clear hV c0 c1 c2 c3 c4 c5 hix hb
   have k9 := HXV.out
   have x0 := k9.cell 0 (v := .slice EA 2 ce) rfl
   have x1 := k9.cell 1 (v := .slice WA nw cw) rfl
   have x2 := k9.cell 2 (v := .slice TA zs.length ct) rfl
   have xl := k9.lt
   clear k9
   have k9 := HTV2.out
   have t0 := k9.cell 0 (v := .int .i64 (z).v.end_) rfl
   have t1 := k9.cell 1 (v := .int .i64 (z).v.life) rfl
   have t2 := k9.cell 2 (v := .int .i64 (z).v.peer) rfl
   have t3 := k9.cell 3 (v := .slice (z).S (z).v.sent.length (z).cs) rfl
   have t4 := k9.cell 4 (v := .slice (z).L (z).v.lost.length (z).cl) rfl
   have t5 := k9.cell 5 (v := .slice (z).K (z).v.taken.length (z).ck) rfl
   have tl := k9.lt
   clear k9
   go_wp2_with fail
   refine (other_any (.slice EA 2 ce) (.slice WA nw cw) TA ct zs z V rfl rfl (HLW.out.tales.below HBV.out (Nat.le_refl _)) HZE.out).mono ?_
   rintro r w5 ⟨⟨u, is, rfl, hu⟩, hB5⟩
   have HU := Lib.hid hu
   have HB5 : Hid (Below W.heap.size W w5) := HBV.out.trans (hB5.mono HBV.out.size)
   have HT5 := Lib.hid (HTV2.out.below hB5 HTV2.out.lt)
   have HX5 := Lib.hid (HXV.out.below hB5 HXV.out.lt)
   have HSV : Hid (V.heap.size ≤ w5.heap.size) := hB5.size
   clear hu hB5 x0 x1 x2 xl t0 t1 t2 t3 t4 t5 tl
   unfold tzV
   go_upto_region 8 with fail
   obtain ⟨X, hX⟩ : ∃ X, w5.alloc (.cells #[.int .i64 u.v.end_, .int .i64 u.v.life, .int .i64 u.v.peer, .slice u.S u.v.sent.length u.cs, .slice u.L u.v.lost.length u.cl, .slice u.K u.v.taken.length u.ck] 57) = X := ⟨_, rfl⟩
   have HB5X : Hid (Below w5.heap.size w5 X) := by rw [← hX]; exact (Below.refl _ w5).alloc (Nat.le_refl _) _
   have HUX : Hid (Blk X w5.heap.size (.cells (tzB u) 57)) := by rw [← hX]; exact Blk.new _ _
   have HT6 := Lib.hid (HT5.out.below HB5X.out HT5.out.lt)
   have HLX := Lib.hid (HLW.out.below (HB5.out.trans (HB5X.out.mono HB5.out.size)))
   rw [hX]
   clear hX
   have k9 := HT6.out
   have t0 := k9.cell 0 (v := .int .i64 (z).v.end_) rfl
   have t1 := k9.cell 1 (v := .int .i64 (z).v.life) rfl
   have t2 := k9.cell 2 (v := .int .i64 (z).v.peer) rfl
   have t3 := k9.cell 3 (v := .slice (z).S (z).v.sent.length (z).cs) rfl
   have t4 := k9.cell 4 (v := .slice (z).L (z).v.lost.length (z).cl) rfl
   have t5 := k9.cell 5 (v := .slice (z).K (z).v.taken.length (z).ck) rfl
   have tl := k9.lt
   clear k9
   have k9 := HUX.out
   have s0 := k9.cell 0 (v := .int .i64 (u).v.end_) rfl
   have s1 := k9.cell 1 (v := .int .i64 (u).v.life) rfl
   have s2 := k9.cell 2 (v := .int .i64 (u).v.peer) rfl
   have s3 := k9.cell 3 (v := .slice (u).S (u).v.sent.length (u).cs) rfl
   have s4 := k9.cell 4 (v := .slice (u).L (u).v.lost.length (u).cl) rfl
   have s5 := k9.cell 5 (v := .slice (u).K (u).v.taken.length (u).ck) rfl
   have sl := k9.lt
   clear k9
   have hu2 := HU.out
   rw [HTV.out] at hu2
   clear HU
   rcases hu2 with ⟨rfl, hum, hut⟩ | ⟨rfl, rfl, hut⟩
   ·have HZI : Hid (z ∈ zs) := List.mem_of_getElem? HZ.out
    have HBG : Hid (begB z.v.taken u.v.sent = true) := begB_pre (HZO.out.1 u.v hut)
    have HUI : Hid (u ∈ zs) := hum
    clear hum hut
    go_wp2_with fail
    refine (begins_any z.K z.ck z.v.taken u.S u.cs u.v.sent X (HLX.out.txt z HZI.out).2.2 (HLX.out.txt u HUI.out).1 (HLX.out.cap u HUI.out).1).mono ?_
    rintro r w6 ⟨rfl, hB6⟩
    rw [HBG.out]
    have HB6 : Hid (Below w5.heap.size w5 w6) := HB5X.out.trans (hB6.mono HB5X.out.size)
    clear hB6 t0 t1 t2 t3 t4 t5 tl s0 s1 s2 s3 s4 s5 sl
    go_upto_region 10 with fail
    -- the tales ahead of this one are of elder sessions
    have HXX := Lib.hid (HX5.out.below HB6.out HX5.out.lt)
    have HTX := Lib.hid (HT5.out.below HB6.out HT5.out.lt)
    have HBX : Hid (Below W.heap.size W w6) := HB5.out.trans (Below.mono HB6.out HB5.out.size)
    have k9 := HXX.out
    have x0 := k9.cell 0 (v := .slice EA 2 ce) rfl
    have x1 := k9.cell 1 (v := .slice WA nw cw) rfl
    have x2 := k9.cell 2 (v := .slice TA zs.length ct) rfl
    have xl := k9.lt
    clear k9
    have hkc : k ≤ ct := by have := HCT.out; omega
    go_wp2_with fail
    clear x0 x1 x2 xl hkc
    go_loopg [57] k (fun g jv wx => ∃ j : Nat, j + g = k ∧ jv = .int .i64 (j : Int) ∧ Below (w6).heap.size w6 wx)
    case atStart => exact ⟨0, Nat.zero_add _, rfl, Below.refl _ _⟩
    case round =>
     obtain ⟨j, hj, rfl, hB⟩ := hrel
     obtain ⟨wx, rfl⟩ : ∃ wx, wx = wr := ⟨_, rfl⟩
     have HJ := Lib.hid hj
     have HBJ := Lib.hid hB
     have HTJ := Lib.hid (HTX.out.below hB HTX.out.lt)
     have HBJ2 : Hid (Below W.heap.size W wx) := HBX.out.trans (hB.mono HBX.out.size)
     clear hj hB
     by_cases hlj : (j : Int) < (k : Int)
     ·have htk : (zs.take k).length = k := by rw [List.length_take]; omega
      have hpre : tzs (zs.take k) <+: tzs zs := by
       have e1 : tzs zs = tzs (zs.take k) ++ tzs (zs.drop k) := by unfold tzs; rw [← List.flatMap_append, List.take_append_drop]
       rw [e1]
       exact List.prefix_append _ _
      obtain ⟨y, yb, yo, hy, hyb, hyi, e0, e1, e2, e3, e4, e5⟩ := tza (l := zs.take k) (c := ct) (k := j) (cells_pre (HLW.out.tales.below HBJ2.out (Nat.le_refl _)) hpre) (by omega)
      rw [htk] at hyi
      rw [List.getElem?_take, if_pos (by omega)] at hy
      have HY : Hid (y.v.end_ = z.v.end_ → y.v.life = z.v.life → y.v.peer < z.v.peer) := fun h1 h2 =>
       ord_lt HSF.out.ord (j := j) (k := k) (by rw [← HTV.out, List.getElem?_map, hy]; rfl) (by rw [← HTV.out, List.getElem?_map, HZ.out]; rfl) (by omega) h1 h2
      have hw2 : IntKind.i64.wrap ((j : Int) + 1) = (j : Int) + 1 := wrap_ok ⟨by omega, by have := HZL2.out; omega⟩
      clear hy htk hpre
      have k9 := HTJ.out
      have t0 := k9.cell 0 (v := .int .i64 (z).v.end_) rfl
      have t1 := k9.cell 1 (v := .int .i64 (z).v.life) rfl
      have t2 := k9.cell 2 (v := .int .i64 (z).v.peer) rfl
      have t3 := k9.cell 3 (v := .slice (z).S (z).v.sent.length (z).cs) rfl
      have t4 := k9.cell 4 (v := .slice (z).L (z).v.lost.length (z).cl) rfl
      have t5 := k9.cell 5 (v := .slice (z).K (z).v.taken.length (z).ck) rfl
      have tl := k9.lt
      clear k9
      by_cases k1 : y.v.end_ = z.v.end_
      ·have b1 : (y.v.end_ == z.v.end_) = true := beq_iff_eq.2 k1
       by_cases k2 : y.v.life = z.v.life
       ·have b2 : (y.v.life == z.v.life) = true := beq_iff_eq.2 k2
        have b3 : decide (z.v.peer ≤ y.v.peer) = false := decide_eq_false (by have := HY.out k1 k2; omega)
        clear k1 k2
        go_wp2_with fail
        go_roundg (k - (j + 1))
        case measure => have := HJ.out; omega
        case rel => exact ⟨j + 1, by omega, rfl, HBJ.out.alloc HBJ.out.size _⟩
       ·have b2 : (y.v.life == z.v.life) = false := beq_eq_false_iff_ne.2 k2
        clear k1 k2
        go_wp2_with fail
        go_roundg (k - (j + 1))
        case measure => have := HJ.out; omega
        case rel => exact ⟨j + 1, by omega, rfl, HBJ.out.alloc HBJ.out.size _⟩
      ·have b1 : (y.v.end_ == z.v.end_) = false := beq_eq_false_iff_ne.2 k1
       clear k1
       go_wp2_with fail
       go_roundg (k - (j + 1))
       case measure => have := HJ.out; omega
       case rel => exact ⟨j + 1, by omega, rfl, HBJ.out.alloc HBJ.out.size _⟩
     ·go_wp2_with fail
      go_roundg (zs.length - (k + 1))
      case measure => have := HK.out; omega
      case rel => exact ⟨k + 1, by omega, rfl, HBJ2.out⟩
   ·have hz0 : z.v.taken.length = 0 := by rw [HZO.out.2 hut]; rfl
    rw [hz0] at t5
    clear hz0 hut
    go_upto_region 10 with fail
    -- the tales ahead of this one are of elder sessions
    have HXX := Lib.hid (HX5.out.below HB5X.out HX5.out.lt)
    have HTX := Lib.hid (HT5.out.below HB5X.out HT5.out.lt)
    have HBX : Hid (Below W.heap.size W X) := HB5.out.trans (Below.mono HB5X.out HB5.out.size)
    have k9 := HXX.out
    have x0 := k9.cell 0 (v := .slice EA 2 ce) rfl
    have x1 := k9.cell 1 (v := .slice WA nw cw) rfl
    have x2 := k9.cell 2 (v := .slice TA zs.length ct) rfl
    have xl := k9.lt
    clear k9
    have hkc : k ≤ ct := by have := HCT.out; omega
    go_wp2_with fail
    clear x0 x1 x2 xl hkc
    go_loopg [57] k (fun g jv wx => ∃ j : Nat, j + g = k ∧ jv = .int .i64 (j : Int) ∧ Below (X).heap.size X wx)
    case atStart => exact ⟨0, Nat.zero_add _, rfl, Below.refl _ _⟩
    case round =>
     obtain ⟨j, hj, rfl, hB⟩ := hrel
     obtain ⟨wx, rfl⟩ : ∃ wx, wx = wr := ⟨_, rfl⟩
     have HJ := Lib.hid hj
     have HBJ := Lib.hid hB
     have HTJ := Lib.hid (HTX.out.below hB HTX.out.lt)
     have HBJ2 : Hid (Below W.heap.size W wx) := HBX.out.trans (hB.mono HBX.out.size)
     clear hj hB
     by_cases hlj : (j : Int) < (k : Int)
     ·have htk : (zs.take k).length = k := by rw [List.length_take]; omega
      have hpre : tzs (zs.take k) <+: tzs zs := by
       have e1 : tzs zs = tzs (zs.take k) ++ tzs (zs.drop k) := by unfold tzs; rw [← List.flatMap_append, List.take_append_drop]
       rw [e1]
       exact List.prefix_append _ _
      obtain ⟨y, yb, yo, hy, hyb, hyi, e0, e1, e2, e3, e4, e5⟩ := tza (l := zs.take k) (c := ct) (k := j) (cells_pre (HLW.out.tales.below HBJ2.out (Nat.le_refl _)) hpre) (by omega)
      rw [htk] at hyi
      rw [List.getElem?_take, if_pos (by omega)] at hy
      have HY : Hid (y.v.end_ = z.v.end_ → y.v.life = z.v.life → y.v.peer < z.v.peer) := fun h1 h2 =>
       ord_lt HSF.out.ord (j := j) (k := k) (by rw [← HTV.out, List.getElem?_map, hy]; rfl) (by rw [← HTV.out, List.getElem?_map, HZ.out]; rfl) (by omega) h1 h2
      have hw2 : IntKind.i64.wrap ((j : Int) + 1) = (j : Int) + 1 := wrap_ok ⟨by omega, by have := HZL2.out; omega⟩
      clear hy htk hpre
      have k9 := HTJ.out
      have t0 := k9.cell 0 (v := .int .i64 (z).v.end_) rfl
      have t1 := k9.cell 1 (v := .int .i64 (z).v.life) rfl
      have t2 := k9.cell 2 (v := .int .i64 (z).v.peer) rfl
      have t3 := k9.cell 3 (v := .slice (z).S (z).v.sent.length (z).cs) rfl
      have t4 := k9.cell 4 (v := .slice (z).L (z).v.lost.length (z).cl) rfl
      have t5 := k9.cell 5 (v := .slice (z).K (z).v.taken.length (z).ck) rfl
      have tl := k9.lt
      clear k9
      by_cases k1 : y.v.end_ = z.v.end_
      ·have b1 : (y.v.end_ == z.v.end_) = true := beq_iff_eq.2 k1
       by_cases k2 : y.v.life = z.v.life
       ·have b2 : (y.v.life == z.v.life) = true := beq_iff_eq.2 k2
        have b3 : decide (z.v.peer ≤ y.v.peer) = false := decide_eq_false (by have := HY.out k1 k2; omega)
        clear k1 k2
        go_wp2_with fail
        go_roundg (k - (j + 1))
        case measure => have := HJ.out; omega
        case rel => exact ⟨j + 1, by omega, rfl, HBJ.out.alloc HBJ.out.size _⟩
       ·have b2 : (y.v.life == z.v.life) = false := beq_eq_false_iff_ne.2 k2
        clear k1 k2
        go_wp2_with fail
        go_roundg (k - (j + 1))
        case measure => have := HJ.out; omega
        case rel => exact ⟨j + 1, by omega, rfl, HBJ.out.alloc HBJ.out.size _⟩
      ·have b1 : (y.v.end_ == z.v.end_) = false := beq_eq_false_iff_ne.2 k1
       clear k1
       go_wp2_with fail
       go_roundg (k - (j + 1))
       case measure => have := HJ.out; omega
       case rel => exact ⟨j + 1, by omega, rfl, HBJ.out.alloc HBJ.out.size _⟩
     ·go_wp2_with fail
      go_roundg (zs.length - (k + 1))
      case measure => have := HK.out; omega
      case rel => exact ⟨k + 1, by omega, rfl, HBJ2.out⟩
  ·go_wp2_with fail
   refine (works_any wr).mono ?_
   rintro r w9 ⟨rfl, hB9⟩
   go_wp2
   go_ret
   exact ⟨rfl, HBR0.out.trans (hB9.mono HBR0.out.size)⟩
end Go.Proofs.YtejabnoidhlfaaaDoor

/- SessTold: the walk. -/
namespace Go.Proofs.YtejabnoidhlfaaaDoor
open Go.RowKit Go.Maps

theorem eza {w : World} {A : Option Addr} {l : List Ez} {c k : Nat} (h : Cells w A (ezs l)) (hk : k < l.length) : ∃ z b o, l[k]? = some z ∧ b < w.heap.size ∧ (∀ w', (Instr.indexAt 24 (.slice A l.length c) (.int .i64 (k : Int))).run Tryd.prog w' = .ok (.pointer (some ⟨b, o, none⟩)) w') ∧
  w.cell? ⟨b, o, none⟩ = some (.int .i64 z.v.life) ∧ w.cell? ⟨b, o + 1, none⟩ = some (.int .i64 z.v.peer) ∧ w.cell? ⟨b, o + 2, none⟩ = some (.int .i64 z.v.phase) ∧ w.cell? ⟨b, o + 3, none⟩ = some (.int .i64 z.v.base) ∧
  w.cell? ⟨b, o + 4, none⟩ = some (.slice z.A z.v.out.length z.c) ∧ w.cell? ⟨b, o + 5, none⟩ = some (.int .i64 z.v.want) ∧ w.cell? ⟨b, o + 6, none⟩ = some (.slice z.D z.v.inn.length z.d) := by
 obtain ⟨x, b, o, hx, hb, hix, hc⟩ := flat_at (c := c) h ezC_len Tryd.underlying24 rEn.size_eq (by decide) hk
 exact ⟨x, b, o, hx, hb, hix, hc 0 _ rfl, hc 1 _ rfl, hc 2 _ rfl, hc 3 _ rfl, hc 4 _ rfl, hc 5 _ rfl, hc 6 _ rfl⟩
/-- Of the messages of a session of the present life, those that are neither lost nor in Out were taken. -/
theorem Saf.toldN {l : Lp} (h : Saf l) {t : Ta} (ht : t ∈ l.tales) (hl : t.life = (l.end_ t.end_).life) : ∃ m : Nat, (t.peer = (l.end_ t.end_).peer → (t.sent.length : Int) - t.lost.length - (flyN (l.end_ t.end_) : Int) = m) ∧ (t.peer ≠ (l.end_ t.end_).peer → (t.sent.length : Int) - t.lost.length = m) ∧ m ≤ t.sent.length ∧
  (∀ u, tale l.tales (1 - t.end_) t.peer t.life = some u → m ≤ u.taken.length ∧ t.sent.take m = u.taken.take m) ∧ (tale l.tales (1 - t.end_) t.peer t.life = none → m = 0) := by
 have hi := h.ends t ht
 have ht0 := tale_of_mem h.ord ht
 have hp := h.pre (1 - t.end_) (other_i hi) t.peer t.life
 rw [other_ne, sentOf_some ht0] at hp
 have key : ∀ m : Nat, m ≤ (takenOf l.tales (1 - t.end_) t.peer t.life).length → m ≤ t.sent.length ∧ (∀ u, tale l.tales (1 - t.end_) t.peer t.life = some u → m ≤ u.taken.length ∧ t.sent.take m = u.taken.take m) ∧ (tale l.tales (1 - t.end_) t.peer t.life = none → m = 0) := fun m hm => by
  have h1 := hp.length_le
  refine ⟨by omega, fun u hu => ?_, fun hu => ?_⟩
  ·rw [takenOf_some hu] at hm hp
   obtain ⟨r, hr⟩ := hp
   exact ⟨hm, by rw [← hr, List.take_append_of_le_length hm]⟩
  ·rw [takenOf_none hu] at hm
   simpa using hm
 by_cases hc : t.peer = (l.end_ t.end_).peer
 ·have hph : (l.end_ t.end_).phase = 3 := ((h.key t.end_ hi _ _ _ ht0).2.2.2 hl).2 hc
  have hcu := h.cur t.end_ hi hph
  obtain ⟨k, v, _, _, _, _, _, a6, a7⟩ := h.nowT hi hph
  rw [← hl, ← hc, ht0] at a7
  injection a7 with a7
  subst a7
  have hls := hcu.lost
  rw [← hl, ← hc, lostOf_some ht0] at hls
  have hb := hcu.base
  rw [← hl, ← hc] at hb
  have hb0 := (good_iff.1 (h.ok.good t.end_)).base
  refine ⟨(l.end_ t.end_).base.toNat, fun _ => by rw [hls, List.length_nil]; omega, fun hn => absurd hc hn, key _ (by omega)⟩
 ·have htl := h.told t.end_ hi t.peer t (by rw [← hl]; exact ht0) hc
  rw [← hl] at htl
  refine ⟨t.sent.length - t.lost.length, fun hn => absurd hn hc, fun _ => by omega, key _ (by omega)⟩
set_option maxRecDepth 100000 in
set_option maxHeartbeats 8000000 in
theorem walk_told (A : Option Addr) (c N : Nat) (l : List Ac) (w : World) (h : Cells w A (acs l)) (hN : l.length = min N 150) (hc : N ≤ c) (ha : ∀ a ∈ l, AcOk a) (hP : Pow w) :
  Calls Tryd.prog 7 #[.slice A N c] w fun r w' => r = .returned (.bool true) ∧ Below w.heap.size w w' := by
 have HC := Lib.hid h
 have HA := Lib.hid ha
 have HP := Lib.hid hP
 have HNN := Lib.hid hN
 clear h ha hP hN
 go_enter Tryd.func7, Tryd.ntmps7
 go_wp2_with fail
 refine (acts_any A c N l w HC.out HNN.out hc HA.out HP.out).mono ?_
 rintro r w1 ⟨D, d, rfl, ho, hB1⟩
 have HLD : Hid ((actsD l).length ≤ 150) := (actsD_ok HA.out).1
 have HCD : Hid (Cells w1 D (dds (actsD l))) := (Cells.of_own ho (by rw [dds_len]; have := HLD.out; omega)).1
 have HB1 := Lib.hid hB1
 clear ho hB1
 go_wp2_with fail
 refine (play_any D d (actsD l) w1 HCD.out).mono ?_
 rintro r w2 ⟨EA, ce, WA, cw, TA, ct, es, zs, rfl, hln, hB2, hct⟩
 have hp2 := acts_played HA.out
 have HSF := Lib.hid (played_saf hp2)
 rw [played_show hp2] at hln hct ⊢
 obtain ⟨P, HPP⟩ : ∃ P, Hid ((playedA (actsD l)).1 = P) := ⟨_, rfl⟩
 rw [HPP.out] at hln hct HSF ⊢
 have HTV : Hid (zs.map Tz.v = P.tales) := hln.tv
 have HZL : Hid (P.tales.length = zs.length) := by show _ = _; rw [← HTV.out, List.length_map]
 have HCT : Hid (zs.length ≤ ct) := by show _ ≤ _; rw [← HZL.out]; exact hct
 have HLN := Lib.hid hln
 have HB2 : Hid (Below w.heap.size w w2) := HB1.out.trans (hB2.mono HB1.out.size)
 have HZM : Hid (∀ z ∈ zs, z.v ∈ P.tales) := fun z hz => by rw [← HTV.out]; exact List.mem_map_of_mem hz
 clear hln hct hB2 hp2
 unfold lnV showA
 rw [HZL.out]
 simp only [List.length_cons, List.length_nil, Nat.zero_add, Nat.reduceAdd]
 obtain ⟨nw, hnw⟩ : ∃ nw, P.wire.length = nw := ⟨_, rfl⟩
 rw [hnw]
 clear hnw
 go_upto_region 2 with fail
 obtain ⟨W, hW⟩ : ∃ W, w2.alloc (.cells #[.slice EA 2 ce, .slice WA nw cw, .slice TA zs.length ct] 28) = W := ⟨_, rfl⟩
 have HBW : Hid (Below w.heap.size w W) := by rw [← hW]; exact HB2.out.alloc HB2.out.size _
 have HXW : Hid (Blk W w2.heap.size (.cells #[.slice EA 2 ce, .slice WA nw cw, .slice TA zs.length ct] 28)) := by rw [← hW]; exact Blk.new _ _
 have HLW : Hid (LnAt W w1.heap.size (showA P) EA WA TA es zs) := by rw [← hW]; exact HLN.out.below ((Below.refl _ _).alloc (Nat.le_refl _) _)
 rw [hW]
 clear hW
 have HEV : Hid (es.map Ez.v = [P.e0, P.e1]) := HLN.out.ev
 have HE2 : Hid (es.length = 2) := by have h9 := congrArg List.length HEV.out; rw [List.length_map] at h9; exact h9
 have k9 := HXW.out
 have x0 := k9.cell 0 (v := .slice EA 2 ce) rfl
 have x1 := k9.cell 1 (v := .slice WA nw cw) rfl
 have x2 := k9.cell 2 (v := .slice TA zs.length ct) rfl
 have xl := k9.lt
 clear k9
 go_wp2_with fail
 clear x0 x1 x2 xl
 go_loopg [28] zs.length (fun g iv wr => ∃ k : Nat, k + g = zs.length ∧ iv = .int .i64 (k : Int) ∧ Below W.heap.size W wr)
 case atStart => exact ⟨0, Nat.zero_add _, rfl, Below.refl _ _⟩
 case round =>
  obtain ⟨k, hk, rfl, hB⟩ := hrel
  have HK := Lib.hid hk
  have HBR := Lib.hid hB
  have HBR0 : Hid (Below w.heap.size w wr) := HBW.out.trans (hB.mono HBW.out.size)
  clear hk hB
  by_cases hlt : (k : Int) < (zs.length : Int)
  ·obtain ⟨z, b, o, hz, hb, hix, c0, c1, c2, c3, c4, c5⟩ := tza (c := ct) (k := k) (HLW.out.tales.below HBR.out (Nat.le_refl _)) (by omega)
   have HZ := Lib.hid hz
   have HZI : Hid (z ∈ zs) := List.mem_of_getElem? hz
   have HZE := Lib.hid (HSF.out.ends _ (HZM.out z HZI.out))
   have HZB : Hid (zs.length ≤ 100000 ∧ z.v.sent.length ≤ 100000 ∧ z.v.lost.length ≤ 100000 ∧ z.v.taken.length ≤ 100000) := by
    have h9 := (played_k (acts_played HA.out)).2.1.bulk
    rw [HPP.out] at h9
    have h8 := h9.tales
    rw [HZL.out] at h8
    have h7 := h9.txt z.v (HZM.out z HZI.out)
    show _ ∧ _ ∧ _ ∧ _
    omega
   have HZL2 : Hid (zs.length ≤ 1000000000) := by have := HZB.out.1; show _ ≤ _; omega
   have hw1 : IntKind.i64.wrap ((k : Int) + 1) = (k : Int) + 1 := wrap_ok ⟨by omega, by have := HZL2.out; omega⟩
   clear hz
   go_upto_region 7 with fail
   obtain ⟨V, hV⟩ : ∃ V, wr.alloc (.cells #[.int .i64 z.v.end_, .int .i64 z.v.life, .int .i64 z.v.peer, .slice z.S z.v.sent.length z.cs, .slice z.L z.v.lost.length z.cl, .slice z.K z.v.taken.length z.ck] 57) = V := ⟨_, rfl⟩
   have HBV : Hid (Below W.heap.size W V) := by rw [← hV]; exact HBR.out.alloc HBR.out.size _
   have HTV2 : Hid (Blk V wr.heap.size (.cells (tzB z) 57)) := by rw [← hV]; exact Blk.new _ _
   have HXV := Lib.hid (HXW.out.below HBV.out HXW.out.lt)
   have HSZ : Hid (W.heap.size ≤ wr.heap.size) := HBR.out.size
   rw [hV]
   clear hV c0 c1 c2 c3 c4 c5 hix hb
   have k9 := HXV.out
   have x0 := k9.cell 0 (v := .slice EA 2 ce) rfl
   have x1 := k9.cell 1 (v := .slice WA nw cw) rfl
   have x2 := k9.cell 2 (v := .slice TA zs.length ct) rfl
   have xl := k9.lt
   clear k9
   have k9 := HTV2.out
   have t0 := k9.cell 0 (v := .int .i64 (z).v.end_) rfl
   have t1 := k9.cell 1 (v := .int .i64 (z).v.life) rfl
   have t2 := k9.cell 2 (v := .int .i64 (z).v.peer) rfl
   have t3 := k9.cell 3 (v := .slice (z).S (z).v.sent.length (z).cs) rfl
   have t4 := k9.cell 4 (v := .slice (z).L (z).v.lost.length (z).cl) rfl
   have t5 := k9.cell 5 (v := .slice (z).K (z).v.taken.length (z).ck) rfl
   have tl := k9.lt
   clear k9
   obtain ⟨i, hi⟩ : ∃ i : Nat, z.v.end_ = (i : Int) := ⟨z.v.end_.toNat, by have := HZE.out; omega⟩
   have hi2 : i < 2 := by have := HZE.out; omega
   obtain ⟨y, yb, yo, hy, hyb, hyi, y0, y1, y2, y3, y4, y5, y6⟩ := eza (c := ce) (k := i) (HLW.out.ends.below HBV.out (Nat.le_refl _)) (by have := HE2.out; omega)
   rw [HE2.out] at hyi
   have hand : bits BinOp.and IntKind.i64 (i : Int) 1 = (i : Int) := by
    have h9 : i = 0 ∨ i = 1 := by omega
    rcases h9 with rfl | rfl <;> rfl
   have HYV : Hid (y.v = P.end_ z.v.end_ ∧ y ∈ es) := by
    refine ⟨?_, List.mem_of_getElem? hy⟩
    have h9 := congrArg (fun l => l[i]?) HEV.out
    simp only [List.getElem?_map, hy, Option.map_some] at h9
    have h8 : i = 0 ∨ i = 1 := by omega
    rcases h8 with rfl | rfl
    ·injection h9 with h9
     rw [h9, hi]; rfl
    ·injection h9 with h9
     rw [h9, hi]; rfl
   go_upto_region 8 with fail
   obtain ⟨Y, hY⟩ : ∃ Y, V.alloc (.cells #[.int .i64 y.v.life, .int .i64 y.v.peer, .int .i64 y.v.phase, .int .i64 y.v.base, .slice y.A y.v.out.length y.c, .int .i64 y.v.want, .slice y.D y.v.inn.length y.d] 38) = Y := ⟨_, rfl⟩
   have HBY : Hid (Below V.heap.size V Y) := by rw [← hY]; exact (Below.refl _ V).alloc (Nat.le_refl _) _
   have HYY : Hid (Blk Y V.heap.size (.cells #[.int .i64 y.v.life, .int .i64 y.v.peer, .int .i64 y.v.phase, .int .i64 y.v.base, .slice y.A y.v.out.length y.c, .int .i64 y.v.want, .slice y.D y.v.inn.length y.d] 38)) := by rw [← hY]; exact Blk.new _ _
   have HTY := Lib.hid (HTV2.out.below HBY.out HTV2.out.lt)
   have HXY := Lib.hid (HXV.out.below HBY.out HXV.out.lt)
   have HBYW : Hid (Below W.heap.size W Y) := HBV.out.trans (HBY.out.mono HBV.out.size)
   rw [hY]
   clear hY hand hyi hyb y0 y1 y2 y3 y4 y5 y6 x0 x1 x2 xl t0 t1 t2 t3 t4 t5 tl hi hi2 hy
   have k9 := HTY.out
   have t0 := k9.cell 0 (v := .int .i64 (z).v.end_) rfl
   have t1 := k9.cell 1 (v := .int .i64 (z).v.life) rfl
   have t2 := k9.cell 2 (v := .int .i64 (z).v.peer) rfl
   have t3 := k9.cell 3 (v := .slice (z).S (z).v.sent.length (z).cs) rfl
   have t4 := k9.cell 4 (v := .slice (z).L (z).v.lost.length (z).cl) rfl
   have t5 := k9.cell 5 (v := .slice (z).K (z).v.taken.length (z).ck) rfl
   have tl := k9.lt
   clear k9
   have k9 := HYY.out
   have s0 := k9.cell 0 (v := .int .i64 y.v.life) rfl
   have s1 := k9.cell 1 (v := .int .i64 y.v.peer) rfl
   have s2 := k9.cell 2 (v := .int .i64 y.v.phase) rfl
   have s3 := k9.cell 3 (v := .int .i64 y.v.base) rfl
   have s4 := k9.cell 4 (v := .slice y.A y.v.out.length y.c) rfl
   have s5 := k9.cell 5 (v := .int .i64 y.v.want) rfl
   have s6 := k9.cell 6 (v := .slice y.D y.v.inn.length y.d) rfl
   have sl := k9.lt
   clear k9
   by_cases hlf : z.v.life = y.v.life
   rotate_left
   ·have b1 : (z.v.life != y.v.life) = true := by simpa using hlf
    clear hlf
    go_wp2_with fail
    go_roundg (zs.length - (k + 1))
    case measure => have := HK.out; omega
    case rel => exact ⟨k + 1, by omega, rfl, HBYW.out⟩
   have b1 : (z.v.life != y.v.life) = false := by simpa using hlf
   obtain ⟨m, hm1, hm2, hm3, hm4, hm5⟩ := HSF.out.toldN (HZM.out z HZI.out) (by rw [hlf, HYV.out.1])
   rw [← HYV.out.1] at hm1 hm2
   have HM1 := Lib.hid hm1
   have HM2 := Lib.hid hm2
   have HM3 := Lib.hid hm3
   have HM4 := Lib.hid hm4
   have HM5 := Lib.hid hm5
   obtain ⟨a, hal⟩ : ∃ a : Int, Hid ((z.v.sent.length : Int) - z.v.lost.length = a) := ⟨_, rfl⟩
   have hwa : IntKind.i64.wrap ((z.v.sent.length : Int) - z.v.lost.length) = a := by rw [← hal.out]; exact wrap_ok (by have := HZB.out; exact ⟨by omega, by omega⟩)
   have HOL : Hid (y.v.out.length ≤ 1000) := by
    have h9 := (good_iff.1 (HSF.out.ok.good z.v.end_)).len
    rw [← HYV.out.1] at h9
    show _ ≤ _
    omega
   clear hlf hm1 hm2 hm3 hm4 hm5
   go_upto_if 55 with fail
   go_cut [8] from 51 to 86 (fun v wx => v = .int .i64 (m : Int) ∧ Below Y.heap.size Y wx)
   case first =>
    by_cases hpe : z.v.peer = y.v.peer
    ·have b2 : (z.v.peer == y.v.peer) = true := beq_iff_eq.2 hpe
     have hwm : IntKind.i64.wrap (a - (flyN y.v : Int)) = (m : Int) := by
      have h9 := HM1.out hpe
      have h8 := hal.out
      have h7 : a - (flyN y.v : Int) = (m : Int) := by omega
      rw [h7]
      exact wrap_ok (by have := HM3.out; have := HZB.out; exact ⟨by omega, by omega⟩)
     clear hpe
     go_wp2_with (go_at_call 17; go_must (refine (flying2_any y.v y.A y.c y.D y.d Y HOL.out).mono ?_); rintro r w6 ⟨rfl, hB6⟩)
     go_meet
     exact ⟨rfl, hB6⟩
    ·have b2 : (z.v.peer == y.v.peer) = false := beq_eq_false_iff_ne.2 hpe
     have HAM : Hid (a = (m : Int)) := by show _ = _; rw [← HM2.out hpe]; exact hal.out.symm
     clear hpe
     go_wp2_with fail
     go_meet
     exact ⟨by rw [HAM.out], Below.refl _ _⟩
   case rest =>
    obtain ⟨rfl, hB6⟩ := hcut
    clear hwa t0 t1 t2 t3 t4 t5 tl s0 s1 s2 s3 s4 s5 s6 sl b1
    obtain ⟨V6, rfl⟩ : ∃ V6, V6 = wc := ⟨_, rfl⟩
    have HX6 := Lib.hid (HXY.out.below hB6 HXY.out.lt)
    have HT6 := Lib.hid (HTY.out.below hB6 HTY.out.lt)
    have HB6 : Hid (Below W.heap.size W V6) := HBYW.out.trans (hB6.mono HBYW.out.size)
    clear hB6
    have k9 := HX6.out
    have x0 := k9.cell 0 (v := .slice EA 2 ce) rfl
    have x1 := k9.cell 1 (v := .slice WA nw cw) rfl
    have x2 := k9.cell 2 (v := .slice TA zs.length ct) rfl
    have xl := k9.lt
    clear k9
    have k9 := HT6.out
    have t0 := k9.cell 0 (v := .int .i64 (z).v.end_) rfl
    have t1 := k9.cell 1 (v := .int .i64 (z).v.life) rfl
    have t2 := k9.cell 2 (v := .int .i64 (z).v.peer) rfl
    have t3 := k9.cell 3 (v := .slice (z).S (z).v.sent.length (z).cs) rfl
    have t4 := k9.cell 4 (v := .slice (z).L (z).v.lost.length (z).cl) rfl
    have t5 := k9.cell 5 (v := .slice (z).K (z).v.taken.length (z).ck) rfl
    have tl := k9.lt
    clear k9
    go_wp2_with fail
    refine (other_any (.slice EA 2 ce) (.slice WA nw cw) TA ct zs z V6 rfl rfl (HLW.out.tales.below HB6.out (Nat.le_refl _)) HZE.out).mono ?_
    rintro r w7 ⟨⟨u, is, rfl, hu⟩, hB7⟩
    rw [HTV.out] at hu
    have HU : Hid (m ≤ u.v.taken.length ∧ z.v.sent.take m = u.v.taken.take m) := by
     rcases hu with ⟨_, _, h9⟩ | ⟨_, h8, h9⟩
     ·exact HM4.out u.v h9
     ·have h7 := HM5.out h9
      subst h7
      exact ⟨Nat.zero_le _, rfl⟩
    have HB7 : Hid (Below W.heap.size W w7) := HB6.out.trans (hB7.mono HB6.out.size)
    have HT7 := Lib.hid (HT6.out.below hB7 HT6.out.lt)
    have HUC : Hid (Cells w7 u.K (strs u.v.taken) ∧ u.v.taken.length ≤ u.ck) := by
     rcases hu with ⟨_, h8, _⟩ | ⟨_, h8, _⟩
     ·exact ⟨(HLW.out.txt u h8).2.2.below HB7.out (Nat.le_refl _), (HLW.out.cap u h8).2⟩
     ·subst h8
      exact ⟨Cells.nil _ _, Nat.le_refl _⟩
    clear hu hB7 x0 x1 x2 xl t0 t1 t2 t3 t4 t5 tl
    unfold tzV
    go_upto_region 13 with fail
    obtain ⟨X, hX⟩ : ∃ X, w7.alloc (.cells #[.int .i64 u.v.end_, .int .i64 u.v.life, .int .i64 u.v.peer, .slice u.S u.v.sent.length u.cs, .slice u.L u.v.lost.length u.cl, .slice u.K u.v.taken.length u.ck] 57) = X := ⟨_, rfl⟩
    have HBX : Hid (Below w7.heap.size w7 X) := by rw [← hX]; exact (Below.refl _ w7).alloc (Nat.le_refl _) _
    have HUX : Hid (Blk X w7.heap.size (.cells (tzB u) 57)) := by rw [← hX]; exact Blk.new _ _
    have HTX := Lib.hid (HT7.out.below HBX.out HT7.out.lt)
    have HBXW : Hid (Below W.heap.size W X) := HB7.out.trans (HBX.out.mono HB7.out.size)
    rw [hX]
    clear hX
    have hmt : m ≤ u.v.taken.length := HU.out.1
    have hmk : m ≤ u.ck := by have := HU.out.1; have := HUC.out.2; omega
    have hms : m ≤ z.cs := by have := HM3.out; have := (HLW.out.cap z HZI.out).1; omega
    have HL1 : Hid ((z.v.sent.take m).length = m) := by show _ = _; rw [List.length_take]; have := HM3.out; omega
    have HL2 : Hid ((u.v.taken.take m).length = m) := by show _ = _; rw [List.length_take]; omega
    have htl := HTX.out.lt
    have hul := HUX.out.lt
    refine draw (fun w' => Below X.heap.size X w') 21 rfl (by kernel_rfl) (fun Qd hQd => ?_)
    have HRD := fun (wI : World) (hI : (fun w' => Below X.heap.size X w') wI) => (have t3 := cell_chain hI htl (HTX.out.cell 3 (v := .slice z.S z.v.sent.length z.cs) rfl); have s5 := cell_chain hI hul (HUX.out.cell 5 (v := .slice u.K u.v.taken.length u.ck) rfl); And.intro t3 s5)
    apply anyI_step 0 rfl (by kernel_rfl)
    focus (intro wI hI Kv hKv; obtain ⟨t3, s5⟩ := HRD wI hI; go_simp; exact hKv)
    intro Kd hKd
    go_simp
    refine hKd _ ?_
    clear hKd Kd
    apply anyI_step 1 rfl (by kernel_rfl)
    focus (intro wI hI Kv hKv; obtain ⟨t3, s5⟩ := HRD wI hI; go_simp; exact hKv)
    intro Kd hKd
    go_simp
    refine hKd _ ?_
    clear hKd Kd
    apply anyI_step 2 rfl (by kernel_rfl)
    focus (intro wI hI Kv hKv; obtain ⟨t3, s5⟩ := HRD wI hI; go_simp; exact hKv)
    intro Kd hKd
    go_simp
    refine hKd _ ?_
    clear hKd Kd
    apply anyI_step 3 rfl (by kernel_rfl)
    focus (intro wI hI Kv hKv; obtain ⟨t3, s5⟩ := HRD wI hI; go_simp; exact hKv)
    intro Kd hKd
    go_simp
    refine hKd _ ?_
    clear hKd Kd
    apply anyI_step 4 rfl (by kernel_rfl)
    focus (intro wI hI Kv hKv; obtain ⟨t3, s5⟩ := HRD wI hI; go_simp; exact hKv)
    intro Kd hKd
    go_simp
    refine hKd _ ?_
    clear hKd Kd
    apply anyI_step 5 rfl (by kernel_rfl)
    focus (intro wI hI Kv hKv; obtain ⟨t3, s5⟩ := HRD wI hI; go_simp; exact hKv)
    intro Kd hKd
    go_simp
    refine hKd _ ?_
    clear hKd Kd
    apply anyI_step 6 rfl (by kernel_rfl)
    focus (intro wI hI Kv hKv; obtain ⟨t3, s5⟩ := HRD wI hI; go_simp; exact hKv)
    intro Kd hKd
    go_simp
    refine hKd _ ?_
    clear hKd Kd
    apply anyI_step 7 rfl (by kernel_rfl)
    focus (intro wI hI Kv hKv; obtain ⟨t3, s5⟩ := HRD wI hI; go_simp; exact hKv)
    intro Kd hKd
    go_simp
    refine hKd _ ?_
    clear hKd Kd
    apply anyI_step 8 rfl (by kernel_rfl)
    focus (intro wI hI Kv hKv; obtain ⟨t3, s5⟩ := HRD wI hI; go_simp; exact hKv)
    intro Kd hKd
    go_simp
    refine hKd _ ?_
    clear hKd Kd
    apply anyI_step 9 rfl (by kernel_rfl)
    focus (intro wI hI Kv hKv; obtain ⟨t3, s5⟩ := HRD wI hI; go_simp; exact hKv)
    intro Kd hKd
    go_simp
    refine hKd _ ?_
    clear hKd Kd
    apply anyI_step 10 rfl (by kernel_rfl)
    focus (intro wI hI Kv hKv; obtain ⟨t3, s5⟩ := HRD wI hI; go_simp; exact hKv)
    intro Kd hKd
    go_simp
    refine hKd _ ?_
    clear hKd Kd
    apply anyI_step 12 rfl (by kernel_rfl)
    focus (intro wI hI Kv hKv; obtain ⟨t3, s5⟩ := HRD wI hI; go_simp; exact hKv)
    intro Kd hKd
    go_simp
    refine hKd _ ?_
    clear hKd Kd
    apply anyI_step 14 rfl (by kernel_rfl)
    focus (intro wI hI Kv hKv; obtain ⟨t3, s5⟩ := HRD wI hI; go_simp; exact hKv)
    intro Kd hKd
    go_simp
    refine hKd _ ?_
    clear hKd Kd
    apply anyI_step 16 rfl (by kernel_rfl)
    focus (intro wI hI Kv hKv; obtain ⟨t3, s5⟩ := HRD wI hI; go_simp; exact hKv)
    intro Kd hKd
    go_simp
    refine hKd _ ?_
    clear hKd Kd
    apply anyI_step 11 rfl (by kernel_rfl)
    focus (intro wI hI Kv hKv; obtain ⟨t3, s5⟩ := HRD wI hI; go_simp; exact hKv)
    intro Kd hKd
    go_simp
    refine hKd _ ?_
    clear hKd Kd
    apply anyI_step 15 rfl (by kernel_rfl)
    focus (intro wI hI Kv hKv; obtain ⟨t3, s5⟩ := HRD wI hI; go_simp; exact hKv)
    intro Kd hKd
    go_simp
    refine hKd _ ?_
    clear hKd Kd
    apply anyI_step 13 rfl (by kernel_rfl)
    focus (intro wI hI Kv hKv; obtain ⟨t3, s5⟩ := HRD wI hI; go_simp; exact hKv)
    intro Kd hKd
    go_simp
    refine hKd _ ?_
    clear hKd Kd
    apply anyI_step 17 rfl (by kernel_rfl)
    focus (intro wI hI Kv hKv; obtain ⟨t3, s5⟩ := HRD wI hI; go_simp; exact hKv)
    intro Kd hKd
    go_simp
    refine hKd _ ?_
    clear hKd Kd
    clear HRD
    refine anyI_one' 18 rfl (by kernel_rfl) ((Below.refl _ _).drew) (fun Kd hKd => ?_)
    have HEQ := equal_any z.S z.cs (z.v.sent.take m) u.K u.ck (u.v.taken.take m) X.drew (strs_take ((HLW.out.txt z HZI.out).1.below HBXW.out.drew (Nat.le_refl _)) m) (strs_take (HUC.out.1.below HBX.out.drew (Nat.le_refl _)) m)
    rw [HL1.out, HL2.out, HU.out.2, decide_eq_true rfl] at HEQ
    have HEQ := Lib.hid HEQ
    go_wp2_with (go_at_call 15; go_must (refine HEQ.out.mono ?_); rintro r w8 ⟨rfl, hB8⟩)
    have hB8 : Below X.heap.size X w8 := below_in (Below.refl _ X).drew hB8
    have HB8 := Lib.hid hB8
    clear hB8
    apply anyI_step 19 rfl (by kernel_rfl)
    focus (intro wI hI Kv hKv; go_simp; exact hKv)
    intro Kd hKd
    go_simp
    refine hKd _ ?_
    clear hKd Kd
    apply anyI_step 20 rfl (by kernel_rfl)
    focus (intro wI hI Kv hKv; go_simp; exact hKv)
    intro Kd hKd
    go_simp
    refine hKd _ ?_
    clear hKd Kd
    refine anyI_end (by kernel_rfl) (HB8.out) (hQd _ _ ?_)
    clear hQd Qd
    go_wp2_with fail
    go_roundg (zs.length - (k + 1))
    case measure => have := HK.out; omega
    case rel => exact ⟨k + 1, by omega, rfl, HBXW.out.trans (HB8.out.mono HBXW.out.size)⟩
  ·go_wp2_with fail
   refine (works_any wr).mono ?_
   rintro r w9 ⟨rfl, hB9⟩
   go_wp2
   go_ret
   exact ⟨rfl, HBR0.out.trans (hB9.mono HBR0.out.size)⟩
end Go.Proofs.YtejabnoidhlfaaaDoor

/- SessComes: the walk. -/
namespace Go.Proofs.YtejabnoidhlfaaaDoor
open Go.RowKit Go.Maps

set_option maxRecDepth 100000 in
set_option maxHeartbeats 16000000 in
theorem walk_comes (A : Option Addr) (c N : Nat) (l : List Ac) (OA : Option Addr) (oc ON : Nat) (ol : List Int) (w : World) (h : Cells w A (acs l)) (hN : l.length = min N 150) (hc : N ≤ c) (ha : ∀ a ∈ l, AcOk a) (ho : Cells w OA (ints ol)) (hON : ol.length = min ON 200) (hoc0 : ON ≤ oc) (hP : Pow w) :
  Calls Tryd.prog 4 #[.slice A N c, .slice OA ON oc] w fun r w' => r = .returned (.bool true) ∧ Below w.heap.size w w' := by
 have HC := Lib.hid h
 have HA := Lib.hid ha
 have HP := Lib.hid hP
 have HNN := Lib.hid hN
 have HO := Lib.hid ho
 clear h ha hP hN ho
 go_enter Tryd.func4, Tryd.ntmps4
 obtain ⟨on, hon⟩ : ∃ on, ol.length = on := ⟨_, rfl⟩
 have hmin : min (ON : Int) 200 = (on : Int) := by omega
 have hmax : max (on : Int) 0 = (on : Int) := by omega
 have hoc : on ≤ oc := by omega
 have honl : on ≤ ON := by omega
 have HOL := Lib.hid hon
 have HLD : Hid ((actsD l).length ≤ 150) := (actsD_ok HA.out).1
 obtain ⟨R, m, hQ, hR, hRW, hm2⟩ := quiet_rest (acts_played HA.out) (order := ol) (by omega)
 have HQ := Lib.hid hQ
 have HR := Lib.hid hR
 have HRW : Hid (R.wire.length = 0) := by show _ = _; rw [hRW]; rfl
 have HM2 := Lib.hid hm2
 clear hQ hR hRW hm2 hon
 go_upto_region 1 with fail
 go_cut [5, 6, 7] from 15 (fun v5 v6 v7 wx => ∃ (bx : Nat) (EA : Option Addr) (ce : Nat) (WA : Option Addr) (cw : Nat) (TA : Option Addr) (ct : Nat) (es : List Ez) (zs : List Tz), v5 = .pointer (some ⟨bx, 0, none⟩) ∧ v6 = .int .i64 m ∧ v7 = .int .i64 0 ∧ Blk wx bx (.cells #[.slice EA 2 ce, .slice WA 0 cw, .slice TA zs.length ct] 28) ∧ LnAt wx w.heap.size (showA R) EA WA TA es zs ∧ zs.length ≤ ct ∧ zs.map Tz.v = R.tales ∧ Below w.heap.size w wx)
 case first => as_aux_lemma =>
  refine draw (fun w' => Below w.heap.size w w') 16 rfl (by kernel_rfl) (fun Qd hQd => ?_)
  apply anyI_step 0 rfl (by kernel_rfl)
  focus (intro wI hI Kv hKv; go_simp; exact hKv)
  intro Kd hKd
  go_simp
  refine hKd _ ?_
  clear hKd Kd
  apply anyI_step 2 rfl (by kernel_rfl)
  focus (intro wI hI Kv hKv; go_simp; exact hKv)
  intro Kd hKd
  go_simp
  refine hKd _ ?_
  clear hKd Kd
  apply anyI_step 3 rfl (by kernel_rfl)
  focus (intro wI hI Kv hKv; go_simp; exact hKv)
  intro Kd hKd
  go_simp
  refine hKd _ ?_
  clear hKd Kd
  apply anyI_step 4 rfl (by kernel_rfl)
  focus (intro wI hI Kv hKv; go_simp; exact hKv)
  intro Kd hKd
  go_simp
  refine hKd _ ?_
  clear hKd Kd
  apply anyI_step 5 rfl (by kernel_rfl)
  focus (intro wI hI Kv hKv; go_simp; exact hKv)
  intro Kd hKd
  go_simp
  refine hKd _ ?_
  clear hKd Kd
  apply anyI_step 6 rfl (by kernel_rfl)
  focus (intro wI hI Kv hKv; go_simp; exact hKv)
  intro Kd hKd
  go_simp
  refine hKd _ ?_
  clear hKd Kd
  refine anyI_two' 1 12 rfl rfl (by kernel_rfl) ((Below.refl _ _).drew) (fun Kd hKd => ?_) (fun Kd hKd => ?_)
  ·skip
   have HX0 : Hid (Below w.heap.size w w.drew) := (Below.refl _ w).drew
   -- acts, in world w.drew
   go_wp2_with (go_at_call 9; go_must (refine (acts_any A c N l (w.drew) (HC.out.below HX0.out (Nat.le_refl _)) HNN.out hc HA.out (HP.out.below HX0.out)).mono ?_); rintro r w1 ⟨D, d, rfl, ho, hB1⟩)
   have HCD : Hid (Cells w1 D (dds (actsD l))) := (Cells.of_own ho (by rw [dds_len]; have := HLD.out; omega)).1
   have HB01 : Hid (Below (w.drew).heap.size (w.drew) w1) := hB1
   have HB1 : Hid (Below w.heap.size w w1) := (HX0.out).trans (hB1.mono (Below.size HX0.out))
   clear ho hB1
   refine anyI_two' 7 12 rfl rfl (by kernel_rfl) (HB1.out) (fun Kd hKd => ?_) (fun Kd hKd => ?_)
   ·skip
    -- Quiet, in world w1
    have HQC := quiet_any D d (actsD l) OA oc ol (w1) (HCD.out.below (Below.refl _ w1) (Nat.le_refl _)) (HO.out.below HB1.out (Nat.le_refl _))
    rw [HOL.out] at HQC
    have HQC := Lib.hid HQC
    go_wp2_with (go_at_call 8; go_must (refine HQC.out.mono ?_); rintro r w2 ⟨EA, ce, WA, cw, TA, ct, es, zs, rfl, hln, hB2, hct⟩)
    rw [HQ.out] at hln hct ⊢
    dsimp only at hln hct ⊢
    have HTV : Hid (zs.map Tz.v = R.tales) := hln.tv
    have HZL : Hid (R.tales.length = zs.length) := by show _ = _; rw [← HTV.out, List.length_map]
    have HCT : Hid (zs.length ≤ ct) := by show _ ≤ _; rw [← HZL.out]; exact hct
    have HLN := Lib.hid hln
    have HB02 : Hid (Below (w1).heap.size (w1) w2) := hB2
    have HB2 : Hid (Below w.heap.size w w2) := (HB1.out).trans (hB2.mono (Below.size HB1.out))
    clear hln hct hB2
    unfold lnV showA
    rw [HZL.out, HRW.out]
    simp only [List.length_cons, List.length_nil, Nat.zero_add, Nat.reduceAdd]
    apply anyI_step 8 rfl (by kernel_rfl)
    focus (intro wI hI Kv hKv; go_simp; exact hKv)
    intro Kd hKd
    go_simp
    refine hKd _ ?_
    clear hKd Kd
    apply anyI_step 9 rfl (by kernel_rfl)
    focus (intro wI hI Kv hKv; go_simp; exact hKv)
    intro Kd hKd
    go_simp
    refine hKd _ ?_
    clear hKd Kd
    apply anyI_step 10 rfl (by kernel_rfl)
    focus (intro wI hI Kv hKv; go_simp; exact hKv)
    intro Kd hKd
    go_simp
    refine hKd _ ?_
    clear hKd Kd
    apply anyI_step 11 rfl (by kernel_rfl)
    focus (intro wI hI Kv hKv; go_simp; exact hKv)
    intro Kd hKd
    go_simp
    refine hKd _ ?_
    clear hKd Kd
    -- the box is laid behind Quiet
    refine anyI_one' 12 rfl (by kernel_rfl) (HB2.out) (fun Kd hKd => ?_)
    go_wp2
    have HX2 : Hid (Below w.heap.size w (w2.alloc (.cells #[.slice none 0 0, .slice none 0 0, .slice none 0 0] 28))) := HB2.out.alloc HB2.out.size _
    refine anyI_one' 13 rfl (by kernel_rfl) (HX2.out) (fun Kd hKd => ?_)
    go_wp2
    obtain ⟨U, hU⟩ : ∃ U, w2.alloc (.cells #[.slice EA 2 ce, .slice WA 0 cw, .slice TA zs.length ct] 28) = U := ⟨_, rfl⟩
    have HKU : Hid (Blk U w2.heap.size (.cells #[.slice EA 2 ce, .slice WA 0 cw, .slice TA zs.length ct] 28)) := by rw [← hU]; exact Blk.new _ _
    have HBU : Hid (Below w.heap.size w U) := by rw [← hU]; exact HB2.out.alloc HB2.out.size _
    have HLU : Hid (LnAt U w.heap.size (showA R) EA WA TA es zs) := by rw [← hU]; exact (HLN.out.below ((Below.refl _ w2).alloc (Nat.le_refl _) _)).mono (Below.size HB1.out)
    rw [hU]
    clear hU
    apply anyI_step 14 rfl (by kernel_rfl)
    focus (intro wI hI Kv hKv; go_simp; exact hKv)
    intro Kd hKd
    go_simp
    refine hKd _ ?_
    clear hKd Kd
    apply anyI_step 15 rfl (by kernel_rfl)
    focus (intro wI hI Kv hKv; go_simp; exact hKv)
    intro Kd hKd
    go_simp
    refine hKd _ ?_
    clear hKd Kd
    refine anyI_end (by kernel_rfl) (HBU.out) (hQd _ _ ?_)
    clear hQd Qd
    go_wp2_with fail
    go_meet
    exact ⟨w2.heap.size, EA, ce, WA, cw, TA, ct, es, zs, rfl, rfl, rfl, HKU.out, HLU.out, HCT.out, HTV.out, HBU.out⟩
   ·skip
    go_wp2
    have HK0 : Hid (Blk (w1.alloc (.cells #[.slice none 0 0, .slice none 0 0, .slice none 0 0] 28)) w1.heap.size (.cells #[.slice none 0 0, .slice none 0 0, .slice none 0 0] 28)) := Blk.new _ _
    have HX1 : Hid (Below w.heap.size w (w1.alloc (.cells #[.slice none 0 0, .slice none 0 0, .slice none 0 0] 28))) := HB1.out.alloc HB1.out.size _
    refine anyI_one' 7 rfl (by kernel_rfl) (HX1.out) (fun Kd hKd => ?_)
    -- Quiet, in world w1.alloc (.cells #[.slice none 0 0, .slice none 0 0, .slice none 0 0] 28)
    have HQC := quiet_any D d (actsD l) OA oc ol (w1.alloc (.cells #[.slice none 0 0, .slice none 0 0, .slice none 0 0] 28)) (HCD.out.below ((Below.refl _ w1).alloc (Nat.le_refl _) _) (Nat.le_refl _)) (HO.out.below HX1.out (Nat.le_refl _))
    rw [HOL.out] at HQC
    have HQC := Lib.hid HQC
    go_wp2_with (go_at_call 8; go_must (refine HQC.out.mono ?_); rintro r w2 ⟨EA, ce, WA, cw, TA, ct, es, zs, rfl, hln, hB2, hct⟩)
    rw [HQ.out] at hln hct ⊢
    dsimp only at hln hct ⊢
    have HTV : Hid (zs.map Tz.v = R.tales) := hln.tv
    have HZL : Hid (R.tales.length = zs.length) := by show _ = _; rw [← HTV.out, List.length_map]
    have HCT : Hid (zs.length ≤ ct) := by show _ ≤ _; rw [← HZL.out]; exact hct
    have HLN := Lib.hid hln
    have HB02 : Hid (Below (w1.alloc (.cells #[.slice none 0 0, .slice none 0 0, .slice none 0 0] 28)).heap.size (w1.alloc (.cells #[.slice none 0 0, .slice none 0 0, .slice none 0 0] 28)) w2) := hB2
    have HB2 : Hid (Below w.heap.size w w2) := (HX1.out).trans (hB2.mono (Below.size HX1.out))
    clear hln hct hB2
    unfold lnV showA
    rw [HZL.out, HRW.out]
    simp only [List.length_cons, List.length_nil, Nat.zero_add, Nat.reduceAdd]
    apply anyI_step 8 rfl (by kernel_rfl)
    focus (intro wI hI Kv hKv; go_simp; exact hKv)
    intro Kd hKd
    go_simp
    refine hKd _ ?_
    clear hKd Kd
    apply anyI_step 9 rfl (by kernel_rfl)
    focus (intro wI hI Kv hKv; go_simp; exact hKv)
    intro Kd hKd
    go_simp
    refine hKd _ ?_
    clear hKd Kd
    apply anyI_step 10 rfl (by kernel_rfl)
    focus (intro wI hI Kv hKv; go_simp; exact hKv)
    intro Kd hKd
    go_simp
    refine hKd _ ?_
    clear hKd Kd
    apply anyI_step 11 rfl (by kernel_rfl)
    focus (intro wI hI Kv hKv; go_simp; exact hKv)
    intro Kd hKd
    go_simp
    refine hKd _ ?_
    clear hKd Kd
    -- the box bx was laid ahead of Quiet, in world @x@
    have HKX := Lib.hid (HK0.out.below HB02.out HK0.out.lt)
    have HLF : Hid (∀ U, Frame (fun b => b = w1.heap.size) w2 U → LnAt U w.heap.size (showA R) EA WA TA es zs) := fun U hF =>
     (HLN.out.frame hF (fun b e => by have h9 : b = w1.heap.size := e; have h8 := HK0.out.lt; omega) (fun b cur hb e => by rw [e] at hb; exact blk_ne hb HKX.out (by decide) rfl) (fun b cur hb e => by rw [e] at hb; exact blk_ne hb HKX.out (by decide) rfl)).mono (Below.size HX1.out)
    have hlo := HB1.out.size
    have k9 := HKX.out
    have z0 := k9.cell 0 (v := .slice none 0 0) rfl
    have z1 := k9.cell 1 (v := .slice none 0 0) rfl
    have z2 := k9.cell 2 (v := .slice none 0 0) rfl
    have y0 := k9.free 0
    have y1 := k9.free 1
    have y2 := k9.free 2
    have yl := k9.lt
    clear k9
    refine anyI_one' 13 rfl (by kernel_rfl) (HB2.out) (fun Kd hKd => ?_)
    go_wp2
    obtain ⟨U, hU⟩ : ∃ U, (((w2).setCell ⟨w1.heap.size, 0, none⟩ (.slice EA 2 ce)).setCell ⟨w1.heap.size, 1, none⟩ (.slice WA 0 cw)).setCell ⟨w1.heap.size, 2, none⟩ (.slice TA zs.length ct) = U := ⟨_, rfl⟩
    have HKU : Hid (Blk U w1.heap.size (.cells #[.slice EA 2 ce, .slice WA 0 cw, .slice TA zs.length ct] 28)) := by rw [← hU]; exact ((HKX.out.set 0 _).set 1 _).set 2 _
    have HFU : Hid (Frame (fun b => b = w1.heap.size) (w2) U) := by
     rw [← hU]
     exact (((Frame.refl (fun b => b = w1.heap.size) (w2)).setCell (p := ⟨w1.heap.size, 0, none⟩) (.inl rfl) _).setCell (p := ⟨w1.heap.size, 1, none⟩) (.inl rfl) _).setCell (p := ⟨w1.heap.size, 2, none⟩) (.inl rfl) _
    have HBU : Hid (Below w.heap.size w U) := Below.trans HB2.out (HFU.out.below (fun b e => by have h9 : b = w1.heap.size := e; have h8 := hlo; omega) (Below.size HB2.out))
    rw [hU]
    clear hU z0 z1 z2 y0 y1 y2 yl
    apply anyI_step 14 rfl (by kernel_rfl)
    focus (intro wI hI Kv hKv; go_simp; exact hKv)
    intro Kd hKd
    go_simp
    refine hKd _ ?_
    clear hKd Kd
    apply anyI_step 15 rfl (by kernel_rfl)
    focus (intro wI hI Kv hKv; go_simp; exact hKv)
    intro Kd hKd
    go_simp
    refine hKd _ ?_
    clear hKd Kd
    refine anyI_end (by kernel_rfl) (HBU.out) (hQd _ _ ?_)
    clear hQd Qd
    go_wp2_with fail
    go_meet
    exact ⟨w1.heap.size, EA, ce, WA, cw, TA, ct, es, zs, rfl, rfl, rfl, HKU.out, HLF.out U HFU.out, HCT.out, HTV.out, HBU.out⟩
  ·skip
   go_wp2
   have HK0 : Hid (Blk (w.drew.alloc (.cells #[.slice none 0 0, .slice none 0 0, .slice none 0 0] 28)) w.heap.size (.cells #[.slice none 0 0, .slice none 0 0, .slice none 0 0] 28)) := Blk.new w.drew _
   have HX0 : Hid (Below w.heap.size w (w.drew.alloc (.cells #[.slice none 0 0, .slice none 0 0, .slice none 0 0] 28))) := (Below.refl _ w).drew.alloc (Nat.le_refl _) _
   refine anyI_one' 1 rfl (by kernel_rfl) (HX0.out) (fun Kd hKd => ?_)
   -- acts, in world w.drew.alloc (.cells #[.slice none 0 0, .slice none 0 0, .slice none 0 0] 28)
   go_wp2_with (go_at_call 9; go_must (refine (acts_any A c N l (w.drew.alloc (.cells #[.slice none 0 0, .slice none 0 0, .slice none 0 0] 28)) (HC.out.below HX0.out (Nat.le_refl _)) HNN.out hc HA.out (HP.out.below HX0.out)).mono ?_); rintro r w1 ⟨D, d, rfl, ho, hB1⟩)
   have HCD : Hid (Cells w1 D (dds (actsD l))) := (Cells.of_own ho (by rw [dds_len]; have := HLD.out; omega)).1
   have HB01 : Hid (Below (w.drew.alloc (.cells #[.slice none 0 0, .slice none 0 0, .slice none 0 0] 28)).heap.size (w.drew.alloc (.cells #[.slice none 0 0, .slice none 0 0, .slice none 0 0] 28)) w1) := hB1
   have HB1 : Hid (Below w.heap.size w w1) := (HX0.out).trans (hB1.mono (Below.size HX0.out))
   clear ho hB1
   have HK0 := Lib.hid (HK0.out.below HB01.out HK0.out.lt)
   refine anyI_one' 7 rfl (by kernel_rfl) (HB1.out) (fun Kd hKd => ?_)
   -- Quiet, in world w1
   have HQC := quiet_any D d (actsD l) OA oc ol (w1) (HCD.out.below (Below.refl _ w1) (Nat.le_refl _)) (HO.out.below HB1.out (Nat.le_refl _))
   rw [HOL.out] at HQC
   have HQC := Lib.hid HQC
   go_wp2_with (go_at_call 8; go_must (refine HQC.out.mono ?_); rintro r w2 ⟨EA, ce, WA, cw, TA, ct, es, zs, rfl, hln, hB2, hct⟩)
   rw [HQ.out] at hln hct ⊢
   dsimp only at hln hct ⊢
   have HTV : Hid (zs.map Tz.v = R.tales) := hln.tv
   have HZL : Hid (R.tales.length = zs.length) := by show _ = _; rw [← HTV.out, List.length_map]
   have HCT : Hid (zs.length ≤ ct) := by show _ ≤ _; rw [← HZL.out]; exact hct
   have HLN := Lib.hid hln
   have HB02 : Hid (Below (w1).heap.size (w1) w2) := hB2
   have HB2 : Hid (Below w.heap.size w w2) := (HB1.out).trans (hB2.mono (Below.size HB1.out))
   clear hln hct hB2
   unfold lnV showA
   rw [HZL.out, HRW.out]
   simp only [List.length_cons, List.length_nil, Nat.zero_add, Nat.reduceAdd]
   apply anyI_step 8 rfl (by kernel_rfl)
   focus (intro wI hI Kv hKv; go_simp; exact hKv)
   intro Kd hKd
   go_simp
   refine hKd _ ?_
   clear hKd Kd
   apply anyI_step 9 rfl (by kernel_rfl)
   focus (intro wI hI Kv hKv; go_simp; exact hKv)
   intro Kd hKd
   go_simp
   refine hKd _ ?_
   clear hKd Kd
   apply anyI_step 10 rfl (by kernel_rfl)
   focus (intro wI hI Kv hKv; go_simp; exact hKv)
   intro Kd hKd
   go_simp
   refine hKd _ ?_
   clear hKd Kd
   apply anyI_step 11 rfl (by kernel_rfl)
   focus (intro wI hI Kv hKv; go_simp; exact hKv)
   intro Kd hKd
   go_simp
   refine hKd _ ?_
   clear hKd Kd
   -- the box bx was laid ahead of Quiet, in world @x@
   have HKX := Lib.hid (HK0.out.below HB02.out HK0.out.lt)
   have HLF : Hid (∀ U, Frame (fun b => b = w.heap.size) w2 U → LnAt U w.heap.size (showA R) EA WA TA es zs) := fun U hF =>
    (HLN.out.frame hF (fun b e => by have h9 : b = w.heap.size := e; have h8 := HK0.out.lt; omega) (fun b cur hb e => by rw [e] at hb; exact blk_ne hb HKX.out (by decide) rfl) (fun b cur hb e => by rw [e] at hb; exact blk_ne hb HKX.out (by decide) rfl)).mono (Below.size HB1.out)
   have hlo := Nat.le_refl w.heap.size
   have k9 := HKX.out
   have z0 := k9.cell 0 (v := .slice none 0 0) rfl
   have z1 := k9.cell 1 (v := .slice none 0 0) rfl
   have z2 := k9.cell 2 (v := .slice none 0 0) rfl
   have y0 := k9.free 0
   have y1 := k9.free 1
   have y2 := k9.free 2
   have yl := k9.lt
   clear k9
   refine anyI_one' 13 rfl (by kernel_rfl) (HB2.out) (fun Kd hKd => ?_)
   go_wp2
   obtain ⟨U, hU⟩ : ∃ U, (((w2).setCell ⟨w.heap.size, 0, none⟩ (.slice EA 2 ce)).setCell ⟨w.heap.size, 1, none⟩ (.slice WA 0 cw)).setCell ⟨w.heap.size, 2, none⟩ (.slice TA zs.length ct) = U := ⟨_, rfl⟩
   have HKU : Hid (Blk U w.heap.size (.cells #[.slice EA 2 ce, .slice WA 0 cw, .slice TA zs.length ct] 28)) := by rw [← hU]; exact ((HKX.out.set 0 _).set 1 _).set 2 _
   have HFU : Hid (Frame (fun b => b = w.heap.size) (w2) U) := by
    rw [← hU]
    exact (((Frame.refl (fun b => b = w.heap.size) (w2)).setCell (p := ⟨w.heap.size, 0, none⟩) (.inl rfl) _).setCell (p := ⟨w.heap.size, 1, none⟩) (.inl rfl) _).setCell (p := ⟨w.heap.size, 2, none⟩) (.inl rfl) _
   have HBU : Hid (Below w.heap.size w U) := Below.trans HB2.out (HFU.out.below (fun b e => by have h9 : b = w.heap.size := e; have h8 := hlo; omega) (Below.size HB2.out))
   rw [hU]
   clear hU z0 z1 z2 y0 y1 y2 yl
   apply anyI_step 14 rfl (by kernel_rfl)
   focus (intro wI hI Kv hKv; go_simp; exact hKv)
   intro Kd hKd
   go_simp
   refine hKd _ ?_
   clear hKd Kd
   apply anyI_step 15 rfl (by kernel_rfl)
   focus (intro wI hI Kv hKv; go_simp; exact hKv)
   intro Kd hKd
   go_simp
   refine hKd _ ?_
   clear hKd Kd
   refine anyI_end (by kernel_rfl) (HBU.out) (hQd _ _ ?_)
   clear hQd Qd
   go_wp2_with fail
   go_meet
   exact ⟨w.heap.size, EA, ce, WA, cw, TA, ct, es, zs, rfl, rfl, rfl, HKU.out, HLF.out U HFU.out, HCT.out, HTV.out, HBU.out⟩
 case rest =>
  obtain ⟨bx, EA, ce, WA, cw, TA, ct, es, zs, rfl, rfl, rfl, hkx, hln, hct, htv, hbw⟩ := hcut
  obtain ⟨W, rfl⟩ : ∃ W, W = wc := ⟨_, rfl⟩
  have HXW := Lib.hid hkx
  have HLW := Lib.hid hln
  have HCT := Lib.hid hct
  have HTV := Lib.hid htv
  have HBW := Lib.hid hbw
  have HEV : Hid (es.map Ez.v = [R.e0, R.e1]) := hln.ev
  have HE2 : Hid (es.length = 2) := by have h9 := congrArg List.length HEV.out; rw [List.length_map] at h9; exact h9
  have HEI : Hid (∀ (i : Nat) y, es[i]? = some y → i < 2 → y.v = R.end_ i) := fun i y hy hi => by
   have h9 := congrArg (fun l => l[i]?) HEV.out
   simp only [List.getElem?_map, hy, Option.map_some] at h9
   have h8 : i = 0 ∨ i = 1 := by omega
   rcases h8 with rfl | rfl
   ·injection h9
   ·injection h9
  have HSF : Hid (Saf R) := HR.out.saf
  have HZM : Hid (∀ z ∈ zs, z.v ∈ R.tales) := fun z hz => by rw [← HTV.out]; exact List.mem_map_of_mem hz
  have HZL2 : Hid (zs.length ≤ 10000000000000) := by have h9 := hln.tales.1; rw [tzs_len] at h9; show _ ≤ _; omega
  have hm2 : ¬ m < 2 := by have := HM2.out; omega
  clear hkx hln hct htv hbw
  have k9 := HXW.out
  have x0 := k9.cell 0 (v := .slice EA 2 ce) rfl
  have x1 := k9.cell 1 (v := .slice WA 0 cw) rfl
  have x2 := k9.cell 2 (v := .slice TA zs.length ct) rfl
  have xl := k9.lt
  clear k9
  go_wp2_with fail
  clear x0 x1 x2 xl hm2
  go_loopg [48] 2 (fun g iv wr => ∃ k : Nat, k + g = 2 ∧ iv = .int .i64 (k : Int) ∧ Below W.heap.size W wr)
  case atStart => exact ⟨0, Nat.zero_add _, rfl, Below.refl _ _⟩
  case round =>
   obtain ⟨k, hk, rfl, hB⟩ := hrel
   have HK := Lib.hid hk
   have HBR := Lib.hid hB
   have HBR0 : Hid (Below w.heap.size w wr) := HBW.out.trans (hB.mono HBW.out.size)
   have HXR := Lib.hid (HXW.out.below hB HXW.out.lt)
   clear hk hB
   by_cases hlt : (k : Int) < 2
   ·obtain ⟨j, hj⟩ : ∃ j : Nat, 1 - k = j := ⟨_, rfl⟩
    have hwk : IntKind.i64.wrap (1 - (k : Int)) = (j : Int) := by rw [show 1 - (k : Int) = (j : Int) by omega]; exact wrap_ok ⟨by omega, by omega⟩
    have hw1 : IntKind.i64.wrap ((k : Int) + 1) = (k : Int) + 1 := wrap_ok ⟨by omega, by omega⟩
    have T2 : Hid (Two (k : Int) (j : Int)) := ⟨by omega, by omega⟩
    have HST := Lib.hid (still_of HR.out (List.eq_nil_of_length_eq_zero HRW.out) T2.out)
    obtain ⟨y, yb, yo, hy, hyb, hyi, y0, y1, y2, y3, y4, y5, y6⟩ := eza (c := ce) (k := k) (HLW.out.ends.below HBR.out (Nat.le_refl _)) (by have := HE2.out; omega)
    rw [HE2.out] at hyi
    have hyv := HEI.out k y hy (by omega)
    have HYV := Lib.hid hyv
    rw [hyv, HST.out.out, List.length_nil] at y4
    rw [hyv, HST.out.inn, List.length_nil] at y6
    clear hy hyv
    go_upto_region 7 with fail
    obtain ⟨Y, hY⟩ : ∃ Y, wr.alloc (.cells #[.int .i64 y.v.life, .int .i64 y.v.peer, .int .i64 y.v.phase, .int .i64 y.v.base, .slice y.A 0 y.c, .int .i64 y.v.want, .slice y.D 0 y.d] 38) = Y := ⟨_, rfl⟩
    have HYY : Hid (Blk Y wr.heap.size (.cells #[.int .i64 y.v.life, .int .i64 y.v.peer, .int .i64 y.v.phase, .int .i64 y.v.base, .slice y.A 0 y.c, .int .i64 y.v.want, .slice y.D 0 y.d] 38)) := by rw [← hY]; exact Blk.new _ _
    have HB0Y : Hid (Below wr.heap.size wr Y) := by rw [← hY]; exact (Below.refl _ _).alloc (Nat.le_refl _) _
    have HBY : Hid (Below W.heap.size W Y) := HBR.out.trans (HB0Y.out.mono HBR.out.size)
    have HXY := Lib.hid (HXR.out.below HB0Y.out HXR.out.lt)
    rw [hY]
    clear hY y0 y1 y2 y3 y4 y5 y6 hyi hyb
    obtain ⟨q, qb, qo, hq, hqb, hqi, q0, q1, q2, q3, q4, q5, q6⟩ := eza (c := ce) (k := j) (HLW.out.ends.below HBY.out (Nat.le_refl _)) (by have := HE2.out; omega)
    rw [HE2.out] at hqi
    have HQV := Lib.hid (HEI.out j q hq (by omega))
    have b1 : (y.v.phase != 3) = false := by have h9 := HST.out.op.1; rw [← HYV.out] at h9; simpa using h9
    have b2 : (y.v.peer != q.v.life) = false := by have h9 := HST.out.op.2; rw [← HYV.out, ← HQV.out] at h9; simpa using h9
    clear hq
    have k9 := HXY.out
    have x0 := k9.cell 0 (v := .slice EA 2 ce) rfl
    have x1 := k9.cell 1 (v := .slice WA 0 cw) rfl
    have x2 := k9.cell 2 (v := .slice TA zs.length ct) rfl
    have xl := k9.lt
    clear k9
    have k9 := HYY.out
    have s0 := k9.cell 0 (v := .int .i64 y.v.life) rfl
    have s1 := k9.cell 1 (v := .int .i64 y.v.peer) rfl
    have s2 := k9.cell 2 (v := .int .i64 y.v.phase) rfl
    have s3 := k9.cell 3 (v := .int .i64 y.v.base) rfl
    have s4 := k9.cell 4 (v := .slice y.A 0 y.c) rfl
    have s5 := k9.cell 5 (v := .int .i64 y.v.want) rfl
    have s6 := k9.cell 6 (v := .slice y.D 0 y.d) rfl
    have sl := k9.lt
    clear k9
    refine sall (by kernel_rfl) (by kernel_rfl) (fun Kq hKq => ?_)
    repeat still_step
    refine wpStill_nil (hKq _ ?_)
    clear hKq Kq
    have HYdr := Lib.hid HYY.out.drew
    have HXdr := Lib.hid HXY.out.drew
    have HBdr : Hid (Below W.heap.size W Y.drew) := HBY.out.drew
    have HWdr : Hid (wr.heap.size < Y.drew.heap.size) := HYY.out.lt
    clear x0 x1 x2 xl s0 s1 s2 s3 s4 s5 s6 sl q0 q1 q2 q3 q4 q5 q6 hqi hqb b1 b2 HYY HXY HBY HB0Y
    generalize Y.drew = Z at HYdr HXdr HBdr HWdr ⊢
    have k9 := HXdr.out
    have x0 := k9.cell 0 (v := .slice EA 2 ce) rfl
    have x1 := k9.cell 1 (v := .slice WA 0 cw) rfl
    have x2 := k9.cell 2 (v := .slice TA zs.length ct) rfl
    have xl := k9.lt
    clear k9
    go_wp2_with fail
    clear x0 x1 x2 xl
    obtain ⟨sm, hsm⟩ : ∃ sm : Tz → Bool, sm = fun z => z.v.end_ == (k : Int) && z.v.life == y.v.life && z.v.peer == y.v.peer := ⟨_, rfl⟩
    have HSM := Lib.hid hsm
    clear hsm
    go_loopg [10, 83] zs.length (fun g bv iv wx => ∃ n : Nat, n + g = zs.length ∧ iv = .int .i64 (n : Int) ∧ bv = .bool ((zs.take n).any sm) ∧ Below Z.heap.size Z wx)
    case atStart => exact ⟨0, Nat.zero_add _, rfl, rfl, Below.refl _ _⟩
    case round =>
     obtain ⟨n, hn, rfl, rfl, hB⟩ := hrel
     obtain ⟨wx, rfl⟩ : ∃ wx, wx = wr := ⟨_, rfl⟩
     have HN := Lib.hid hn
     have HBX := Lib.hid hB
     have HBXW : Hid (Below W.heap.size W wx) := HBdr.out.trans (hB.mono HBdr.out.size)
     have HXX := Lib.hid (HXdr.out.below hB HXdr.out.lt)
     have HYX := Lib.hid (HYdr.out.below hB HYdr.out.lt)
     clear hn hB
     by_cases hln : (n : Int) < (zs.length : Int)
     ·obtain ⟨z, b, o, hz, hb, hix, c0, c1, c2, c3, c4, c5⟩ := tza (c := ct) (k := n) (HLW.out.tales.below HBXW.out (Nat.le_refl _)) (by omega)
      have HZ := Lib.hid hz
      have HZI : Hid (z ∈ zs) := List.mem_of_getElem? hz
      have hw2 : IntKind.i64.wrap ((n : Int) + 1) = (n : Int) + 1 := wrap_ok ⟨by omega, by have := HZL2.out; omega⟩
      have HANY : Hid ((zs.take (n + 1)).any sm = ((zs.take n).any sm || sm z)) := by show _ = _; rw [take_succ_of hz, List.any_append]; simp
      clear hz
      obtain ⟨bn, hbn⟩ : ∃ bn, (zs.take n).any sm = bn := ⟨_, rfl⟩
      rw [hbn] at HANY ⊢
      clear hbn
      have k9 := HYX.out
      have s0 := k9.cell 0 (v := .int .i64 y.v.life) rfl
      have s1 := k9.cell 1 (v := .int .i64 y.v.peer) rfl
      have s2 := k9.cell 2 (v := .int .i64 y.v.phase) rfl
      have s3 := k9.cell 3 (v := .int .i64 y.v.base) rfl
      have s4 := k9.cell 4 (v := .slice y.A 0 y.c) rfl
      have s5 := k9.cell 5 (v := .int .i64 y.v.want) rfl
      have s6 := k9.cell 6 (v := .slice y.D 0 y.d) rfl
      have sl := k9.lt
      clear k9
      by_cases k1 : z.v.end_ = (k : Int)
      ·have b1 : (z.v.end_ == (k : Int)) = true := beq_iff_eq.2 k1
       by_cases k2 : z.v.life = y.v.life
       ·have b2 : (z.v.life == y.v.life) = true := beq_iff_eq.2 k2
        by_cases k3 : z.v.peer = y.v.peer
        ·have b3 : (z.v.peer == y.v.peer) = true := beq_iff_eq.2 k3
         have HSZ : Hid (sm z = true) := by show _ = _; rw [HSM.out]; simp only [b1, b2, b3, Bool.and_self]
         have HKE : Hid (∃ t u, z.v = t ∧ tale R.tales (1 - z.v.end_) z.v.peer z.v.life = some u ∧ t.taken = u.sent ∧ y.v.want = (t.taken.length : Int) ∧ y.v.base = (t.sent.length : Int)) := by
          obtain ⟨t, u, h1, h2, h3, h4, h5⟩ := HST.out.met
          have h6 := tale_of_mem HSF.out.ord (HZM.out z HZI.out)
          rw [k1, k2, k3, HYV.out, h1] at h6
          injection h6 with h6
          refine ⟨t, u, h6.symm, ?_, h3, by rw [HYV.out]; exact h4, by rw [HYV.out]; exact h5⟩
          rw [k1, k2, k3, HYV.out, show (1 : Int) - (k : Int) = (j : Int) by have := T2.out.hj; omega]
          exact h2
         have HZE := Lib.hid (HSF.out.ends _ (HZM.out z HZI.out))
         clear k1 k2 k3
         go_upto_region 14 with fail
         obtain ⟨V, hV⟩ : ∃ V, wx.alloc (.cells #[.int .i64 z.v.end_, .int .i64 z.v.life, .int .i64 z.v.peer, .slice z.S z.v.sent.length z.cs, .slice z.L z.v.lost.length z.cl, .slice z.K z.v.taken.length z.ck] 57) = V := ⟨_, rfl⟩
         have HBV0 : Hid (Below wx.heap.size wx V) := by rw [← hV]; exact (Below.refl _ _).alloc (Nat.le_refl _) _
         have HTV2 : Hid (Blk V wx.heap.size (.cells (tzB z) 57)) := by rw [← hV]; exact Blk.new _ _
         rw [hV]
         clear hV c0 c1 c2 c3 c4 c5 hix hb
         have HXV := Lib.hid (HXX.out.below HBV0.out HXX.out.lt)
         have HYV2 := Lib.hid (HYX.out.below HBV0.out HYX.out.lt)
         have HBV : Hid (Below W.heap.size W V) := HBXW.out.trans (HBV0.out.mono HBXW.out.size)
         clear s0 s1 s2 s3 s4 s5 s6 sl b1 b2 b3
         have k9 := HXV.out
         have x0 := k9.cell 0 (v := .slice EA 2 ce) rfl
         have x1 := k9.cell 1 (v := .slice WA 0 cw) rfl
         have x2 := k9.cell 2 (v := .slice TA zs.length ct) rfl
         have xl := k9.lt
         clear k9
         have k9 := HTV2.out
         have t0 := k9.cell 0 (v := .int .i64 (z).v.end_) rfl
         have t1 := k9.cell 1 (v := .int .i64 (z).v.life) rfl
         have t2 := k9.cell 2 (v := .int .i64 (z).v.peer) rfl
         have t3 := k9.cell 3 (v := .slice (z).S (z).v.sent.length (z).cs) rfl
         have t4 := k9.cell 4 (v := .slice (z).L (z).v.lost.length (z).cl) rfl
         have t5 := k9.cell 5 (v := .slice (z).K (z).v.taken.length (z).ck) rfl
         have tl := k9.lt
         clear k9
         go_wp2_with fail
         refine (other_any (.slice EA 2 ce) (.slice WA 0 cw) TA ct zs z V rfl rfl (HLW.out.tales.below HBV.out (Nat.le_refl _)) HZE.out).mono ?_
         rintro r w5 ⟨⟨u, is, rfl, hu⟩, hB5⟩
         rw [HTV.out] at hu
         obtain ⟨t9, u9, e9, e8, e7, e6, e5⟩ := HKE.out
         subst e9
         rcases hu with ⟨rfl, hum, hut⟩ | ⟨rfl, rfl, hut⟩
         rotate_left
         ·rw [e8] at hut; cases hut
         rw [e8] at hut
         injection hut with hut
         subst hut
         have HUI : Hid (u ∈ zs) := hum
         have HEQ : Hid (z.v.taken = u.v.sent) := e7
         have HB5 : Hid (Below W.heap.size W w5) := HBV.out.trans (hB5.mono HBV.out.size)
         have HT5 := Lib.hid (HTV2.out.below hB5 HTV2.out.lt)
         have HY5 := Lib.hid (HYV2.out.below hB5 HYV2.out.lt)
         have HSV : Hid (V.heap.size ≤ w5.heap.size) := hB5.size
         have HB05 : Hid (Below wx.heap.size wx w5) := HBV0.out.trans (hB5.mono HBV0.out.size)
         have f1 : (y.v.want == (z.v.taken.length : Int)) = true := beq_iff_eq.2 e6
         have f2 : (y.v.base == (z.v.sent.length : Int)) = true := beq_iff_eq.2 e5
         clear hum hB5 x0 x1 x2 xl t0 t1 t2 t3 t4 t5 tl e8 e7 e6 e5
         unfold tzV
         go_upto_region 15 with fail
         obtain ⟨X, hX⟩ : ∃ X, w5.alloc (.cells #[.int .i64 u.v.end_, .int .i64 u.v.life, .int .i64 u.v.peer, .slice u.S u.v.sent.length u.cs, .slice u.L u.v.lost.length u.cl, .slice u.K u.v.taken.length u.ck] 57) = X := ⟨_, rfl⟩
         have HB5X : Hid (Below w5.heap.size w5 X) := by rw [← hX]; exact (Below.refl _ w5).alloc (Nat.le_refl _) _
         have HUX : Hid (Blk X w5.heap.size (.cells (tzB u) 57)) := by rw [← hX]; exact Blk.new _ _
         have HT6 := Lib.hid (HT5.out.below HB5X.out HT5.out.lt)
         have HY6 := Lib.hid (HY5.out.below HB5X.out HY5.out.lt)
         have HLX := Lib.hid (HLW.out.below (HB5.out.trans (HB5X.out.mono HB5.out.size)))
         have HB06 : Hid (Below wx.heap.size wx X) := HB05.out.trans (HB5X.out.mono HB05.out.size)
         rw [hX]
         clear hX
         have k9 := HT6.out
         have t0 := k9.cell 0 (v := .int .i64 (z).v.end_) rfl
         have t1 := k9.cell 1 (v := .int .i64 (z).v.life) rfl
         have t2 := k9.cell 2 (v := .int .i64 (z).v.peer) rfl
         have t3 := k9.cell 3 (v := .slice (z).S (z).v.sent.length (z).cs) rfl
         have t4 := k9.cell 4 (v := .slice (z).L (z).v.lost.length (z).cl) rfl
         have t5 := k9.cell 5 (v := .slice (z).K (z).v.taken.length (z).ck) rfl
         have tl := k9.lt
         clear k9
         have k9 := HUX.out
         have v0 := k9.cell 0 (v := .int .i64 (u).v.end_) rfl
         have v1 := k9.cell 1 (v := .int .i64 (u).v.life) rfl
         have v2 := k9.cell 2 (v := .int .i64 (u).v.peer) rfl
         have v3 := k9.cell 3 (v := .slice (u).S (u).v.sent.length (u).cs) rfl
         have v4 := k9.cell 4 (v := .slice (u).L (u).v.lost.length (u).cl) rfl
         have v5 := k9.cell 5 (v := .slice (u).K (u).v.taken.length (u).ck) rfl
         have vl := k9.lt
         clear k9
         go_wp2_with fail
         refine (equal_any z.K z.ck z.v.taken u.S u.cs u.v.sent X (HLX.out.txt z HZI.out).2.2 (HLX.out.txt u HUI.out).1).mono ?_
         rintro r w6 ⟨rfl, hB6⟩
         rw [decide_eq_true HEQ.out]
         have HT7 := Lib.hid (HT6.out.below hB6 HT6.out.lt)
         have HY7 := Lib.hid (HY6.out.below hB6 HY6.out.lt)
         have HB07 : Hid (Below wx.heap.size wx w6) := HB06.out.trans (hB6.mono HB06.out.size)
         clear hB6 t0 t1 t2 t3 t4 t5 tl v0 v1 v2 v3 v4 v5 vl
         have k9 := HT7.out
         have t0 := k9.cell 0 (v := .int .i64 (z).v.end_) rfl
         have t1 := k9.cell 1 (v := .int .i64 (z).v.life) rfl
         have t2 := k9.cell 2 (v := .int .i64 (z).v.peer) rfl
         have t3 := k9.cell 3 (v := .slice (z).S (z).v.sent.length (z).cs) rfl
         have t4 := k9.cell 4 (v := .slice (z).L (z).v.lost.length (z).cl) rfl
         have t5 := k9.cell 5 (v := .slice (z).K (z).v.taken.length (z).ck) rfl
         have tl := k9.lt
         clear k9
         have k9 := HY7.out
         have s0 := k9.cell 0 (v := .int .i64 y.v.life) rfl
         have s1 := k9.cell 1 (v := .int .i64 y.v.peer) rfl
         have s2 := k9.cell 2 (v := .int .i64 y.v.phase) rfl
         have s3 := k9.cell 3 (v := .int .i64 y.v.base) rfl
         have s4 := k9.cell 4 (v := .slice y.A 0 y.c) rfl
         have s5 := k9.cell 5 (v := .int .i64 y.v.want) rfl
         have s6 := k9.cell 6 (v := .slice y.D 0 y.d) rfl
         have sl := k9.lt
         clear k9
         go_wp2_with fail
         go_roundg (zs.length - (n + 1))
         case measure => have := HN.out; omega
         case rel => exact ⟨n + 1, by omega, rfl, by rw [HANY.out, HSZ.out, Bool.or_true], HBX.out.trans (HB07.out.mono HBX.out.size)⟩
        ·have b3 : (z.v.peer == y.v.peer) = false := beq_eq_false_iff_ne.2 k3
         have HSZ : Hid (sm z = false) := by show _ = _; rw [HSM.out]; simp only [b1, b2, b3, Bool.and_false]
         clear k1 k2 k3
         go_wp2_with fail
         go_roundg (zs.length - (n + 1))
         case measure => have := HN.out; omega
         case rel => exact ⟨n + 1, by omega, rfl, by rw [HANY.out, HSZ.out, Bool.or_false], HBX.out.alloc HBX.out.size _⟩
       ·have b2 : (z.v.life == y.v.life) = false := beq_eq_false_iff_ne.2 k2
        have HSZ : Hid (sm z = false) := by show _ = _; rw [HSM.out]; simp only [b1, b2, Bool.and_false, Bool.false_and]
        clear k1 k2
        go_wp2_with fail
        go_roundg (zs.length - (n + 1))
        case measure => have := HN.out; omega
        case rel => exact ⟨n + 1, by omega, rfl, by rw [HANY.out, HSZ.out, Bool.or_false], HBX.out.alloc HBX.out.size _⟩
      ·have b1 : (z.v.end_ == (k : Int)) = false := beq_eq_false_iff_ne.2 k1
       have HSZ : Hid (sm z = false) := by show _ = _; rw [HSM.out]; simp only [b1, Bool.false_and]
       clear k1
       go_wp2_with fail
       go_roundg (zs.length - (n + 1))
       case measure => have := HN.out; omega
       case rel => exact ⟨n + 1, by omega, rfl, by rw [HANY.out, HSZ.out, Bool.or_false], HBX.out.alloc HBX.out.size _⟩
     ·have HALL : Hid ((zs.take n).any sm = true) := by
       have hne : n = zs.length := by have := HN.out; omega
       obtain ⟨t, u, h1, h2, h3, h4, h5⟩ := HST.out.met
       show _ = _
       rw [hne, List.take_length, List.any_eq_true]
       have h6 := (tale_key h1).1
       rw [← HTV.out] at h6
       obtain ⟨z, hz, rfl⟩ := List.mem_map.1 h6
       refine ⟨z, hz, ?_⟩
       obtain ⟨_, r1, r2, r3⟩ := tale_key h1
       rw [HSM.out]
       simp only [Bool.and_eq_true, beq_iff_eq]
       rw [HYV.out]
       exact ⟨⟨r1, r2⟩, r3⟩
      have hall := HALL.out
      rw [hall]
      clear hall
      go_wp2_with fail
      go_roundg (2 - (k + 1))
      case measure => have := HK.out; omega
      case rel => exact ⟨k + 1, by omega, rfl, HBXW.out⟩
   ·go_wp2_with fail
    refine (works_any wr).mono ?_
    rintro r w9 ⟨rfl, hB9⟩
    go_wp2
    go_ret
    exact ⟨rfl, HBR0.out.trans (hB9.mono HBR0.out.size)⟩
end Go.Proofs.YtejabnoidhlfaaaDoor

/- SessStill: the walk. -/
namespace Go.Proofs.YtejabnoidhlfaaaDoor
open Go.RowKit Go.Maps

/-- At rest: an end sends its report, which changes nothing. -/
theorem still_take {l : Lp} (h : QL l) (hw : l.wire = []) {i j : Int} (t2 : Two i j) : takeA (l.end_ j) (reportA (l.end_ i)) = (l.end_ j, ⟨[], [], []⟩, 0) ∧ tickA (l.end_ i) = ([reportA (l.end_ i)], 0) := by
 have Si := still_of h hw t2
 have Sj := still_of h hw t2.sw
 have hgi := h.saf.ok.good i
 have hgj := h.saf.ok.good j
 have hGi := good_iff.1 hgi
 have hpr := report_proper hGi (hGi.op Si.op.1).1
 refine ⟨?_, ?_⟩
 ·have hfr : (reportA (l.end_ i)).frm = (l.end_ j).peer := Sj.op.2.symm
  have hm : ((reportA (l.end_ i)).to == (l.end_ j).life) = true := by rw [beq_iff_eq]; exact Si.op.2
  have ho : (if (l.end_ j).peer < (reportA (l.end_ i)).frm then overA (l.end_ j) (reportA (l.end_ i)).frm else (l.end_ j, [])) = (l.end_ j, []) := if_neg (by omega)
  have hop : openE (l.end_ j) = l.end_ j := by unfold openE; rw [if_neg (by rw [Sj.op.1]; decide)]
  have hf0 : flyN (l.end_ j) = 0 := by unfold flyN; rw [if_pos Sj.op.1, Sj.out]; rfl
  have hak : ackedA (l.end_ j) (reportA (l.end_ i)) 0 = l.end_ j := by
   unfold ackedA
   split
   ·rfl
   ·have ha : (reportA (l.end_ i)).ack = (l.end_ j).base := Sj.eq.symm
    rw [Sj.out, ha]
    simp only [List.drop_nil]
    have he : ∀ e : En, e.out = [] → ({ e with out := markA (reportA (l.end_ i)).held (0 - (e.base - e.base).toNat) 0 [], base := e.base } : En) = e := fun e he => by
     obtain ⟨a, b, c, d, o, w, n⟩ := e
     simp only at he
     subst he
     rfl
    exact he _ Sj.out
  rw [tk_go hgj hpr (by omega) ho, tb_ack hm rfl, hop, hf0, hak]
  have hfa : ∀ n, fromA (l.end_ j) n = [] := fun n => by unfold fromA; rw [hf0]; simp
  rw [hfa]
  rfl
 ·unfold tickA
  rw [hgi]
  simp only [Bool.true_eq_false, if_false]
  rw [if_neg (by rw [Si.op.1]; simp), Si.out, List.take_nil]
  rfl
theorem free_get : ∀ (l : List Ou) (i j : Nat), j ∈ freeIx i l → ∃ x, l[j - i]? = some x ∧ x.h = false ∧ i ≤ j
 | [], i, j, h => by cases h
 | x :: l, i, j, h => by
  rw [freeIx] at h
  have key : j ∈ freeIx (i + 1) l → ∃ y, (x :: l)[j - i]? = some y ∧ y.h = false ∧ i ≤ j := fun h => by
   obtain ⟨y, h1, h2, h3⟩ := free_get l (i + 1) j h
   refine ⟨y, ?_, h2, by omega⟩
   rw [show j - i = (j - (i + 1)) + 1 by omega, List.getElem?_cons_succ]
   exact h1
  split at h
  ·exact key h
  ·rename_i hx
   rcases List.mem_cons.1 h with h | h
   ·subst h
    exact ⟨x, by rw [Nat.sub_self]; rfl, by simpa using hx, Nat.le_refl _⟩
   ·exact key h
/-- A message that an end sends from time to time is not held by the other one, as far as it knows. -/
theorem tick_index {e : En} (hg : goodB e = true) {q : Pk} (hq : q ∈ (tickA e).1) : q.kind ≠ 2 ∨ ∃ (j : Nat) (x : Ou), e.out[j]? = some x ∧ x.h = false ∧ q.num = e.base + j := by
 unfold tickA at hq
 rw [hg] at hq
 simp only [Bool.true_eq_false, if_false] at hq
 by_cases hp : e.phase = 3
 ·rw [if_neg (by simpa using hp)] at hq
  rcases List.mem_append.1 hq with hq | hq
  ·obtain ⟨j, hj, rfl⟩ := List.mem_map.1 hq
   obtain ⟨x, h1, h2, _⟩ := free_get _ _ _ hj
   rw [Nat.sub_zero, List.getElem?_take] at h1
   split at h1
   ·exact .inr ⟨j, x, h1, h2, rfl⟩
   ·cases h1
  ·simp at hq
   subst hq
   exact .inl (by show ¬ (3 : Int) = 2; omega)
 ·rw [if_pos hp] at hq
  simp at hq
  subst hq
  exact .inl (by show ¬ (1 : Int) = 2; omega)
set_option maxRecDepth 100000 in
set_option maxHeartbeats 16000000 in
theorem walk_still (A : Option Addr) (c N : Nat) (l : List Ac) (OA : Option Addr) (oc ON : Nat) (ol : List Int) (w : World) (h : Cells w A (acs l)) (hN : l.length = min N 150) (hc : N ≤ c) (ha : ∀ a ∈ l, AcOk a) (ho : Cells w OA (ints ol)) (hON : ol.length = min ON 200) (hoc0 : ON ≤ oc) (hP : Pow w) :
  Calls Tryd.prog 3 #[.slice A N c, .slice OA ON oc] w fun r w' => r = .returned (.bool true) ∧ Below w.heap.size w w' := by
 have HC := Lib.hid h
 have HA := Lib.hid ha
 have HP := Lib.hid hP
 have HNN := Lib.hid hN
 have HO := Lib.hid ho
 clear h ha hP hN ho
 go_enter Tryd.func3, Tryd.ntmps3
 obtain ⟨on, hon⟩ : ∃ on, ol.length = on := ⟨_, rfl⟩
 have hmin : min (ON : Int) 200 = (on : Int) := by omega
 have hmax : max (on : Int) 0 = (on : Int) := by omega
 have hoc : on ≤ oc := by omega
 have honl : on ≤ ON := by omega
 have HOL := Lib.hid hon
 have HLD : Hid ((actsD l).length ≤ 150) := (actsD_ok HA.out).1
 obtain ⟨R, m, hQ, hR, hRW, hm2⟩ := quiet_rest (acts_played HA.out) (order := ol) (by omega)
 have HQ := Lib.hid hQ
 have HR := Lib.hid hR
 have HRW : Hid (R.wire.length = 0) := by show _ = _; rw [hRW]; rfl
 have HM2 := Lib.hid hm2
 clear hQ hR hRW hm2 hon
 go_upto_region 1 with fail
 go_cut [5, 6, 7] from 23 (fun v5 v6 v7 wx => ∃ (bx : Nat) (EA : Option Addr) (ce : Nat) (WA : Option Addr) (cw : Nat) (TA : Option Addr) (ct : Nat) (es : List Ez) (zs : List Tz), v5 = .pointer (some ⟨bx, 0, none⟩) ∧ v6 = .int .i64 m ∧ v7 = .int .i64 0 ∧ Blk wx bx (.cells #[.slice EA 2 ce, .slice WA 0 cw, .slice TA zs.length ct] 28) ∧ LnAt wx w.heap.size (showA R) EA WA TA es zs ∧ zs.length ≤ ct ∧ zs.map Tz.v = R.tales ∧ Below w.heap.size w wx)
 case first => as_aux_lemma =>
  refine draw (fun w' => Below w.heap.size w w') 16 rfl (by kernel_rfl) (fun Qd hQd => ?_)
  apply anyI_step 0 rfl (by kernel_rfl)
  focus (intro wI hI Kv hKv; go_simp; exact hKv)
  intro Kd hKd
  go_simp
  refine hKd _ ?_
  clear hKd Kd
  apply anyI_step 2 rfl (by kernel_rfl)
  focus (intro wI hI Kv hKv; go_simp; exact hKv)
  intro Kd hKd
  go_simp
  refine hKd _ ?_
  clear hKd Kd
  apply anyI_step 3 rfl (by kernel_rfl)
  focus (intro wI hI Kv hKv; go_simp; exact hKv)
  intro Kd hKd
  go_simp
  refine hKd _ ?_
  clear hKd Kd
  apply anyI_step 4 rfl (by kernel_rfl)
  focus (intro wI hI Kv hKv; go_simp; exact hKv)
  intro Kd hKd
  go_simp
  refine hKd _ ?_
  clear hKd Kd
  apply anyI_step 5 rfl (by kernel_rfl)
  focus (intro wI hI Kv hKv; go_simp; exact hKv)
  intro Kd hKd
  go_simp
  refine hKd _ ?_
  clear hKd Kd
  apply anyI_step 6 rfl (by kernel_rfl)
  focus (intro wI hI Kv hKv; go_simp; exact hKv)
  intro Kd hKd
  go_simp
  refine hKd _ ?_
  clear hKd Kd
  refine anyI_two' 1 12 rfl rfl (by kernel_rfl) ((Below.refl _ _).drew) (fun Kd hKd => ?_) (fun Kd hKd => ?_)
  ·skip
   have HX0 : Hid (Below w.heap.size w w.drew) := (Below.refl _ w).drew
   -- acts, in world w.drew
   go_wp2_with (go_at_call 9; go_must (refine (acts_any A c N l (w.drew) (HC.out.below HX0.out (Nat.le_refl _)) HNN.out hc HA.out (HP.out.below HX0.out)).mono ?_); rintro r w1 ⟨D, d, rfl, ho, hB1⟩)
   have HCD : Hid (Cells w1 D (dds (actsD l))) := (Cells.of_own ho (by rw [dds_len]; have := HLD.out; omega)).1
   have HB01 : Hid (Below (w.drew).heap.size (w.drew) w1) := hB1
   have HB1 : Hid (Below w.heap.size w w1) := (HX0.out).trans (hB1.mono (Below.size HX0.out))
   clear ho hB1
   refine anyI_two' 7 12 rfl rfl (by kernel_rfl) (HB1.out) (fun Kd hKd => ?_) (fun Kd hKd => ?_)
   ·skip
    -- Quiet, in world w1
    have HQC := quiet_any D d (actsD l) OA oc ol (w1) (HCD.out.below (Below.refl _ w1) (Nat.le_refl _)) (HO.out.below HB1.out (Nat.le_refl _))
    rw [HOL.out] at HQC
    have HQC := Lib.hid HQC
    go_wp2_with (go_at_call 8; go_must (refine HQC.out.mono ?_); rintro r w2 ⟨EA, ce, WA, cw, TA, ct, es, zs, rfl, hln, hB2, hct⟩)
    rw [HQ.out] at hln hct ⊢
    dsimp only at hln hct ⊢
    have HTV : Hid (zs.map Tz.v = R.tales) := hln.tv
    have HZL : Hid (R.tales.length = zs.length) := by show _ = _; rw [← HTV.out, List.length_map]
    have HCT : Hid (zs.length ≤ ct) := by show _ ≤ _; rw [← HZL.out]; exact hct
    have HLN := Lib.hid hln
    have HB02 : Hid (Below (w1).heap.size (w1) w2) := hB2
    have HB2 : Hid (Below w.heap.size w w2) := (HB1.out).trans (hB2.mono (Below.size HB1.out))
    clear hln hct hB2
    unfold lnV showA
    rw [HZL.out, HRW.out]
    simp only [List.length_cons, List.length_nil, Nat.zero_add, Nat.reduceAdd]
    apply anyI_step 8 rfl (by kernel_rfl)
    focus (intro wI hI Kv hKv; go_simp; exact hKv)
    intro Kd hKd
    go_simp
    refine hKd _ ?_
    clear hKd Kd
    apply anyI_step 9 rfl (by kernel_rfl)
    focus (intro wI hI Kv hKv; go_simp; exact hKv)
    intro Kd hKd
    go_simp
    refine hKd _ ?_
    clear hKd Kd
    apply anyI_step 10 rfl (by kernel_rfl)
    focus (intro wI hI Kv hKv; go_simp; exact hKv)
    intro Kd hKd
    go_simp
    refine hKd _ ?_
    clear hKd Kd
    apply anyI_step 11 rfl (by kernel_rfl)
    focus (intro wI hI Kv hKv; go_simp; exact hKv)
    intro Kd hKd
    go_simp
    refine hKd _ ?_
    clear hKd Kd
    -- the box is laid behind Quiet
    refine anyI_one' 12 rfl (by kernel_rfl) (HB2.out) (fun Kd hKd => ?_)
    go_wp2
    have HX2 : Hid (Below w.heap.size w (w2.alloc (.cells #[.slice none 0 0, .slice none 0 0, .slice none 0 0] 28))) := HB2.out.alloc HB2.out.size _
    refine anyI_one' 13 rfl (by kernel_rfl) (HX2.out) (fun Kd hKd => ?_)
    go_wp2
    obtain ⟨U, hU⟩ : ∃ U, w2.alloc (.cells #[.slice EA 2 ce, .slice WA 0 cw, .slice TA zs.length ct] 28) = U := ⟨_, rfl⟩
    have HKU : Hid (Blk U w2.heap.size (.cells #[.slice EA 2 ce, .slice WA 0 cw, .slice TA zs.length ct] 28)) := by rw [← hU]; exact Blk.new _ _
    have HBU : Hid (Below w.heap.size w U) := by rw [← hU]; exact HB2.out.alloc HB2.out.size _
    have HLU : Hid (LnAt U w.heap.size (showA R) EA WA TA es zs) := by rw [← hU]; exact (HLN.out.below ((Below.refl _ w2).alloc (Nat.le_refl _) _)).mono (Below.size HB1.out)
    rw [hU]
    clear hU
    apply anyI_step 14 rfl (by kernel_rfl)
    focus (intro wI hI Kv hKv; go_simp; exact hKv)
    intro Kd hKd
    go_simp
    refine hKd _ ?_
    clear hKd Kd
    apply anyI_step 15 rfl (by kernel_rfl)
    focus (intro wI hI Kv hKv; go_simp; exact hKv)
    intro Kd hKd
    go_simp
    refine hKd _ ?_
    clear hKd Kd
    refine anyI_end (by kernel_rfl) (HBU.out) (hQd _ _ ?_)
    clear hQd Qd
    go_wp2_with fail
    go_meet
    exact ⟨w2.heap.size, EA, ce, WA, cw, TA, ct, es, zs, rfl, rfl, rfl, HKU.out, HLU.out, HCT.out, HTV.out, HBU.out⟩
   ·skip
    go_wp2
    have HK0 : Hid (Blk (w1.alloc (.cells #[.slice none 0 0, .slice none 0 0, .slice none 0 0] 28)) w1.heap.size (.cells #[.slice none 0 0, .slice none 0 0, .slice none 0 0] 28)) := Blk.new _ _
    have HX1 : Hid (Below w.heap.size w (w1.alloc (.cells #[.slice none 0 0, .slice none 0 0, .slice none 0 0] 28))) := HB1.out.alloc HB1.out.size _
    refine anyI_one' 7 rfl (by kernel_rfl) (HX1.out) (fun Kd hKd => ?_)
    -- Quiet, in world w1.alloc (.cells #[.slice none 0 0, .slice none 0 0, .slice none 0 0] 28)
    have HQC := quiet_any D d (actsD l) OA oc ol (w1.alloc (.cells #[.slice none 0 0, .slice none 0 0, .slice none 0 0] 28)) (HCD.out.below ((Below.refl _ w1).alloc (Nat.le_refl _) _) (Nat.le_refl _)) (HO.out.below HX1.out (Nat.le_refl _))
    rw [HOL.out] at HQC
    have HQC := Lib.hid HQC
    go_wp2_with (go_at_call 8; go_must (refine HQC.out.mono ?_); rintro r w2 ⟨EA, ce, WA, cw, TA, ct, es, zs, rfl, hln, hB2, hct⟩)
    rw [HQ.out] at hln hct ⊢
    dsimp only at hln hct ⊢
    have HTV : Hid (zs.map Tz.v = R.tales) := hln.tv
    have HZL : Hid (R.tales.length = zs.length) := by show _ = _; rw [← HTV.out, List.length_map]
    have HCT : Hid (zs.length ≤ ct) := by show _ ≤ _; rw [← HZL.out]; exact hct
    have HLN := Lib.hid hln
    have HB02 : Hid (Below (w1.alloc (.cells #[.slice none 0 0, .slice none 0 0, .slice none 0 0] 28)).heap.size (w1.alloc (.cells #[.slice none 0 0, .slice none 0 0, .slice none 0 0] 28)) w2) := hB2
    have HB2 : Hid (Below w.heap.size w w2) := (HX1.out).trans (hB2.mono (Below.size HX1.out))
    clear hln hct hB2
    unfold lnV showA
    rw [HZL.out, HRW.out]
    simp only [List.length_cons, List.length_nil, Nat.zero_add, Nat.reduceAdd]
    apply anyI_step 8 rfl (by kernel_rfl)
    focus (intro wI hI Kv hKv; go_simp; exact hKv)
    intro Kd hKd
    go_simp
    refine hKd _ ?_
    clear hKd Kd
    apply anyI_step 9 rfl (by kernel_rfl)
    focus (intro wI hI Kv hKv; go_simp; exact hKv)
    intro Kd hKd
    go_simp
    refine hKd _ ?_
    clear hKd Kd
    apply anyI_step 10 rfl (by kernel_rfl)
    focus (intro wI hI Kv hKv; go_simp; exact hKv)
    intro Kd hKd
    go_simp
    refine hKd _ ?_
    clear hKd Kd
    apply anyI_step 11 rfl (by kernel_rfl)
    focus (intro wI hI Kv hKv; go_simp; exact hKv)
    intro Kd hKd
    go_simp
    refine hKd _ ?_
    clear hKd Kd
    -- the box bx was laid ahead of Quiet, in world @x@
    have HKX := Lib.hid (HK0.out.below HB02.out HK0.out.lt)
    have HLF : Hid (∀ U, Frame (fun b => b = w1.heap.size) w2 U → LnAt U w.heap.size (showA R) EA WA TA es zs) := fun U hF =>
     (HLN.out.frame hF (fun b e => by have h9 : b = w1.heap.size := e; have h8 := HK0.out.lt; omega) (fun b cur hb e => by rw [e] at hb; exact blk_ne hb HKX.out (by decide) rfl) (fun b cur hb e => by rw [e] at hb; exact blk_ne hb HKX.out (by decide) rfl)).mono (Below.size HX1.out)
    have hlo := HB1.out.size
    have k9 := HKX.out
    have z0 := k9.cell 0 (v := .slice none 0 0) rfl
    have z1 := k9.cell 1 (v := .slice none 0 0) rfl
    have z2 := k9.cell 2 (v := .slice none 0 0) rfl
    have y0 := k9.free 0
    have y1 := k9.free 1
    have y2 := k9.free 2
    have yl := k9.lt
    clear k9
    refine anyI_one' 13 rfl (by kernel_rfl) (HB2.out) (fun Kd hKd => ?_)
    go_wp2
    obtain ⟨U, hU⟩ : ∃ U, (((w2).setCell ⟨w1.heap.size, 0, none⟩ (.slice EA 2 ce)).setCell ⟨w1.heap.size, 1, none⟩ (.slice WA 0 cw)).setCell ⟨w1.heap.size, 2, none⟩ (.slice TA zs.length ct) = U := ⟨_, rfl⟩
    have HKU : Hid (Blk U w1.heap.size (.cells #[.slice EA 2 ce, .slice WA 0 cw, .slice TA zs.length ct] 28)) := by rw [← hU]; exact ((HKX.out.set 0 _).set 1 _).set 2 _
    have HFU : Hid (Frame (fun b => b = w1.heap.size) (w2) U) := by
     rw [← hU]
     exact (((Frame.refl (fun b => b = w1.heap.size) (w2)).setCell (p := ⟨w1.heap.size, 0, none⟩) (.inl rfl) _).setCell (p := ⟨w1.heap.size, 1, none⟩) (.inl rfl) _).setCell (p := ⟨w1.heap.size, 2, none⟩) (.inl rfl) _
    have HBU : Hid (Below w.heap.size w U) := Below.trans HB2.out (HFU.out.below (fun b e => by have h9 : b = w1.heap.size := e; have h8 := hlo; omega) (Below.size HB2.out))
    rw [hU]
    clear hU z0 z1 z2 y0 y1 y2 yl
    apply anyI_step 14 rfl (by kernel_rfl)
    focus (intro wI hI Kv hKv; go_simp; exact hKv)
    intro Kd hKd
    go_simp
    refine hKd _ ?_
    clear hKd Kd
    apply anyI_step 15 rfl (by kernel_rfl)
    focus (intro wI hI Kv hKv; go_simp; exact hKv)
    intro Kd hKd
    go_simp
    refine hKd _ ?_
    clear hKd Kd
    refine anyI_end (by kernel_rfl) (HBU.out) (hQd _ _ ?_)
    clear hQd Qd
    go_wp2_with fail
    go_meet
    exact ⟨w1.heap.size, EA, ce, WA, cw, TA, ct, es, zs, rfl, rfl, rfl, HKU.out, HLF.out U HFU.out, HCT.out, HTV.out, HBU.out⟩
  ·skip
   go_wp2
   have HK0 : Hid (Blk (w.drew.alloc (.cells #[.slice none 0 0, .slice none 0 0, .slice none 0 0] 28)) w.heap.size (.cells #[.slice none 0 0, .slice none 0 0, .slice none 0 0] 28)) := Blk.new w.drew _
   have HX0 : Hid (Below w.heap.size w (w.drew.alloc (.cells #[.slice none 0 0, .slice none 0 0, .slice none 0 0] 28))) := (Below.refl _ w).drew.alloc (Nat.le_refl _) _
   refine anyI_one' 1 rfl (by kernel_rfl) (HX0.out) (fun Kd hKd => ?_)
   -- acts, in world w.drew.alloc (.cells #[.slice none 0 0, .slice none 0 0, .slice none 0 0] 28)
   go_wp2_with (go_at_call 9; go_must (refine (acts_any A c N l (w.drew.alloc (.cells #[.slice none 0 0, .slice none 0 0, .slice none 0 0] 28)) (HC.out.below HX0.out (Nat.le_refl _)) HNN.out hc HA.out (HP.out.below HX0.out)).mono ?_); rintro r w1 ⟨D, d, rfl, ho, hB1⟩)
   have HCD : Hid (Cells w1 D (dds (actsD l))) := (Cells.of_own ho (by rw [dds_len]; have := HLD.out; omega)).1
   have HB01 : Hid (Below (w.drew.alloc (.cells #[.slice none 0 0, .slice none 0 0, .slice none 0 0] 28)).heap.size (w.drew.alloc (.cells #[.slice none 0 0, .slice none 0 0, .slice none 0 0] 28)) w1) := hB1
   have HB1 : Hid (Below w.heap.size w w1) := (HX0.out).trans (hB1.mono (Below.size HX0.out))
   clear ho hB1
   have HK0 := Lib.hid (HK0.out.below HB01.out HK0.out.lt)
   refine anyI_one' 7 rfl (by kernel_rfl) (HB1.out) (fun Kd hKd => ?_)
   -- Quiet, in world w1
   have HQC := quiet_any D d (actsD l) OA oc ol (w1) (HCD.out.below (Below.refl _ w1) (Nat.le_refl _)) (HO.out.below HB1.out (Nat.le_refl _))
   rw [HOL.out] at HQC
   have HQC := Lib.hid HQC
   go_wp2_with (go_at_call 8; go_must (refine HQC.out.mono ?_); rintro r w2 ⟨EA, ce, WA, cw, TA, ct, es, zs, rfl, hln, hB2, hct⟩)
   rw [HQ.out] at hln hct ⊢
   dsimp only at hln hct ⊢
   have HTV : Hid (zs.map Tz.v = R.tales) := hln.tv
   have HZL : Hid (R.tales.length = zs.length) := by show _ = _; rw [← HTV.out, List.length_map]
   have HCT : Hid (zs.length ≤ ct) := by show _ ≤ _; rw [← HZL.out]; exact hct
   have HLN := Lib.hid hln
   have HB02 : Hid (Below (w1).heap.size (w1) w2) := hB2
   have HB2 : Hid (Below w.heap.size w w2) := (HB1.out).trans (hB2.mono (Below.size HB1.out))
   clear hln hct hB2
   unfold lnV showA
   rw [HZL.out, HRW.out]
   simp only [List.length_cons, List.length_nil, Nat.zero_add, Nat.reduceAdd]
   apply anyI_step 8 rfl (by kernel_rfl)
   focus (intro wI hI Kv hKv; go_simp; exact hKv)
   intro Kd hKd
   go_simp
   refine hKd _ ?_
   clear hKd Kd
   apply anyI_step 9 rfl (by kernel_rfl)
   focus (intro wI hI Kv hKv; go_simp; exact hKv)
   intro Kd hKd
   go_simp
   refine hKd _ ?_
   clear hKd Kd
   apply anyI_step 10 rfl (by kernel_rfl)
   focus (intro wI hI Kv hKv; go_simp; exact hKv)
   intro Kd hKd
   go_simp
   refine hKd _ ?_
   clear hKd Kd
   apply anyI_step 11 rfl (by kernel_rfl)
   focus (intro wI hI Kv hKv; go_simp; exact hKv)
   intro Kd hKd
   go_simp
   refine hKd _ ?_
   clear hKd Kd
   -- the box bx was laid ahead of Quiet, in world @x@
   have HKX := Lib.hid (HK0.out.below HB02.out HK0.out.lt)
   have HLF : Hid (∀ U, Frame (fun b => b = w.heap.size) w2 U → LnAt U w.heap.size (showA R) EA WA TA es zs) := fun U hF =>
    (HLN.out.frame hF (fun b e => by have h9 : b = w.heap.size := e; have h8 := HK0.out.lt; omega) (fun b cur hb e => by rw [e] at hb; exact blk_ne hb HKX.out (by decide) rfl) (fun b cur hb e => by rw [e] at hb; exact blk_ne hb HKX.out (by decide) rfl)).mono (Below.size HB1.out)
   have hlo := Nat.le_refl w.heap.size
   have k9 := HKX.out
   have z0 := k9.cell 0 (v := .slice none 0 0) rfl
   have z1 := k9.cell 1 (v := .slice none 0 0) rfl
   have z2 := k9.cell 2 (v := .slice none 0 0) rfl
   have y0 := k9.free 0
   have y1 := k9.free 1
   have y2 := k9.free 2
   have yl := k9.lt
   clear k9
   refine anyI_one' 13 rfl (by kernel_rfl) (HB2.out) (fun Kd hKd => ?_)
   go_wp2
   obtain ⟨U, hU⟩ : ∃ U, (((w2).setCell ⟨w.heap.size, 0, none⟩ (.slice EA 2 ce)).setCell ⟨w.heap.size, 1, none⟩ (.slice WA 0 cw)).setCell ⟨w.heap.size, 2, none⟩ (.slice TA zs.length ct) = U := ⟨_, rfl⟩
   have HKU : Hid (Blk U w.heap.size (.cells #[.slice EA 2 ce, .slice WA 0 cw, .slice TA zs.length ct] 28)) := by rw [← hU]; exact ((HKX.out.set 0 _).set 1 _).set 2 _
   have HFU : Hid (Frame (fun b => b = w.heap.size) (w2) U) := by
    rw [← hU]
    exact (((Frame.refl (fun b => b = w.heap.size) (w2)).setCell (p := ⟨w.heap.size, 0, none⟩) (.inl rfl) _).setCell (p := ⟨w.heap.size, 1, none⟩) (.inl rfl) _).setCell (p := ⟨w.heap.size, 2, none⟩) (.inl rfl) _
   have HBU : Hid (Below w.heap.size w U) := Below.trans HB2.out (HFU.out.below (fun b e => by have h9 : b = w.heap.size := e; have h8 := hlo; omega) (Below.size HB2.out))
   rw [hU]
   clear hU z0 z1 z2 y0 y1 y2 yl
   apply anyI_step 14 rfl (by kernel_rfl)
   focus (intro wI hI Kv hKv; go_simp; exact hKv)
   intro Kd hKd
   go_simp
   refine hKd _ ?_
   clear hKd Kd
   apply anyI_step 15 rfl (by kernel_rfl)
   focus (intro wI hI Kv hKv; go_simp; exact hKv)
   intro Kd hKd
   go_simp
   refine hKd _ ?_
   clear hKd Kd
   refine anyI_end (by kernel_rfl) (HBU.out) (hQd _ _ ?_)
   clear hQd Qd
   go_wp2_with fail
   go_meet
   exact ⟨w.heap.size, EA, ce, WA, cw, TA, ct, es, zs, rfl, rfl, rfl, HKU.out, HLF.out U HFU.out, HCT.out, HTV.out, HBU.out⟩
 case rest =>
  obtain ⟨bx, EA, ce, WA, cw, TA, ct, es, zs, rfl, rfl, rfl, hkx, hln, hct, htv, hbw⟩ := hcut
  obtain ⟨W, rfl⟩ : ∃ W, W = wc := ⟨_, rfl⟩
  have HXW := Lib.hid hkx
  have HLW := Lib.hid hln
  have HBW := Lib.hid hbw
  have HEV : Hid (es.map Ez.v = [R.e0, R.e1]) := hln.ev
  have HE2 : Hid (es.length = 2) := by have h9 := congrArg List.length HEV.out; rw [List.length_map] at h9; exact h9
  have HEI : Hid (∀ (i : Nat) y, es[i]? = some y → i < 2 → y.v = R.end_ i) := fun i y hy hi => by
   have h9 := congrArg (fun l => l[i]?) HEV.out
   simp only [List.getElem?_map, hy, Option.map_some] at h9
   have h8 : i = 0 ∨ i = 1 := by omega
   rcases h8 with rfl | rfl
   ·injection h9
   ·injection h9
  clear hkx hln hct htv hbw
  have k9 := HXW.out
  have x0 := k9.cell 0 (v := .slice EA 2 ce) rfl
  have x1 := k9.cell 1 (v := .slice WA 0 cw) rfl
  have x2 := k9.cell 2 (v := .slice TA zs.length ct) rfl
  have xl := k9.lt
  clear k9
  go_wp2_with fail
  clear x0 x1 x2 xl
  go_loopg [46] 2 (fun g iv wr => ∃ k : Nat, k + g = 2 ∧ iv = .int .i64 (k : Int) ∧ Below W.heap.size W wr)
  case atStart => exact ⟨0, Nat.zero_add _, rfl, Below.refl _ _⟩
  case round =>
   obtain ⟨k, hk, rfl, hB⟩ := hrel
   have HK := Lib.hid hk
   have HBR := Lib.hid hB
   have HBR0 : Hid (Below w.heap.size w wr) := HBW.out.trans (hB.mono HBW.out.size)
   have HXR := Lib.hid (HXW.out.below hB HXW.out.lt)
   clear hk hB
   by_cases hlt : (k : Int) < 2
   ·obtain ⟨j, hj⟩ : ∃ j : Nat, 1 - k = j := ⟨_, rfl⟩
    have HWK : Hid (IntKind.i64.wrap (1 - (k : Int)) = (j : Int)) := by show _ = _; rw [show 1 - (k : Int) = (j : Int) by omega]; exact wrap_ok ⟨by omega, by omega⟩
    have hw1 : IntKind.i64.wrap ((k : Int) + 1) = (k : Int) + 1 := wrap_ok ⟨by omega, by omega⟩
    have T2 : Hid (Two (k : Int) (j : Int)) := ⟨by omega, by omega⟩
    have HST := Lib.hid (still_take HR.out (List.eq_nil_of_length_eq_zero HRW.out) T2.out)
    have HSJ := Lib.hid (still_of HR.out (List.eq_nil_of_length_eq_zero HRW.out) T2.out.sw)
    have HJ2 : Hid (j < 2) := by show _ < _; omega
    obtain ⟨y, yb, yo, hy, hyb, hyi, y0, y1, y2, y3, y4, y5, y6⟩ := ez_at (c := ce) (k := k) (HLW.out.ends.below HBR.out (Nat.le_refl _)) (by have := HE2.out; omega)
    rw [HE2.out] at hyi
    have HYV := Lib.hid (HEI.out k y hy (by omega))
    have HYI : Hid (y ∈ es) := List.mem_of_getElem? hy
    clear hy hj
    go_upto_region 7 with fail
    obtain ⟨Y, hY⟩ : ∃ Y, wr.alloc (.cells #[.int .i64 y.v.life, .int .i64 y.v.peer, .int .i64 y.v.phase, .int .i64 y.v.base, .slice y.A y.v.out.length y.c, .int .i64 y.v.want, .slice y.D y.v.inn.length y.d] 38) = Y := ⟨_, rfl⟩
    have HYY : Hid (Blk Y wr.heap.size (.cells #[.int .i64 y.v.life, .int .i64 y.v.peer, .int .i64 y.v.phase, .int .i64 y.v.base, .slice y.A y.v.out.length y.c, .int .i64 y.v.want, .slice y.D y.v.inn.length y.d] 38)) := by rw [← hY]; exact Blk.new _ _
    have HB0Y : Hid (Below wr.heap.size wr Y) := by rw [← hY]; exact (Below.refl _ _).alloc (Nat.le_refl _) _
    have HBY : Hid (Below W.heap.size W Y) := HBR.out.trans (HB0Y.out.mono HBR.out.size)
    have HXY := Lib.hid (HXR.out.below HB0Y.out HXR.out.lt)
    rw [hY]
    clear hY y0 y1 y2 y3 y4 y5 y6 hyi hyb
    have k9 := HYY.out
    have s0 := k9.cell 0 (v := .int .i64 y.v.life) rfl
    have s1 := k9.cell 1 (v := .int .i64 y.v.peer) rfl
    have s2 := k9.cell 2 (v := .int .i64 y.v.phase) rfl
    have s3 := k9.cell 3 (v := .int .i64 y.v.base) rfl
    have s4 := k9.cell 4 (v := .slice y.A y.v.out.length y.c) rfl
    have s5 := k9.cell 5 (v := .int .i64 y.v.want) rfl
    have s6 := k9.cell 6 (v := .slice y.D y.v.inn.length y.d) rfl
    have sl := k9.lt
    clear k9
    go_wp2_with fail
    refine (tick_any y.v y.A y.c y.D y.d Y ((HLW.out.en y HYI.out).at_.below HBY.out) (fun h0 => ⟨by have h9 := (HLW.out.en y HYI.out).nil h0; have h8 := (HLW.out.en y HYI.out).cap; omega, (HLW.out.en y HYI.out).nil h0⟩)).mono ?_
    rintro r w5 ⟨v, rfl, ho5, hB5⟩
    have hti : tickA y.v = ([reportA y.v], 0) := by rw [HYV.out]; exact HST.out.2
    rw [hti] at ho5 ⊢
    clear hti
    obtain ⟨PA, pc, rfl, hpc⟩ := own_at ho5 (by rw [pks_len]; simp)
    have HPC := Lib.hid hpc
    have HB5 : Hid (Below W.heap.size W w5) := HBY.out.trans (hB5.mono HBY.out.size)
    have HX5 := Lib.hid (HXY.out.below hB5 HXY.out.lt)
    clear ho5 hpc hB5 s0 s1 s2 s3 s4 s5 s6 sl
    simp only [List.length_cons, List.length_nil, Nat.zero_add]
    go_upto_region 10 with fail
    obtain ⟨q, qb, qo, hq, hqb, hqi, q0, q1, q2, q3, q4, q5, q6⟩ := ez_at (c := ce) (k := j) (HLW.out.ends.below HB5.out (Nat.le_refl _)) (by have := HE2.out; have := HJ2.out; omega)
    rw [HE2.out] at hqi
    have HQV := Lib.hid (HEI.out j q hq HJ2.out)
    have HQI : Hid (q ∈ es) := List.mem_of_getElem? hq
    have HQE := Lib.hid ((HLW.out.en q HQI.out).frame (Frame.of_all (S := fun _ => False) HB5.out) (fun _ _ _ h => h) (fun _ _ _ h => h))
    have HQN : Hid (q.A = none → q.v.out.length = 0 ∧ q.c = 0) := fun h0 => ⟨by have h9 := HQE.out.nil h0; have h8 := HQE.out.cap; omega, HQE.out.nil h0⟩
    have HRR : Hid (takeA q.v (reportA y.v) = (q.v, ⟨[], [], []⟩, 0)) := by show _ = _; rw [HQV.out, HYV.out]; exact HST.out.1
    have HQO : Hid (q.v.out.length = 0 ∧ q.v.inn.length = 0) := by show _ ∧ _; rw [HQV.out, HSJ.out.out, HSJ.out.inn]; exact ⟨rfl, rfl⟩
    clear hq
    go_cut [12, 13, 14] from 63 to 76 (fun v12 v13 v14 wx => ∃ (b5 b6 : Nat) (A2 : Option Addr) (c2 : Nat) (D2 : Option Addr) (d2 : Nat) (P2 : Option Addr) (p2 : Nat) (T2 : Option Addr) (t2 : Nat) (L2 : Option Addr) (l2 : Nat), v12 = .pointer (some ⟨b5, 0, none⟩) ∧ v13 = .pointer (some ⟨b6, 0, none⟩) ∧ v14 = .int .i64 0 ∧ Tj wx (q.v, ⟨[], [], []⟩, 0) b5 b6 A2 c2 D2 d2 P2 p2 T2 t2 L2 l2 ∧ Below w5.heap.size w5 wx)
    case first => as_aux_lemma =>
     obtain ⟨pk, pb, po, hpk, hpb, hpi, p0, p1, p2, p3, p4, p5, p6⟩ := pk_at (c := pc) (k := 0) HPC.out (by simp)
     have hpke : pk = reportA y.v := by simpa using hpk.symm
     subst hpke
     simp only [List.length_cons, List.length_nil, Nat.zero_add] at hpi
     have hpi : ∀ w', (Instr.indexAt 39 (.slice PA 1 pc) (.int .i64 0)).run Tryd.prog w' = .ok (.pointer (some ⟨pb, po, none⟩)) w' := hpi
     have HR := Lib.hid (Rg.start w5)
     have hwk := HWK.out
     have xl := HX5.out.lt
     have x0 := HX5.out.cell 0 (v := .slice EA 2 ce) rfl
     clear hpk
     refine draw (fun w' => Below w5.heap.size w5 w') 19 rfl (by kernel_rfl) (fun Qd hQd => ?_)
     have HRD := fun (wI : World) (hI : (fun w' => Below w5.heap.size w5 w') wI) => (have u0 := cell_chain hI xl x0; have v0 := cell_chain hI hqb q0; have v1 := cell_chain hI hqb q1; have v2 := cell_chain hI hqb q2; have v3 := cell_chain hI hqb q3; have v4 := cell_chain hI hqb q4; have v5 := cell_chain hI hqb q5; have v6 := cell_chain hI hqb q6; have s0 := cell_chain hI hpb p0; have s1 := cell_chain hI hpb p1; have s2 := cell_chain hI hpb p2; have s3 := cell_chain hI hpb p3; have s4 := cell_chain hI hpb p4; have s5 := cell_chain hI hpb p5; have s6 := cell_chain hI hpb p6; And.intro u0 (And.intro v0 (And.intro v1 (And.intro v2 (And.intro v3 (And.intro v4 (And.intro v5 (And.intro v6 (And.intro s0 (And.intro s1 (And.intro s2 (And.intro s3 (And.intro s4 (And.intro s5 s6))))))))))))))
     apply anyI_step 0 rfl (by kernel_rfl)
     focus (intro wI hI Kv hKv; obtain ⟨u0, v0, v1, v2, v3, v4, v5, v6, s0, s1, s2, s3, s4, s5, s6⟩ := HRD wI hI; go_simp; exact hKv)
     intro Kd hKd
     go_simp
     refine hKd _ ?_
     clear hKd Kd
     apply anyI_step 2 rfl (by kernel_rfl)
     focus (intro wI hI Kv hKv; obtain ⟨u0, v0, v1, v2, v3, v4, v5, v6, s0, s1, s2, s3, s4, s5, s6⟩ := HRD wI hI; go_simp; exact hKv)
     intro Kd hKd
     go_simp
     refine hKd _ ?_
     clear hKd Kd
     apply anyI_step 6 rfl (by kernel_rfl)
     focus (intro wI hI Kv hKv; obtain ⟨u0, v0, v1, v2, v3, v4, v5, v6, s0, s1, s2, s3, s4, s5, s6⟩ := HRD wI hI; go_simp; exact hKv)
     intro Kd hKd
     go_simp
     refine hKd _ ?_
     clear hKd Kd
     apply anyI_step 1 rfl (by kernel_rfl)
     focus (intro wI hI Kv hKv; obtain ⟨u0, v0, v1, v2, v3, v4, v5, v6, s0, s1, s2, s3, s4, s5, s6⟩ := HRD wI hI; go_simp; exact hKv)
     intro Kd hKd
     go_simp
     refine hKd _ ?_
     clear hKd Kd
     apply anyI_step 3 rfl (by kernel_rfl)
     focus (intro wI hI Kv hKv; obtain ⟨u0, v0, v1, v2, v3, v4, v5, v6, s0, s1, s2, s3, s4, s5, s6⟩ := HRD wI hI; go_simp; exact hKv)
     intro Kd hKd
     go_simp
     refine hKd _ ?_
     clear hKd Kd
     apply anyI_step 7 rfl (by kernel_rfl)
     focus (intro wI hI Kv hKv; obtain ⟨u0, v0, v1, v2, v3, v4, v5, v6, s0, s1, s2, s3, s4, s5, s6⟩ := HRD wI hI; go_simp; exact hKv)
     intro Kd hKd
     go_simp
     refine hKd _ ?_
     clear hKd Kd
     apply anyI_step 4 rfl (by kernel_rfl)
     focus (intro wI hI Kv hKv; obtain ⟨u0, v0, v1, v2, v3, v4, v5, v6, s0, s1, s2, s3, s4, s5, s6⟩ := HRD wI hI; go_simp; exact hKv)
     intro Kd hKd
     go_simp
     refine hKd _ ?_
     clear hKd Kd
     apply anyI_step 8 rfl (by kernel_rfl)
     focus (intro wI hI Kv hKv; obtain ⟨u0, v0, v1, v2, v3, v4, v5, v6, s0, s1, s2, s3, s4, s5, s6⟩ := HRD wI hI; go_simp; exact hKv)
     intro Kd hKd
     go_simp
     refine hKd _ ?_
     clear hKd Kd
     apply anyI_step 5 rfl (by kernel_rfl)
     focus (intro wI hI Kv hKv; obtain ⟨u0, v0, v1, v2, v3, v4, v5, v6, s0, s1, s2, s3, s4, s5, s6⟩ := HRD wI hI; go_simp; exact hKv)
     intro Kd hKd
     go_simp
     refine hKd _ ?_
     clear hKd Kd
     clear HRD
     refine anyI_three' 9 14 15 rfl rfl rfl (by kernel_rfl) (HR.out.below) (fun Kd hKd => ?_) (fun Kd hKd => ?_) (fun Kd hKd => ?_)
     ·skip
      go_wp2_with (go_at_call 11; go_must (refine (take_any q.v q.A q.c q.D q.d (reportA y.v) _ (HQE.out.at_.below HR.out.below) HQN.out (by show ByteArray.empty.size ≤ _; decide)).mono ?_); rintro r wt ⟨A, c, D, d, P, cp, T, ct, L, cl, rfl, hpost⟩)
      obtain ⟨hto, hbt⟩ := to_of hpost
      rw [HRR.out] at hto ⊢
      have HTO := Lib.hid hto
      have HT := Lib.hid (Rt.start HR.out hbt)
      clear hpost hto hbt
      apply anyI_step 10 rfl (by kernel_rfl)
      focus (intro wI hI Kv hKv; go_simp; exact hKv)
      intro Kd hKd
      go_simp
      refine hKd _ ?_
      clear hKd Kd
      apply anyI_step 11 rfl (by kernel_rfl)
      focus (intro wI hI Kv hKv; go_simp; exact hKv)
      intro Kd hKd
      go_simp
      refine hKd _ ?_
      clear hKd Kd
      apply anyI_step 12 rfl (by kernel_rfl)
      focus (intro wI hI Kv hKv; go_simp; exact hKv)
      intro Kd hKd
      go_simp
      refine hKd _ ?_
      clear hKd Kd
      apply anyI_step 13 rfl (by kernel_rfl)
      focus (intro wI hI Kv hKv; go_simp; exact hKv)
      intro Kd hKd
      go_simp
      refine hKd _ ?_
      clear hKd Kd
      refine anyI_two' 14 15 rfl rfl (by kernel_rfl) (HT.out.rg.below) (fun Kd hKd => ?_) (fun Kd hKd => ?_)
      ·skip
       go_wp2
       have HT := Lib.hid (HT.out.al5 (wt.heap.size) (by simp))
       refine anyI_one' 15 rfl (by kernel_rfl) (HT.out.rg.below) (fun Kd hKd => ?_)
       go_wp2
       have HT := Lib.hid (HT.out.al6 (wt.heap.size + 1) (by simp))
       have HF := Lib.hid (rt_fin d cp HT.out HTO.out)
       refine anyI_one' 16 rfl (by kernel_rfl) (HF.out.i0) (fun Kd hKd => ?_)
       refine wpList_store26 rfl _ _ rfl HF.out.h5 rfl rfl ?_
       refine ⟨rfl, hKd _ _ ?_⟩
       clear hKd Kd
       refine anyI_one' 17 rfl (by kernel_rfl) (HF.out.i1) (fun Kd hKd => ?_)
       refine wpList_store47 rfl _ _ rfl HF.out.h6 rfl rfl ?_
       refine ⟨rfl, hKd _ _ ?_⟩
       clear hKd Kd
       apply anyI_step 18 rfl (by kernel_rfl)
       focus (intro wI hI Kv hKv; go_simp; exact hKv)
       intro Kd hKd
       go_simp
       refine hKd _ ?_
       clear hKd Kd
       refine anyI_end (by kernel_rfl) (HF.out.i2) (hQd _ _ ?_)
       clear hQd Qd
       go_wp2_with fail
       go_meet
       exact ⟨wt.heap.size, wt.heap.size + 1, A, c, D, d, P, cp, T, ct, L, cl, rfl, rfl, rfl, HF.out.tj, HF.out.i2⟩
      ·skip
       go_wp2
       have HT := Lib.hid (HT.out.al6 (wt.heap.size) (by simp))
       refine anyI_one' 14 rfl (by kernel_rfl) (HT.out.rg.below) (fun Kd hKd => ?_)
       go_wp2
       have HT := Lib.hid (HT.out.al5 (wt.heap.size + 1) (by simp))
       have HF := Lib.hid (rt_fin d cp HT.out HTO.out)
       refine anyI_one' 16 rfl (by kernel_rfl) (HF.out.i0) (fun Kd hKd => ?_)
       refine wpList_store26 rfl _ _ rfl HF.out.h5 rfl rfl ?_
       refine ⟨rfl, hKd _ _ ?_⟩
       clear hKd Kd
       refine anyI_one' 17 rfl (by kernel_rfl) (HF.out.i1) (fun Kd hKd => ?_)
       refine wpList_store47 rfl _ _ rfl HF.out.h6 rfl rfl ?_
       refine ⟨rfl, hKd _ _ ?_⟩
       clear hKd Kd
       apply anyI_step 18 rfl (by kernel_rfl)
       focus (intro wI hI Kv hKv; go_simp; exact hKv)
       intro Kd hKd
       go_simp
       refine hKd _ ?_
       clear hKd Kd
       refine anyI_end (by kernel_rfl) (HF.out.i2) (hQd _ _ ?_)
       clear hQd Qd
       go_wp2_with fail
       go_meet
       exact ⟨wt.heap.size + 1, wt.heap.size, A, c, D, d, P, cp, T, ct, L, cl, rfl, rfl, rfl, HF.out.tj, HF.out.i2⟩
     ·skip
      go_wp2
      have HR := Lib.hid (HR.out.al5 (w5.heap.size) (by simp))
      refine anyI_two' 9 15 rfl rfl (by kernel_rfl) (HR.out.below) (fun Kd hKd => ?_) (fun Kd hKd => ?_)
      ·skip
       go_wp2_with (go_at_call 11; go_must (refine (take_any q.v q.A q.c q.D q.d (reportA y.v) _ (HQE.out.at_.below HR.out.below) HQN.out (by show ByteArray.empty.size ≤ _; decide)).mono ?_); rintro r wt ⟨A, c, D, d, P, cp, T, ct, L, cl, rfl, hpost⟩)
       obtain ⟨hto, hbt⟩ := to_of hpost
       rw [HRR.out] at hto ⊢
       have HTO := Lib.hid hto
       have HT := Lib.hid (Rt.start HR.out hbt)
       clear hpost hto hbt
       apply anyI_step 10 rfl (by kernel_rfl)
       focus (intro wI hI Kv hKv; go_simp; exact hKv)
       intro Kd hKd
       go_simp
       refine hKd _ ?_
       clear hKd Kd
       apply anyI_step 11 rfl (by kernel_rfl)
       focus (intro wI hI Kv hKv; go_simp; exact hKv)
       intro Kd hKd
       go_simp
       refine hKd _ ?_
       clear hKd Kd
       apply anyI_step 12 rfl (by kernel_rfl)
       focus (intro wI hI Kv hKv; go_simp; exact hKv)
       intro Kd hKd
       go_simp
       refine hKd _ ?_
       clear hKd Kd
       apply anyI_step 13 rfl (by kernel_rfl)
       focus (intro wI hI Kv hKv; go_simp; exact hKv)
       intro Kd hKd
       go_simp
       refine hKd _ ?_
       clear hKd Kd
       refine anyI_one' 15 rfl (by kernel_rfl) (HT.out.rg.below) (fun Kd hKd => ?_)
       go_wp2
       have HT := Lib.hid (HT.out.al6 (wt.heap.size) (by simp))
       have HF := Lib.hid (rt_fin d cp HT.out HTO.out)
       refine anyI_one' 16 rfl (by kernel_rfl) (HF.out.i0) (fun Kd hKd => ?_)
       refine wpList_store26 rfl _ _ rfl HF.out.h5 rfl rfl ?_
       refine ⟨rfl, hKd _ _ ?_⟩
       clear hKd Kd
       refine anyI_one' 17 rfl (by kernel_rfl) (HF.out.i1) (fun Kd hKd => ?_)
       refine wpList_store47 rfl _ _ rfl HF.out.h6 rfl rfl ?_
       refine ⟨rfl, hKd _ _ ?_⟩
       clear hKd Kd
       apply anyI_step 18 rfl (by kernel_rfl)
       focus (intro wI hI Kv hKv; go_simp; exact hKv)
       intro Kd hKd
       go_simp
       refine hKd _ ?_
       clear hKd Kd
       refine anyI_end (by kernel_rfl) (HF.out.i2) (hQd _ _ ?_)
       clear hQd Qd
       go_wp2_with fail
       go_meet
       exact ⟨w5.heap.size, wt.heap.size, A, c, D, d, P, cp, T, ct, L, cl, rfl, rfl, rfl, HF.out.tj, HF.out.i2⟩
      ·skip
       go_wp2
       have HR := Lib.hid (HR.out.al6 (w5.heap.size + 1) (by simp))
       refine anyI_one' 9 rfl (by kernel_rfl) (HR.out.below) (fun Kd hKd => ?_)
       go_wp2_with (go_at_call 11; go_must (refine (take_any q.v q.A q.c q.D q.d (reportA y.v) _ (HQE.out.at_.below HR.out.below) HQN.out (by show ByteArray.empty.size ≤ _; decide)).mono ?_); rintro r wt ⟨A, c, D, d, P, cp, T, ct, L, cl, rfl, hpost⟩)
       obtain ⟨hto, hbt⟩ := to_of hpost
       rw [HRR.out] at hto ⊢
       have HTO := Lib.hid hto
       have HT := Lib.hid (Rt.start HR.out hbt)
       clear hpost hto hbt
       apply anyI_step 10 rfl (by kernel_rfl)
       focus (intro wI hI Kv hKv; go_simp; exact hKv)
       intro Kd hKd
       go_simp
       refine hKd _ ?_
       clear hKd Kd
       apply anyI_step 11 rfl (by kernel_rfl)
       focus (intro wI hI Kv hKv; go_simp; exact hKv)
       intro Kd hKd
       go_simp
       refine hKd _ ?_
       clear hKd Kd
       apply anyI_step 12 rfl (by kernel_rfl)
       focus (intro wI hI Kv hKv; go_simp; exact hKv)
       intro Kd hKd
       go_simp
       refine hKd _ ?_
       clear hKd Kd
       apply anyI_step 13 rfl (by kernel_rfl)
       focus (intro wI hI Kv hKv; go_simp; exact hKv)
       intro Kd hKd
       go_simp
       refine hKd _ ?_
       clear hKd Kd
       have HF := Lib.hid (rt_fin d cp HT.out HTO.out)
       refine anyI_one' 16 rfl (by kernel_rfl) (HF.out.i0) (fun Kd hKd => ?_)
       refine wpList_store26 rfl _ _ rfl HF.out.h5 rfl rfl ?_
       refine ⟨rfl, hKd _ _ ?_⟩
       clear hKd Kd
       refine anyI_one' 17 rfl (by kernel_rfl) (HF.out.i1) (fun Kd hKd => ?_)
       refine wpList_store47 rfl _ _ rfl HF.out.h6 rfl rfl ?_
       refine ⟨rfl, hKd _ _ ?_⟩
       clear hKd Kd
       apply anyI_step 18 rfl (by kernel_rfl)
       focus (intro wI hI Kv hKv; go_simp; exact hKv)
       intro Kd hKd
       go_simp
       refine hKd _ ?_
       clear hKd Kd
       refine anyI_end (by kernel_rfl) (HF.out.i2) (hQd _ _ ?_)
       clear hQd Qd
       go_wp2_with fail
       go_meet
       exact ⟨w5.heap.size, w5.heap.size + 1, A, c, D, d, P, cp, T, ct, L, cl, rfl, rfl, rfl, HF.out.tj, HF.out.i2⟩
     ·skip
      go_wp2
      have HR := Lib.hid (HR.out.al6 (w5.heap.size) (by simp))
      refine anyI_two' 9 14 rfl rfl (by kernel_rfl) (HR.out.below) (fun Kd hKd => ?_) (fun Kd hKd => ?_)
      ·skip
       go_wp2_with (go_at_call 11; go_must (refine (take_any q.v q.A q.c q.D q.d (reportA y.v) _ (HQE.out.at_.below HR.out.below) HQN.out (by show ByteArray.empty.size ≤ _; decide)).mono ?_); rintro r wt ⟨A, c, D, d, P, cp, T, ct, L, cl, rfl, hpost⟩)
       obtain ⟨hto, hbt⟩ := to_of hpost
       rw [HRR.out] at hto ⊢
       have HTO := Lib.hid hto
       have HT := Lib.hid (Rt.start HR.out hbt)
       clear hpost hto hbt
       apply anyI_step 10 rfl (by kernel_rfl)
       focus (intro wI hI Kv hKv; go_simp; exact hKv)
       intro Kd hKd
       go_simp
       refine hKd _ ?_
       clear hKd Kd
       apply anyI_step 11 rfl (by kernel_rfl)
       focus (intro wI hI Kv hKv; go_simp; exact hKv)
       intro Kd hKd
       go_simp
       refine hKd _ ?_
       clear hKd Kd
       apply anyI_step 12 rfl (by kernel_rfl)
       focus (intro wI hI Kv hKv; go_simp; exact hKv)
       intro Kd hKd
       go_simp
       refine hKd _ ?_
       clear hKd Kd
       apply anyI_step 13 rfl (by kernel_rfl)
       focus (intro wI hI Kv hKv; go_simp; exact hKv)
       intro Kd hKd
       go_simp
       refine hKd _ ?_
       clear hKd Kd
       refine anyI_one' 14 rfl (by kernel_rfl) (HT.out.rg.below) (fun Kd hKd => ?_)
       go_wp2
       have HT := Lib.hid (HT.out.al5 (wt.heap.size) (by simp))
       have HF := Lib.hid (rt_fin d cp HT.out HTO.out)
       refine anyI_one' 16 rfl (by kernel_rfl) (HF.out.i0) (fun Kd hKd => ?_)
       refine wpList_store26 rfl _ _ rfl HF.out.h5 rfl rfl ?_
       refine ⟨rfl, hKd _ _ ?_⟩
       clear hKd Kd
       refine anyI_one' 17 rfl (by kernel_rfl) (HF.out.i1) (fun Kd hKd => ?_)
       refine wpList_store47 rfl _ _ rfl HF.out.h6 rfl rfl ?_
       refine ⟨rfl, hKd _ _ ?_⟩
       clear hKd Kd
       apply anyI_step 18 rfl (by kernel_rfl)
       focus (intro wI hI Kv hKv; go_simp; exact hKv)
       intro Kd hKd
       go_simp
       refine hKd _ ?_
       clear hKd Kd
       refine anyI_end (by kernel_rfl) (HF.out.i2) (hQd _ _ ?_)
       clear hQd Qd
       go_wp2_with fail
       go_meet
       exact ⟨wt.heap.size, w5.heap.size, A, c, D, d, P, cp, T, ct, L, cl, rfl, rfl, rfl, HF.out.tj, HF.out.i2⟩
      ·skip
       go_wp2
       have HR := Lib.hid (HR.out.al5 (w5.heap.size + 1) (by simp))
       refine anyI_one' 9 rfl (by kernel_rfl) (HR.out.below) (fun Kd hKd => ?_)
       go_wp2_with (go_at_call 11; go_must (refine (take_any q.v q.A q.c q.D q.d (reportA y.v) _ (HQE.out.at_.below HR.out.below) HQN.out (by show ByteArray.empty.size ≤ _; decide)).mono ?_); rintro r wt ⟨A, c, D, d, P, cp, T, ct, L, cl, rfl, hpost⟩)
       obtain ⟨hto, hbt⟩ := to_of hpost
       rw [HRR.out] at hto ⊢
       have HTO := Lib.hid hto
       have HT := Lib.hid (Rt.start HR.out hbt)
       clear hpost hto hbt
       apply anyI_step 10 rfl (by kernel_rfl)
       focus (intro wI hI Kv hKv; go_simp; exact hKv)
       intro Kd hKd
       go_simp
       refine hKd _ ?_
       clear hKd Kd
       apply anyI_step 11 rfl (by kernel_rfl)
       focus (intro wI hI Kv hKv; go_simp; exact hKv)
       intro Kd hKd
       go_simp
       refine hKd _ ?_
       clear hKd Kd
       apply anyI_step 12 rfl (by kernel_rfl)
       focus (intro wI hI Kv hKv; go_simp; exact hKv)
       intro Kd hKd
       go_simp
       refine hKd _ ?_
       clear hKd Kd
       apply anyI_step 13 rfl (by kernel_rfl)
       focus (intro wI hI Kv hKv; go_simp; exact hKv)
       intro Kd hKd
       go_simp
       refine hKd _ ?_
       clear hKd Kd
       have HF := Lib.hid (rt_fin d cp HT.out HTO.out)
       refine anyI_one' 16 rfl (by kernel_rfl) (HF.out.i0) (fun Kd hKd => ?_)
       refine wpList_store26 rfl _ _ rfl HF.out.h5 rfl rfl ?_
       refine ⟨rfl, hKd _ _ ?_⟩
       clear hKd Kd
       refine anyI_one' 17 rfl (by kernel_rfl) (HF.out.i1) (fun Kd hKd => ?_)
       refine wpList_store47 rfl _ _ rfl HF.out.h6 rfl rfl ?_
       refine ⟨rfl, hKd _ _ ?_⟩
       clear hKd Kd
       apply anyI_step 18 rfl (by kernel_rfl)
       focus (intro wI hI Kv hKv; go_simp; exact hKv)
       intro Kd hKd
       go_simp
       refine hKd _ ?_
       clear hKd Kd
       refine anyI_end (by kernel_rfl) (HF.out.i2) (hQd _ _ ?_)
       clear hQd Qd
       go_wp2_with fail
       go_meet
       exact ⟨w5.heap.size + 1, w5.heap.size, A, c, D, d, P, cp, T, ct, L, cl, rfl, rfl, rfl, HF.out.tj, HF.out.i2⟩
    case rest =>
     obtain ⟨b5, b6, A2, c2, D2, d2, P2, p2, T2, t2, L2, l2, rfl, rfl, rfl, hj, hB9⟩ := hcut
     obtain ⟨X, rfl⟩ : ∃ X, X = wc := ⟨_, rfl⟩
     have HJ := Lib.hid hj
     have HBX : Hid (Below W.heap.size W X) := HB5.out.trans (hB9.mono HB5.out.size)
     have HXX := Lib.hid (HX5.out.below hB9 HX5.out.lt)
     clear hj hB9 q0 q1 q2 q3 q4 q5 q6 hqi hqb
     have k9 := HXX.out
     have x0 := k9.cell 0 (v := .slice EA 2 ce) rfl
     have x1 := k9.cell 1 (v := .slice WA 0 cw) rfl
     have x2 := k9.cell 2 (v := .slice TA zs.length ct) rfl
     have xl := k9.lt
     clear k9
     obtain ⟨q', qb, qo, hq', hqb, hqi, q0, q1, q2, q3, q4, q5, q6⟩ := ez_at (c := ce) (k := j) (HLW.out.ends.below HBX.out (Nat.le_refl _)) (by have := HE2.out; have := HJ2.out; omega)
     rw [HE2.out] at hqi
     have hqq : q'.v = q.v := by rw [HQV.out]; exact HEI.out j q' hq' HJ2.out
     rw [hqq] at q0 q1 q2 q3 q4 q5 q6
     have hwk := HWK.out
     clear hq' hqq
     go_upto_region 12 with fail
     obtain ⟨Z, hZ⟩ : ∃ Z, X.alloc (.cells #[.int .i64 q.v.life, .int .i64 q.v.peer, .int .i64 q.v.phase, .int .i64 q.v.base, .slice q'.A q.v.out.length q'.c, .int .i64 q.v.want, .slice q'.D q.v.inn.length q'.d] 38) = Z := ⟨_, rfl⟩
     have HBZ0 : Hid (Below X.heap.size X Z) := by rw [← hZ]; exact (Below.refl _ _).alloc (Nat.le_refl _) _
     have HQZ : Hid (Blk Z X.heap.size (.cells #[.int .i64 q.v.life, .int .i64 q.v.peer, .int .i64 q.v.phase, .int .i64 q.v.base, .slice q'.A q.v.out.length q'.c, .int .i64 q.v.want, .slice q'.D q.v.inn.length q'.d] 38)) := by rw [← hZ]; exact Blk.new _ _
     have HJZ := Lib.hid (HJ.out.below HBZ0.out)
     rw [hZ]
     clear hZ x0 x1 x2 xl q0 q1 q2 q3 q4 q5 q6 hqi hqb hwk
     have k9 := HJZ.out.k5
     have s1 := k9.cell 1 (v := .int .i64 q.v.peer) rfl
     have s2 := k9.cell 2 (v := .int .i64 q.v.phase) rfl
     have s3 := k9.cell 3 (v := .int .i64 q.v.base) rfl
     have s4 := k9.cell 4 (v := .slice A2 q.v.out.length c2) rfl
     have s5 := k9.cell 5 (v := .int .i64 q.v.want) rfl
     have s6 := k9.cell 6 (v := .slice D2 q.v.inn.length d2) rfl
     have sl := k9.lt
     rw [HQO.out.1] at s4
     rw [HQO.out.2] at s6
     clear k9
     have k9 := HJZ.out.k6
     have g0 := k9.cell 0 (v := .slice P2 0 p2) rfl
     have g1 := k9.cell 1 (v := .slice T2 0 t2) rfl
     have g2 := k9.cell 2 (v := .slice L2 0 l2) rfl
     have gl := k9.lt
     clear k9
     have k9 := HQZ.out
     have r1 := k9.cell 1 (v := .int .i64 q.v.peer) rfl
     have r2 := k9.cell 2 (v := .int .i64 q.v.phase) rfl
     have r3 := k9.cell 3 (v := .int .i64 q.v.base) rfl
     have r5 := k9.cell 5 (v := .int .i64 q.v.want) rfl
     have rl := k9.lt
     clear k9
     have hw0 : IntKind.i64.wrap 0 = 0 := rfl
     go_wp2_with fail
     go_roundg (2 - (k + 1))
     case measure => have := HK.out; omega
     case rel => exact ⟨k + 1, by omega, rfl, HBX.out.trans (HBZ0.out.mono HBX.out.size)⟩
   ·clear HXR HXW HLW HEV HE2 HEI HK HBR
    obtain ⟨w0, rfl⟩ : ∃ w0, w0 = wr := ⟨_, rfl⟩
    go_wp2_with fail
    refine (acts_any A c N l w0 (HC.out.below HBR0.out (Nat.le_refl _)) HNN.out hc HA.out (HP.out.below HBR0.out)).mono ?_
    rintro r w1 ⟨D, d, rfl, ho, hB1⟩
    have HCD : Hid (Cells w1 D (dds (actsD l))) := (Cells.of_own ho (by rw [dds_len]; have := HLD.out; omega)).1
    have HB1 : Hid (Below w.heap.size w w1) := HBR0.out.trans (hB1.mono HBR0.out.size)
    clear ho hB1
    go_wp2_with fail
    refine (play_any D d (actsD l) w1 HCD.out).mono ?_
    rintro r w2 ⟨EB, de, WB, dw, TB, dt, fs, ys, rfl, hln, hB2, hct⟩
    have hp2 := acts_played HA.out
    have HSF := Lib.hid (played_saf hp2)
    rw [played_show hp2] at hln ⊢
    obtain ⟨P, HPP⟩ : ∃ P, Hid ((playedA (actsD l)).1 = P) := ⟨_, rfl⟩
    rw [HPP.out] at hln HSF ⊢
    have HLN := Lib.hid hln
    have HB2 : Hid (Below w.heap.size w w2) := HB1.out.trans (hB2.mono HB1.out.size)
    have HEV : Hid (fs.map Ez.v = [P.e0, P.e1]) := hln.ev
    have HE2 : Hid (fs.length = 2) := by have h9 := congrArg List.length HEV.out; rw [List.length_map] at h9; exact h9
    have HEI : Hid (∀ (i : Nat) y, fs[i]? = some y → goodB y.v = true) := fun i y hy => by
     have h9 : y.v ∈ fs.map Ez.v := List.mem_map_of_mem (List.mem_of_getElem? hy)
     rw [HEV.out] at h9
     simp only [List.mem_cons, List.not_mem_nil, or_false] at h9
     rcases h9 with h9 | h9
     ·rw [h9]; exact HSF.out.ok.g0
     ·rw [h9]; exact HSF.out.ok.g1
    clear hln hct hB2 hp2
    unfold lnV showA
    simp only [List.length_cons, List.length_nil, Nat.zero_add, Nat.reduceAdd]
    obtain ⟨nw, hnw⟩ : ∃ nw, P.wire.length = nw := ⟨_, rfl⟩
    obtain ⟨nt, hnt⟩ : ∃ nt, P.tales.length = nt := ⟨_, rfl⟩
    rw [hnw, hnt]
    clear hnw hnt
    go_upto_region 16 with fail
    obtain ⟨V, hV⟩ : ∃ V, w2.alloc (.cells #[.slice EB 2 de, .slice WB nw dw, .slice TB nt dt] 28) = V := ⟨_, rfl⟩
    have HBV : Hid (Below w.heap.size w V) := by rw [← hV]; exact HB2.out.alloc HB2.out.size _
    have HXV : Hid (Blk V w2.heap.size (.cells #[.slice EB 2 de, .slice WB nw dw, .slice TB nt dt] 28)) := by rw [← hV]; exact Blk.new _ _
    have HLV : Hid (LnAt V w1.heap.size (showA P) EB WB TB fs ys) := by rw [← hV]; exact HLN.out.below ((Below.refl _ _).alloc (Nat.le_refl _) _)
    rw [hV]
    clear hV hlt
    have k9 := HXV.out
    have x0 := k9.cell 0 (v := .slice EB 2 de) rfl
    have xl := k9.lt
    clear k9
    go_wp2_with fail
    clear x0 xl
    go_loopg [149] 2 (fun g iv wr => ∃ k : Nat, k + g = 2 ∧ iv = .int .i64 (k : Int) ∧ Below V.heap.size V wr)
    case atStart => exact ⟨0, Nat.zero_add _, rfl, Below.refl _ _⟩
    case round =>
     obtain ⟨k, hk, rfl, hB⟩ := hrel
     have HK := Lib.hid hk
     have HBR := Lib.hid hB
     have HBRW : Hid (Below w.heap.size w wr) := HBV.out.trans (hB.mono HBV.out.size)
     clear hk hB
     by_cases hlt : (k : Int) < 2
     ·have hw1 : IntKind.i64.wrap ((k : Int) + 1) = (k : Int) + 1 := wrap_ok ⟨by omega, by omega⟩
      obtain ⟨y, yb, yo, hy, hyb, hyi, y0, y1, y2, y3, y4, y5, y6⟩ := ez_at (c := de) (k := k) (HLV.out.ends.below HBR.out (Nat.le_refl _)) (by have := HE2.out; omega)
      rw [HE2.out] at hyi
      have HYG := Lib.hid (HEI.out k y hy)
      have HYI : Hid (y ∈ fs) := List.mem_of_getElem? hy
      clear hy
      go_upto_region 21 with fail
      obtain ⟨Y, hY⟩ : ∃ Y, wr.alloc (.cells #[.int .i64 y.v.life, .int .i64 y.v.peer, .int .i64 y.v.phase, .int .i64 y.v.base, .slice y.A y.v.out.length y.c, .int .i64 y.v.want, .slice y.D y.v.inn.length y.d] 38) = Y := ⟨_, rfl⟩
      have HYY : Hid (Blk Y wr.heap.size (.cells #[.int .i64 y.v.life, .int .i64 y.v.peer, .int .i64 y.v.phase, .int .i64 y.v.base, .slice y.A y.v.out.length y.c, .int .i64 y.v.want, .slice y.D y.v.inn.length y.d] 38)) := by rw [← hY]; exact Blk.new _ _
      have HB0Y : Hid (Below wr.heap.size wr Y) := by rw [← hY]; exact (Below.refl _ _).alloc (Nat.le_refl _) _
      have HBY : Hid (Below V.heap.size V Y) := HBR.out.trans (HB0Y.out.mono HBR.out.size)
      rw [hY]
      clear hY y0 y1 y2 y3 y4 y5 y6 hyi hyb
      have HYE := Lib.hid ((HLV.out.en y HYI.out).frame (Frame.of_all (S := fun _ => False) HBY.out) (fun _ _ _ h => h) (fun _ _ _ h => h))
      have k9 := HYY.out
      have s0 := k9.cell 0 (v := .int .i64 y.v.life) rfl
      have s1 := k9.cell 1 (v := .int .i64 y.v.peer) rfl
      have s2 := k9.cell 2 (v := .int .i64 y.v.phase) rfl
      have s3 := k9.cell 3 (v := .int .i64 y.v.base) rfl
      have s4 := k9.cell 4 (v := .slice y.A y.v.out.length y.c) rfl
      have s5 := k9.cell 5 (v := .int .i64 y.v.want) rfl
      have s6 := k9.cell 6 (v := .slice y.D y.v.inn.length y.d) rfl
      have sl := k9.lt
      clear k9
      go_wp2_with fail
      refine (tick_any y.v y.A y.c y.D y.d Y HYE.out.at_ (fun h0 => ⟨by have h9 := HYE.out.nil h0; have h8 := HYE.out.cap; omega, HYE.out.nil h0⟩)).mono ?_
      rintro r w5 ⟨v, rfl, ho5, hB5⟩
      rw [(tick_ok HYG.out).1]
      have HTI := Lib.hid (fun q (hq : q ∈ (tickA y.v).1) => tick_index HYG.out hq)
      have HTL : Hid ((tickA y.v).1.length ≤ 5) := tick_packets y.v
      obtain ⟨ps, hps⟩ : ∃ ps, (tickA y.v).1 = ps := ⟨_, rfl⟩
      rw [hps] at ho5 HTI HTL
      obtain ⟨PA, pc, rfl, hpc⟩ := own_at ho5 (by rw [pks_len]; have := HTL.out; omega)
      have HPC := Lib.hid hpc
      have HY5 := Lib.hid (HYY.out.below hB5 HYY.out.lt)
      have HB5 : Hid (Below V.heap.size V w5) := HBY.out.trans (hB5.mono HBY.out.size)
      have HOU := Lib.hid (HYE.out.at_.out.below hB5 (Nat.le_refl _))
      have HGY := Lib.hid (good_iff.1 HYG.out)
      clear ho5 hpc hB5 hps s0 s1 s2 s3 s4 s5 s6 sl
      go_wp2_with fail
      go_loopg [162] ps.length (fun g iv wx => ∃ n : Nat, n + g = ps.length ∧ iv = .int .i64 (n : Int) ∧ Below w5.heap.size w5 wx)
      case atStart => exact ⟨0, Nat.zero_add _, rfl, Below.refl _ _⟩
      case round =>
       obtain ⟨n, hn, rfl, hB⟩ := hrel
       obtain ⟨wx, rfl⟩ : ∃ wx, wx = wr := ⟨_, rfl⟩
       have HN := Lib.hid hn
       have HBX := Lib.hid hB
       have HYX := Lib.hid (HY5.out.below hB HY5.out.lt)
       clear hn hB
       by_cases hln : (n : Int) < (ps.length : Int)
       ·obtain ⟨q, qb, qo, hq, hqb, hqi, q0, q1, q2, q3, q4, q5, q6⟩ := pk_at (c := pc) (k := n) (HPC.out.below HBX.out (Nat.le_refl _)) (by omega)
        have hw2 : IntKind.i64.wrap ((n : Int) + 1) = (n : Int) + 1 := wrap_ok ⟨by omega, by have := HTL.out; omega⟩
        have hti := HTI.out q (List.mem_of_getElem? hq)
        clear hq
        have k9 := HYX.out
        have s0 := k9.cell 0 (v := .int .i64 y.v.life) rfl
        have s1 := k9.cell 1 (v := .int .i64 y.v.peer) rfl
        have s2 := k9.cell 2 (v := .int .i64 y.v.phase) rfl
        have s3 := k9.cell 3 (v := .int .i64 y.v.base) rfl
        have s4 := k9.cell 4 (v := .slice y.A y.v.out.length y.c) rfl
        have s5 := k9.cell 5 (v := .int .i64 y.v.want) rfl
        have s6 := k9.cell 6 (v := .slice y.D y.v.inn.length y.d) rfl
        have sl := k9.lt
        clear k9
        by_cases hk2 : q.kind = 2
        ·have b1 : (q.kind == 2) = true := beq_iff_eq.2 hk2
         rcases hti with hti | ⟨j, x, hx, hxh, hqn⟩
         ·exact absurd hk2 hti
         have hjl : j < y.v.out.length := (List.getElem?_eq_some_iff.1 hx).1
         have hb0 := HGY.out.base
         have hrm := HGY.out.room
         unfold most at hrm
         have b2 : decide (q.num < y.v.base) = false := decide_eq_false (by omega)
         have hwn : IntKind.i64.wrap (q.num - y.v.base) = (j : Int) := by rw [show q.num - y.v.base = (j : Int) by omega]; exact wrap_ok ⟨by omega, by omega⟩
         have hjl2 : ¬ y.v.out.length ≤ j := by omega
         obtain ⟨x', xb, xo, hx', hxb, hxi, hx0, hx1⟩ := ou_at (c := y.c) (k := j) (HOU.out.below HBX.out (Nat.le_refl _)) hjl
         have hxx : x' = x := by rw [hx] at hx'; injection hx' with hx'; exact hx'.symm
         subst hxx
         rw [hxh] at hx1
         have hb2 : y.v.base ≤ q.num := by omega
         clear hk2 hx hx' hxh hqn hb0 hrm
         go_wp2_with fail
         go_roundg (ps.length - (n + 1))
         case measure => have := HN.out; omega
         case rel => exact ⟨n + 1, by omega, rfl, HBX.out.alloc HBX.out.size _⟩
        ·have b1 : (q.kind == 2) = false := beq_eq_false_iff_ne.2 hk2
         clear hk2 hti
         go_wp2_with fail
         go_roundg (ps.length - (n + 1))
         case measure => have := HN.out; omega
         case rel => exact ⟨n + 1, by omega, rfl, HBX.out.alloc HBX.out.size _⟩
       ·go_wp2_with fail
        go_roundg (2 - (k + 1))
        case measure => have := HK.out; omega
        case rel => exact ⟨k + 1, by omega, rfl, HB5.out.trans (HBX.out.mono HB5.out.size)⟩
     ·go_wp2_with fail
      refine (works_any wr).mono ?_
      rintro r w9 ⟨rfl, hB9⟩
      go_wp2
      go_ret
      exact ⟨rfl, HBRW.out.trans (hB9.mono HBRW.out.size)⟩
end Go.Proofs.YtejabnoidhlfaaaDoor

/- Arguments: what comes in reads as lists. -/
namespace Go.Proofs.YtejabnoidhlfaaaDoor
open Go.RowKit Go.ChangeShapes Go.WideShapes Go.ChangeAt

section
variable {H : Type} {enc : TypeId × Value → H} {P : Program} {w : World}

/-- Each slice, string and map in it is within reach. -/
def sz (P : Program) (t : TypeId) (d : DataW H) : Prop := ∀ n ∈ d.weights P t, n ≤ reachBytes

theorem weightsAll_mem {e : TypeId} : ∀ {ds : List (DataW H)} {d : DataW H} {n : Nat}, d ∈ ds → n ∈ d.weights P e → n ∈ DataW.weightsAll P e ds
 | [], _, _, h, _ => by cases h
 | d0 :: ds, d, n, h, hn => by
  simp only [DataW.weightsAll, List.mem_append]
  rcases List.mem_cons.1 h with rfl | h
  ·exact .inl hn
  ·exact .inr (weightsAll_mem h hn)
theorem sz_elem {t e : TypeId} {xs ys : List (DataW H)} {d : DataW H} (ht : P.underlying t = some (.slice e)) (h : sz P t (.slice xs ys)) (hd : d ∈ xs ∨ d ∈ ys) : sz P e d := by
 intro n hn
 refine h n ?_
 simp only [DataW.weights, ht]
 refine List.mem_cons_of_mem _ (List.mem_append.2 ?_)
 rcases hd with hd | hd
 ·exact .inl (weightsAll_mem hd hn)
 ·exact .inr (weightsAll_mem hd hn)
theorem sz_len {t e : TypeId} {xs ys : List (DataW H)} (ht : P.underlying t = some (.slice e)) (h : sz P t (.slice xs ys)) : (xs.length + ys.length) * P.bytesOf e ≤ reachBytes := by
 refine h _ ?_
 simp only [DataW.weights, ht]
 exact List.mem_cons_self ..

theorem list_of {α : Type} {p : Nat → α → Prop} : ∀ n : Nat, (∀ i, i < n → ∃ x, p i x) → ∃ xs : List α, xs.length = n ∧ ∀ i x, xs[i]? = some x → p i x
 | 0, _ => ⟨[], rfl, by simp⟩
 | n + 1, h => by
  obtain ⟨xs, hl, hx⟩ := list_of n fun i hi => h i (by omega)
  obtain ⟨y, hy⟩ := h n (by omega)
  refine ⟨xs ++ [y], by simp [hl], fun i x hi => ?_⟩
  rcases Nat.lt_or_ge i n with h1 | h1
  ·rw [List.getElem?_append_left (by omega)] at hi
   exact hx i x hi
  ·rw [List.getElem?_append_right (by omega), hl] at hi
   obtain rfl : i = n := by
    have := (List.getElem?_eq_some_iff.1 hi).1
    simp at this; omega
   simp at hi
   subst hi
   exact hy
theorem add_at (b off j : Nat) : (⟨b, off, none⟩ : Addr).add j = ⟨b, off + j, none⟩ := by
 unfold Addr.add
 by_cases h : j = 0
 ·simp [h]
 ·simp [h]
theorem cell_block {a : Addr} {v : Value} (h : w.cell? a = some v) : a.block < w.heap.size := by
 rcases Nat.lt_or_ge a.block w.heap.size with hlt | hge
 ·exact hlt
 ·exfalso
  have e : w.heap[a.block]? = none := Array.getElem?_eq_none hge
  unfold World.cell? at h
  rw [e] at h
  cases h

/-- A slice whose elements read as f says. -/
theorem open_elems {α : Type} {t e : TypeId} {k bytes : Nat} (f : α → List Value) (Q : α → Prop) (hf : ∀ x, (f x).length = k) (ht : P.underlying t = some (.slice e)) (hc : P.cellsOf e = k) (hb : P.bytesOf e = bytes) (hkb : k * 8 ≤ bytes) (hk : 0 < k)
  (rdE : ∀ fuel cs d p, DataW.trod enc P w 0 (fun _ => true) true fuel e cs = some (d, p) → sz P e d → ∃ x, cs = f x ∧ Q x)
  {fuel : Nat} {v : Value} {d : DataW H} {p : List MemPlace} (h : DataW.trod enc P w 0 (fun _ => true) true fuel t [v] = some (d, p)) (hs : sz P t d) :
  ∃ (A : Option Addr) (xs : List α) (c : Nat), v = .slice A xs.length c ∧ Cells w A (xs.flatMap f) ∧ (∀ x ∈ xs, Q x) ∧ (A = none → xs = [] ∧ c = 0) := by
 rcases Go.Deep.open_slice ht h with ⟨hcs, _⟩ | ⟨a, len, cap, m, n, D, Pl, hcs, _, hl, hm, hmm, hx, hE⟩
 ·injection hcs with hcs _
  exact ⟨none, [], 0, hcs, Cells.nil _ _, fun x hx => (by cases hx), fun _ => ⟨rfl, rfl⟩⟩
 ·injection hcs with hcs _
  obtain rfl : m = cap := by simpa using hmm
  injection hx with hd _
  subst hd
  have hlen := sz_len ht hs
  simp only [List.length_map, List.length_range] at hlen
  rw [hb, Nat.add_sub_cancel' hl] at hlen
  have hel : ∀ i, i < len → ∃ x, w.cells? 0 (a.add (i * k)) k = some (f x) ∧ Q x := by
   intro i hi
   obtain ⟨cs', h1, h2⟩ := hE i (by omega)
   rw [hc] at h1
   obtain ⟨x, rfl, hq⟩ := rdE _ _ _ _ h2 (sz_elem ht hs (.inl (List.mem_map.2 ⟨i, List.mem_range.2 hi, rfl⟩)))
   exact ⟨x, h1, hq⟩
  obtain ⟨xs, hxl, hxs⟩ := list_of len hel
  have hcellx : ∀ i x j u, xs[i]? = some x → (f x)[j]? = some u → w.cell? (a.add (i * k + j)) = some u := by
   intro i x j u hi hj
   obtain ⟨_, _, hcell⟩ := World.cells?_some (hxs i x hi).1
   have hjk : j < k := by rw [← hf x]; exact (List.getElem?_eq_some_iff.1 hj).1
   rw [← Go.Deep.add_add, hcell j hjk, hj]
  refine ⟨some a, xs, m, by rw [hxl]; exact hcs, ?_, fun x hx => ?_, fun h => (by cases h)⟩
  ·have hbound : (xs.flatMap f).length ≤ 17592186043904 := by
    rw [flat_len hf, hxl]
    have h1 : len * (k * 8) ≤ len * bytes := Nat.mul_le_mul_left _ hkb
    have h2 : len * bytes ≤ m * bytes := Nat.mul_le_mul_right _ hl
    have h3 : len * k * 8 = len * (k * 8) := Nat.mul_assoc _ _ _
    unfold reachBytes at hlen
    omega
   cases hxe : xs with
   | nil =>
    exact ⟨by simp, 0, 0, by omega, fun hn => absurd rfl hn, fun k v hv => by simp at hv⟩
   | cons x0 xr =>
    have h0 : xs[0]? = some x0 := by rw [hxe]; rfl
    obtain ⟨u, hu⟩ : ∃ u, (f x0)[0]? = some u := ⟨_, List.getElem?_eq_getElem (by rw [hf]; exact hk)⟩
    have hc0 := hcellx 0 x0 0 u h0 hu
    rw [Nat.zero_mul, Nat.zero_add] at hc0
    have ha0 : a.add 0 = a := by unfold Addr.add; simp
    rw [ha0] at hc0
    have hsp := World.cell?_spot hc0
    have hbk := cell_block hc0
    obtain ⟨b, off, spot⟩ := a
    simp only at hsp hbk
    subst hsp
    rw [← hxe]
    refine ⟨hbound, b, off, by omega, fun _ => ⟨rfl, hbk⟩, fun j v hv => ?_⟩
    have hjl : j < (xs.flatMap f).length := (List.getElem?_eq_some_iff.1 hv).1
    rw [flat_len hf] at hjl
    have hj : j = (j / k) * k + j % k := by rw [Nat.mul_comm]; exact (Nat.div_add_mod j k).symm
    have hjm : j % k < k := Nat.mod_lt _ hk
    rw [hj, flat_get hf xs (j / k) (j % k) hjm] at hv
    obtain ⟨x, hx1, hx2⟩ := Option.bind_eq_some_iff.1 hv
    have := hcellx _ _ _ _ hx1 hx2
    rw [← hj, add_at] at this
    exact this
  ·obtain ⟨i, hi, rfl⟩ := List.mem_iff_getElem.1 hx
   exact (hxs i _ (List.getElem?_eq_getElem hi)).2
end
end Go.Proofs.YtejabnoidhlfaaaDoor

/- The Door laws' arguments: deeds by numbers, of which the first 150 are read, and orders. -/
namespace Go.Proofs.YtejabnoidhlfaaaDoor
open Go.RowKit Go.ChangeShapes Go.WideShapes Go.ChangeAt

section
variable {H : Type} {enc : TypeId × Value → H} {P : Program} {w : World}
/-- A slice of which the first M elements read as f says. -/
theorem open_pre {α : Type} {t e : TypeId} {k M : Nat} (f : α → List Value) (Q : α → Prop) (hf : ∀ x, (f x).length = k) (ht : P.underlying t = some (.slice e)) (hc : P.cellsOf e = k) (hk : 0 < k) (hM : M * k ≤ 17592186043904)
  (rdE : ∀ fuel cs d p, DataW.trod enc P w 0 (fun _ => true) true fuel e cs = some (d, p) → ∃ x, cs = f x ∧ Q x)
  {fuel : Nat} {v : Value} {d : DataW H} {p : List MemPlace} (h : DataW.trod enc P w 0 (fun _ => true) true fuel t [v] = some (d, p)) :
  ∃ (A : Option Addr) (xs : List α) (n c : Nat), v = .slice A n c ∧ xs.length = min n M ∧ Cells w A (xs.flatMap f) ∧ (∀ x ∈ xs, Q x) ∧ n ≤ c := by
 rcases Go.Deep.open_slice ht h with ⟨hcs, _⟩ | ⟨a, len, cap, m, n, D, Pl, hcs, _, hl, hm, hmm, hx, hE⟩
 ·injection hcs with hcs _
  exact ⟨none, [], 0, 0, hcs, by simp, Cells.nil _ _, fun x hx => (by cases hx), Nat.le_refl _⟩
 ·injection hcs with hcs _
  obtain rfl : m = cap := by simpa using hmm
  have hel : ∀ i, i < min len M → ∃ x, w.cells? 0 (a.add (i * k)) k = some (f x) ∧ Q x := by
   intro i hi
   obtain ⟨cs', h1, h2⟩ := hE i (by omega)
   rw [hc] at h1
   obtain ⟨x, rfl, hq⟩ := rdE _ _ _ _ h2
   exact ⟨x, h1, hq⟩
  obtain ⟨xs, hxl, hxs⟩ := list_of (min len M) hel
  have hcellx : ∀ i x j u, xs[i]? = some x → (f x)[j]? = some u → w.cell? (a.add (i * k + j)) = some u := by
   intro i x j u hi hj
   obtain ⟨_, _, hcell⟩ := World.cells?_some (hxs i x hi).1
   have hjk : j < k := by rw [← hf x]; exact (List.getElem?_eq_some_iff.1 hj).1
   rw [← Go.Deep.add_add, hcell j hjk, hj]
  refine ⟨some a, xs, len, m, hcs, hxl, ?_, fun x hx => ?_, hl⟩
  ·have hbound : (xs.flatMap f).length ≤ 17592186043904 := by
    rw [flat_len hf, hxl]
    have h1 : min len M * k ≤ M * k := Nat.mul_le_mul_right _ (Nat.min_le_right _ _)
    omega
   cases hxe : xs with
   | nil =>
    exact ⟨by simp, 0, 0, by omega, fun hn => absurd rfl hn, fun k v hv => by simp at hv⟩
   | cons x0 xr =>
    have h0 : xs[0]? = some x0 := by rw [hxe]; rfl
    obtain ⟨u, hu⟩ : ∃ u, (f x0)[0]? = some u := ⟨_, List.getElem?_eq_getElem (by rw [hf]; exact hk)⟩
    have hc0 := hcellx 0 x0 0 u h0 hu
    rw [Nat.zero_mul, Nat.zero_add] at hc0
    have ha0 : a.add 0 = a := by unfold Addr.add; simp
    rw [ha0] at hc0
    have hsp := World.cell?_spot hc0
    have hbk := cell_block hc0
    obtain ⟨b, off, spot⟩ := a
    simp only at hsp hbk
    subst hsp
    rw [← hxe]
    refine ⟨hbound, b, off, by omega, fun _ => ⟨rfl, hbk⟩, fun j v hv => ?_⟩
    have hjl : j < (xs.flatMap f).length := (List.getElem?_eq_some_iff.1 hv).1
    rw [flat_len hf] at hjl
    have hj : j = (j / k) * k + j % k := by rw [Nat.mul_comm]; exact (Nat.div_add_mod j k).symm
    have hjm : j % k < k := Nat.mod_lt _ hk
    rw [hj, flat_get hf xs (j / k) (j % k) hjm] at hv
    obtain ⟨x, hx1, hx2⟩ := Option.bind_eq_some_iff.1 hv
    have := hcellx _ _ _ _ hx1 hx2
    rw [← hj, add_at] at this
    exact this
  ·obtain ⟨i, hi, rfl⟩ := List.mem_iff_getElem.1 hx
   exact (hxs i _ (List.getElem?_eq_getElem hi)).2
end
section
variable {H : Type} {enc : TypeId × Value → H} {w : World}
theorem c5d : Tryd.prog.cellsOf 5 = 1 := by kernel_rfl
theorem c79d : Tryd.prog.cellsOf 79 = 2 := by kernel_rfl
theorem c3d : Tryd.prog.cellsOf 3 = 1 := by kernel_rfl
theorem rdU8 (fuel : Nat) (cs : List Value) (d : DataW H) (p : List MemPlace) (h : DataW.trod enc Tryd.prog w 0 (fun _ => true) true fuel 5 cs = some (d, p)) : ∃ x : Int, cs = [.int .u8 x] ∧ 0 ≤ x ∧ x ≤ 255 := by
 obtain ⟨n, hc, _, hw⟩ := DataW.trod_int Tryd.underlying5 h
 simp [Lit.wf] at hw
 have e1 : IntKind.u8.min = 0 := rfl
 have e2 : IntKind.u8.max = 255 := rfl
 exact ⟨n, hc, by omega, by omega⟩
theorem rdI3 (fuel : Nat) (cs : List Value) (d : DataW H) (p : List MemPlace) (h : DataW.trod enc Tryd.prog w 0 (fun _ => true) true fuel 3 cs = some (d, p)) : ∃ x : Int, cs = [.int .i64 x] ∧ True := by
 obtain ⟨n, hc, _, hw⟩ := DataW.trod_int Tryd.underlying3 h
 exact ⟨n, hc, trivial⟩
theorem two_cells {cs : List Value} (h : cs.length = 2) : ∃ a b, cs = [a, b] := by
 match cs, h with
 | [a, b], _ => exact ⟨a, b, rfl⟩
set_option maxRecDepth 100000 in
theorem rdAc (fuel : Nat) (cs : List Value) (d : DataW H) (p : List MemPlace) (h : DataW.trod enc Tryd.prog w 0 (fun _ => true) true fuel 79 cs = some (d, p)) : ∃ x : Ac, cs = acC x ∧ AcOk x := by
 obtain ⟨y0, y1, n, _, hl, h0, h1⟩ := trod_struct2 Tryd.underlying79 h
 rw [c79d] at hl
 obtain ⟨a, b, rfl⟩ := two_cells hl
 simp only [c5d, List.drop_zero, List.take_succ_cons, List.take_zero, List.drop_succ_cons] at h0 h1
 obtain ⟨x, hx, x1, x2⟩ := rdU8 _ _ _ _ h0
 obtain ⟨y, hy, y1, y2⟩ := rdU8 _ _ _ _ h1
 injection hx with hx _
 injection hy with hy _
 subst hx hy
 exact ⟨⟨x, y⟩, rfl, x1, x2, y1, y2⟩
variable {r : Reach} {b0 : Nat}
set_option maxRecDepth 100000 in
theorem arg_acts {v : Value} {d : DataW H} {p : List MemPlace} (hv : Value.okWide Tryd.prog w r b0 22 v) (h : DataW.Trod enc Tryd.prog w 0 (fun _ => true) true 22 v d p) :
  ∃ (A : Option Addr) (xs : List Ac) (n c : Nat), v = .slice A n c ∧ xs.length = min n 150 ∧ Cells w A (acs xs) ∧ (∀ x ∈ xs, AcOk x) ∧ n ≤ c := by
 obtain ⟨a0, len, cap, rfl⟩ := okWide_slice Tryd.underlying22 hv
 obtain ⟨fuel, hf⟩ := h
 exact open_pre (M := 150) acC AcOk (fun _ => rfl) Tryd.underlying22 c79d (by decide) (by omega) (fun _ _ _ _ h => rdAc _ _ _ _ h) hf
theorem ints_flat : ∀ xs : List Int, ints xs = xs.flatMap fun x : Int => [Value.int .i64 x]
 | [] => rfl
 | x :: xs => by rw [List.flatMap_cons, ← ints_flat xs]; rfl
set_option maxRecDepth 100000 in
theorem arg_ints {v : Value} {d : DataW H} {p : List MemPlace} (hv : Value.okWide Tryd.prog w r b0 23 v) (h : DataW.Trod enc Tryd.prog w 0 (fun _ => true) true 23 v d p) :
  ∃ (A : Option Addr) (xs : List Int) (n c : Nat), v = .slice A n c ∧ xs.length = min n 200 ∧ Cells w A (ints xs) ∧ n ≤ c := by
 obtain ⟨a0, len, cap, rfl⟩ := okWide_slice Tryd.underlying23 hv
 obtain ⟨fuel, hf⟩ := h
 obtain ⟨A, xs, n, c, h1, h2, h3, _, h5⟩ := open_pre (k := 1) (M := 200) (fun x : Int => [Value.int .i64 x]) (fun _ => True) (fun _ => rfl) Tryd.underlying23 c3d (by decide) (by omega) (fun _ _ _ _ h => rdI3 _ _ _ _ h) hf
 refine ⟨A, xs, n, c, h1, h2, ?_, h5⟩
 rw [ints_flat]; exact h3
end
/-- The card's condition gives the table. -/
theorem pow_of {w : World} (h : laidMetH Tryd.prog Rows.sessOrderRow.laid w) : Pow w := by
 rw [MakeChecks.laidMetH_plain _ _ _ (by kernel_rfl)] at h
 exact Lib.tabIs_of_head (g := 0) (t := 133) (e := 75) (n := 20) (by kernel_rfl) (by kernel_rfl) (by kernel_rfl) (by kernel_rfl) (by kernel_rfl) (by kernel_rfl) h.tail.tail
end Go.Proofs.YtejabnoidhlfaaaDoor

/- SessStill returns true at every list of deeds by numbers and every list of integers, and leaves its arguments as they were. No condition but the card's own. -/
namespace Go.Proofs.YtejabnoidhlfaaaDoor
open Go.ChangeShapes Go.WideShapes Go.ChangeAt Go.RowKit

theorem own_still : ownKnob Tryd.prog.godebug = none := by kernel_rfl
theorem laid_still : laidOutB Tryd.prog = true := by kernel_rfl
/-- The heap that the initialisers leave meets the condition. -/
theorem met_still (os : Os) (args : Array Value) : laidMetH Tryd.prog Rows.sessStillRow.laid ((World.doorLaid Tryd.prog 400 os).forCall (fun _ _ => 0) ⟨#[], args, []⟩).memory :=
 laidMetH_of_parts3 (fuel := 8) (laidMet_of_run' 8 (by kernel_rfl) (by kernel_rfl)) (by kernel_rfl) (by kernel_rfl)

set_option maxRecDepth 100000 in
theorem lifted_still (os : Os) (started : os.Started) (H : Type) (enc : TypeId × Value → H) :
  ReturnsInHanded {} Tryd.checked os 3 .any (fun w args => (Rows.sessStillSpec.pre enc Tryd.prog Tryd.f3 [] false w args ∧ laidMetH Tryd.prog Rows.sessStillRow.laid w) ∧ sizedMet enc Tryd.prog Tryd.f3 (OpenSpec.ofChange Rows.sessStillSpec) false w args)
   (Rows.sessStillSpec.post enc Tryd.prog Tryd.f3 false true false false) := by
 refine returnsInHanded_of_change_and (C := Tryd.checked) (X := fun w _ => laidMetH Tryd.prog Rows.sessStillRow.laid w) (fun _ _ _ hh h => h.of_heap hh) own_still started (by kernel_rfl) Tryd.func3
  (ChangeSpec.witness_shaped (enc := enc) (C := Tryd.checked) (os := os) (X := fun w _ => laidMetH Tryd.prog Rows.sessStillRow.laid w) false (World.doorLaid Tryd.prog 400 os) #[.slice none 0 0, .slice none 0 0] 8 rfl (World.shaped_of_RefB (by kernel_rfl) (by kernel_rfl)) (by kernel_rfl) (by kernel_rfl) (by kernel_rfl) (met_still os _)) ?_
 intro W base args ds gs before hval0 hW _ _ hL _
 have hval : ∀ (j : Nat) t v, Tryd.f3.params[j]? = some t → args[j]? = some v → Value.okWide Tryd.prog W .any base t v := hval0
 have hW' := hW
 obtain ⟨p, q, hA0, hV, rfl, hfz, hnd⟩ := hW
 have hA : DataW.TrodAll enc Tryd.prog W 0 (fun _ => true) true Tryd.f3.params.toList args.toList ds p := hA0
 rw [Tryd.params3] at hA hval
 obtain ⟨v0, vs0, d0, ds0, p0, q0, hargs, rfl, rfl, h0, r0⟩ := trodAll_cons hA
 obtain ⟨v1, vs1, d1, ds1, p1, q1, rfl, rfl, rfl, h1, r1⟩ := trodAll_cons r0
 obtain ⟨rfl, rfl, rfl⟩ := trodAll_nil r1
 obtain rfl : args = #[v0, v1] := by cases args; simp_all
 obtain ⟨rfl, rfl⟩ := trodVars_none hV
 have k0 := h0
 have lt0 : ∀ x ∈ p0, x.block < W.heap.size := by obtain ⟨m, hm⟩ := k0; exact DataW.trod_lt m _ _ _ hm
 have k1 := h1
 have lt1 : ∀ x ∈ p1, x.block < W.heap.size := by obtain ⟨m, hm⟩ := k1; exact DataW.trod_lt m _ _ _ hm
 obtain ⟨A0, l0, n0, c0, rfl, hl0, hC0, ha0, hc0⟩ := arg_acts (hval 0 22 v0 rfl rfl) h0
 obtain ⟨A1, l1, n1, c1, rfl, hl1, hC1, hc1⟩ := arg_ints (hval 1 23 v1 rfl rfl) h1
 have hpow : Pow W := pow_of hL
 clear hA0 hval0
 refine (walk_still A0 c0 n0 l0 A1 c1 n1 l1 W hC0 hl0 hc0 ha0 hC1 hl1 hc1 hpow).mono fun e W' ⟨he, bel⟩ => ?_
 subst he
 exact ⟨_, rfl, _, _, _, [], _, [], hW', trodAll_mk1 (shut_bool Tryd.underlying4 _), (trodAll_cons_mk (Below.trod laid_still (by kernel_rfl) (of_decide_eq_true (by kernel_rfl)) k0 bel lt0) (trodAll_cons_mk (Below.trod laid_still (by kernel_rfl) (of_decide_eq_true (by kernel_rfl)) k1 bel lt1) trodAll_mk0)), rfl, bel.frame _, fun h => by cases h⟩

theorem still_said : Rows.SessStillSaid :=
 OpenClaim.holds_of_wide 3 Tryd.f3 rfl rfl rfl rfl rfl rfl rfl ⟨rfl, rfl, rfl, rfl, rfl⟩ rfl rfl rfl rfl rfl (by kernel_rfl) Tryd.func3 (by kernel_rfl)
  (of_decide_eq_true (by kernel_rfl)) (by unfold Func.isWrapper; first | (rw [if_pos (by decide +kernel)]; kernel_rfl) | (rw [if_neg (by decide +kernel)]; exact ⟨rfl, rfl⟩))
  (fun os started H enc _ => lifted_still os started H enc)
theorem still_holds : Rows.SessStillCardSaid :=
 Claim7.holds_tied_plain_at .later [] [.data, .data, .data] true Rows.sessStillCard.stood.harness false
  still_said (fun _ h => by cases h) (by kernel_rfl) (fun _ h => by cases h) sessStill_row_tie rfl ⟨rfl, rfl⟩ (by kernel_rfl) rfl
  (fun f fn hf hfn => by
   obtain rfl : f = 3 := Option.some.inj ((show Tryd.prog.funcNamed Rows.sessStillRow.func = some 3 by kernel_rfl).symm.trans hf) |>.symm
   obtain rfl : fn = Tryd.f3 := (Option.some.inj (Tryd.func3.symm.trans hfn)).symm
   exact ⟨by kernel_rfl, fun j t ht => by
    rw [Tryd.params3] at ht
    have h3 : t = 22 ∨ t = 23 := by
     rcases j with _ | j
     ·left; simpa using ht.symm
     ·rcases j with _ | j; right; simpa using ht.symm; simp at ht
    rcases h3 with rfl | rfl
    ·exact (show Tryd.prog.wantsStandIn 22 = false by kernel_rfl)
    ·exact (show Tryd.prog.wantsStandIn 23 = false by kernel_rfl)⟩)
  (by kernel_rfl)
#print axioms still_holds
end Go.Proofs.YtejabnoidhlfaaaDoor
