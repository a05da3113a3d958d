/- SessAll returns true at every list of deeds by numbers, and leaves its argument as it was. No condition but the card's own. -/
import Derived.Test.YtejabnoidhlfaaaDoorS49
import Derived.Test.YtejabnoidhlfaaaDoorS41
import Derived.Test.YtejabnoidhlfaaaDoorS50
import Derived.Test.YtejabnoidhlfaaaDoorS1
import Derived.Deep.Slices
import Derived.SizedLaws
import Derived.Lib.SmallJoins
import Derived.ProofKit
import Derived.OpenShut
import Derived.ShutString
import Derived.ChangeOld
import Derived.Below
import Derived.Test.YtejabnoidhlfaaaDoorS47
import Derived.Stop.LaidErr
import Derived.Lib.LaidTab
import Derived.LaidMore
import Derived.Test.YtejabnoidhlfaaaDoorCards
import Derived.Test.YtejabnoidhlfaaaDoorTie
import Derived.ChangeMaps5
import Derived.Stop.Joined
import Derived.SevenTiedAt

/- SessOrder: the walk. -/
namespace Go.Proofs.YtejabnoidhlfaaaDoor
open Go.RowKit Go.Maps

theorem played_show {ds : List Dd} (h : (playedA ds).2 = 0) : playA ds = (showA (playedA ds).1, 0) := by unfold playA; rw [if_pos h]
/-- What an end took in a session, beside what the other one sent in it. -/
theorem Saf.order {l : Lp} (h : Saf l) {t : Ta} (ht : t ∈ l.tales) : (∀ u, tale l.tales (1 - t.end_) t.peer t.life = some u → t.taken <+: u.sent) ∧ (tale l.tales (1 - t.end_) t.peer t.life = none → t.taken = []) := by
 have h1 := h.pre t.end_ (h.ends t ht) t.life t.peer
 rw [takenOf_some (tale_of_mem h.ord ht)] at h1
 refine ⟨fun u hu => ?_, fun hu => ?_⟩
 ·rw [sentOf_some hu] at h1; exact h1
 ·rw [sentOf_none hu] at h1
  exact List.prefix_nil.1 h1
set_option maxRecDepth 100000 in
set_option maxHeartbeats 8000000 in
theorem walk_order (A : Option Addr) (c N : Nat) (l : List Ac) (w : World) (h : Cells w A (acs l)) (hN : l.length = min N 150) (hc : N ≤ c) (ha : ∀ a ∈ l, AcOk a) (hP : Pow w) :
  Calls Tryd.prog 5 #[.slice A N c] w fun r w' => r = .returned (.bool true) ∧ Below w.heap.size w w' := by
 have HC := Lib.hid h
 have HA := Lib.hid ha
 have HP := Lib.hid hP
 have HNN := Lib.hid hN
 clear h ha hP hN
 go_enter Tryd.func5, Tryd.ntmps5
 go_wp2_with fail
 refine (acts_any A c N l w HC.out HNN.out hc HA.out HP.out).mono ?_
 rintro r w1 ⟨D, d, rfl, ho, hB1⟩
 have HLD : Hid ((actsD l).length ≤ 150) := (actsD_ok HA.out).1
 have HCD : Hid (Cells w1 D (dds (actsD l))) := (Cells.of_own ho (by rw [dds_len]; have := HLD.out; omega)).1
 have HB1 := Lib.hid hB1
 clear ho hB1
 go_wp2_with fail
 refine (play_any D d (actsD l) w1 HCD.out).mono ?_
 rintro r w2 ⟨EA, ce, WA, cw, TA, ct, es, zs, rfl, hln, hB2, hct⟩
 have hp2 := acts_played HA.out
 have HSF := Lib.hid (played_saf hp2)
 rw [played_show hp2] at hln hct ⊢
 obtain ⟨P, HPP⟩ : ∃ P, Hid ((playedA (actsD l)).1 = P) := ⟨_, rfl⟩
 rw [HPP.out] at hln hct HSF ⊢
 have HTV : Hid (zs.map Tz.v = P.tales) := hln.tv
 have HZL : Hid (P.tales.length = zs.length) := by show _ = _; rw [← HTV.out, List.length_map]
 have HCT : Hid (zs.length ≤ ct) := by show _ ≤ _; rw [← HZL.out]; exact hct
 have HLN := Lib.hid hln
 have HB2 : Hid (Below w.heap.size w w2) := HB1.out.trans (hB2.mono HB1.out.size)
 have HZM : Hid (∀ z ∈ zs, z.v ∈ P.tales) := fun z hz => by rw [← HTV.out]; exact List.mem_map_of_mem hz
 clear hln hct hB2 hp2
 unfold lnV showA
 rw [HZL.out]
 simp only [List.length_cons, List.length_nil, Nat.zero_add, Nat.reduceAdd]
 obtain ⟨nw, hnw⟩ : ∃ nw, P.wire.length = nw := ⟨_, rfl⟩
 rw [hnw]
 clear hnw
 go_upto_region 2 with fail
 obtain ⟨W, hW⟩ : ∃ W, w2.alloc (.cells #[.slice EA 2 ce, .slice WA nw cw, .slice TA zs.length ct] 28) = W := ⟨_, rfl⟩
 have HBW : Hid (Below w.heap.size w W) := by rw [← hW]; exact HB2.out.alloc HB2.out.size _
 have HXW : Hid (Blk W w2.heap.size (.cells #[.slice EA 2 ce, .slice WA nw cw, .slice TA zs.length ct] 28)) := by rw [← hW]; exact Blk.new _ _
 have HLW : Hid (LnAt W w1.heap.size (showA P) EA WA TA es zs) := by rw [← hW]; exact HLN.out.below ((Below.refl _ _).alloc (Nat.le_refl _) _)
 rw [hW]
 clear hW
 have k9 := HXW.out
 have x0 := k9.cell 0 (v := .slice EA 2 ce) rfl
 have x1 := k9.cell 1 (v := .slice WA nw cw) rfl
 have x2 := k9.cell 2 (v := .slice TA zs.length ct) rfl
 have xl := k9.lt
 clear k9
 go_wp2_with fail
 clear x0 x1 x2 xl
 go_loopg [22] zs.length (fun g iv wr => ∃ k : Nat, k + g = zs.length ∧ iv = .int .i64 (k : Int) ∧ Below W.heap.size W wr)
 case atStart => exact ⟨0, Nat.zero_add _, rfl, Below.refl _ _⟩
 case round =>
  obtain ⟨k, hk, rfl, hB⟩ := hrel
  have HK := Lib.hid hk
  have HBR := Lib.hid hB
  have HBR0 : Hid (Below w.heap.size w wr) := HBW.out.trans (hB.mono HBW.out.size)
  clear hk hB
  by_cases hlt : (k : Int) < (zs.length : Int)
  ·obtain ⟨z, b, o, hz, hb, hix, c0, c1, c2, c3, c4, c5⟩ := tza (c := ct) (k := k) (HLW.out.tales.below HBR.out (Nat.le_refl _)) (by omega)
   have HZ := Lib.hid hz
   have HZE := Lib.hid (HSF.out.ends _ (HZM.out z (List.mem_of_getElem? hz)))
   have HZO := Lib.hid (HSF.out.order (HZM.out z (List.mem_of_getElem? hz)))
   have HZL2 : Hid (zs.length ≤ 1000000000) := by have h9 := HLW.out.tales.1; rw [tzs_len] at h9; have := (played_k (acts_played HA.out)).2.1.bulk.tales; rw [HPP.out, HZL.out] at this; show _ ≤ _; omega
   have hw1 : IntKind.i64.wrap ((k : Int) + 1) = (k : Int) + 1 := wrap_ok ⟨by omega, by have := HZL2.out; omega⟩
   clear hz
   go_upto_region 7 with fail
   obtain ⟨V, hV⟩ : ∃ V, wr.alloc (.cells #[.int .i64 z.v.end_, .int .i64 z.v.life, .int .i64 z.v.peer, .slice z.S z.v.sent.length z.cs, .slice z.L z.v.lost.length z.cl, .slice z.K z.v.taken.length z.ck] 57) = V := ⟨_, rfl⟩
   have HBV : Hid (Below W.heap.size W V) := by rw [← hV]; exact HBR.out.alloc HBR.out.size _
   have HTV2 : Hid (Blk V wr.heap.size (.cells (tzB z) 57)) := by rw [← hV]; exact Blk.new _ _
   have HXV := Lib.hid (HXW.out.below HBV.out HXW.out.lt)
   have HSZ : Hid (W.heap.size ≤ wr.heap.size) := HBR.out.size
   rw [hV]
   clear hV c0 c1 c2 c3 c4 c5 hix hb
   have k9 := HXV.out
   have x0 := k9.cell 0 (v := .slice EA 2 ce) rfl
   have x1 := k9.cell 1 (v := .slice WA nw cw) rfl
   have x2 := k9.cell 2 (v := .slice TA zs.length ct) rfl
   have xl := k9.lt
   clear k9
   have k9 := HTV2.out
   have t0 := k9.cell 0 (v := .int .i64 (z).v.end_) rfl
   have t1 := k9.cell 1 (v := .int .i64 (z).v.life) rfl
   have t2 := k9.cell 2 (v := .int .i64 (z).v.peer) rfl
   have t3 := k9.cell 3 (v := .slice (z).S (z).v.sent.length (z).cs) rfl
   have t4 := k9.cell 4 (v := .slice (z).L (z).v.lost.length (z).cl) rfl
   have t5 := k9.cell 5 (v := .slice (z).K (z).v.taken.length (z).ck) rfl
   have tl := k9.lt
   clear k9
   go_wp2_with fail
   refine (other_any (.slice EA 2 ce) (.slice WA nw cw) TA ct zs z V rfl rfl (HLW.out.tales.below HBV.out (Nat.le_refl _)) HZE.out).mono ?_
   rintro r w5 ⟨⟨u, is, rfl, hu⟩, hB5⟩
   have HU := Lib.hid hu
   have HB5 : Hid (Below W.heap.size W w5) := HBV.out.trans (hB5.mono HBV.out.size)
   have HT5 := Lib.hid (HTV2.out.below hB5 HTV2.out.lt)
   have HX5 := Lib.hid (HXV.out.below hB5 HXV.out.lt)
   have HSV : Hid (V.heap.size ≤ w5.heap.size) := hB5.size
   clear hu hB5 x0 x1 x2 xl t0 t1 t2 t3 t4 t5 tl
   unfold tzV
   go_upto_region 8 with fail
   obtain ⟨X, hX⟩ : ∃ X, w5.alloc (.cells #[.int .i64 u.v.end_, .int .i64 u.v.life, .int .i64 u.v.peer, .slice u.S u.v.sent.length u.cs, .slice u.L u.v.lost.length u.cl, .slice u.K u.v.taken.length u.ck] 57) = X := ⟨_, rfl⟩
   have HB5X : Hid (Below w5.heap.size w5 X) := by rw [← hX]; exact (Below.refl _ w5).alloc (Nat.le_refl _) _
   have HUX : Hid (Blk X w5.heap.size (.cells (tzB u) 57)) := by rw [← hX]; exact Blk.new _ _
   have HT6 := Lib.hid (HT5.out.below HB5X.out HT5.out.lt)
   have HLX := Lib.hid (HLW.out.below (HB5.out.trans (HB5X.out.mono HB5.out.size)))
   rw [hX]
   clear hX
   have k9 := HT6.out
   have t0 := k9.cell 0 (v := .int .i64 (z).v.end_) rfl
   have t1 := k9.cell 1 (v := .int .i64 (z).v.life) rfl
   have t2 := k9.cell 2 (v := .int .i64 (z).v.peer) rfl
   have t3 := k9.cell 3 (v := .slice (z).S (z).v.sent.length (z).cs) rfl
   have t4 := k9.cell 4 (v := .slice (z).L (z).v.lost.length (z).cl) rfl
   have t5 := k9.cell 5 (v := .slice (z).K (z).v.taken.length (z).ck) rfl
   have tl := k9.lt
   clear k9
   have k9 := HUX.out
   have s0 := k9.cell 0 (v := .int .i64 (u).v.end_) rfl
   have s1 := k9.cell 1 (v := .int .i64 (u).v.life) rfl
   have s2 := k9.cell 2 (v := .int .i64 (u).v.peer) rfl
   have s3 := k9.cell 3 (v := .slice (u).S (u).v.sent.length (u).cs) rfl
   have s4 := k9.cell 4 (v := .slice (u).L (u).v.lost.length (u).cl) rfl
   have s5 := k9.cell 5 (v := .slice (u).K (u).v.taken.length (u).ck) rfl
   have sl := k9.lt
   clear k9
   have hu2 := HU.out
   rw [HTV.out] at hu2
   clear HU
   rcases hu2 with ⟨rfl, hum, hut⟩ | ⟨rfl, rfl, hut⟩
   ·have HZI : Hid (z ∈ zs) := List.mem_of_getElem? HZ.out
    have HBG : Hid (begB z.v.taken u.v.sent = true) := begB_pre (HZO.out.1 u.v hut)
    have HUI : Hid (u ∈ zs) := hum
    clear hum hut
    go_wp2_with fail
    refine (begins_any z.K z.ck z.v.taken u.S u.cs u.v.sent X (HLX.out.txt z HZI.out).2.2 (HLX.out.txt u HUI.out).1 (HLX.out.cap u HUI.out).1).mono ?_
    rintro r w6 ⟨rfl, hB6⟩
    rw [HBG.out]
    have HB6 : Hid (Below w5.heap.size w5 w6) := HB5X.out.trans (hB6.mono HB5X.out.size)
    clear hB6 t0 t1 t2 t3 t4 t5 tl s0 s1 s2 s3 s4 s5 sl
    go_upto_region 10 with fail
    -- the tales ahead of this one are of elder sessions
    have HXX := Lib.hid (HX5.out.below HB6.out HX5.out.lt)
    have HTX := Lib.hid (HT5.out.below HB6.out HT5.out.lt)
    have HBX : Hid (Below W.heap.size W w6) := HB5.out.trans (Below.mono HB6.out HB5.out.size)
    have k9 := HXX.out
    have x0 := k9.cell 0 (v := .slice EA 2 ce) rfl
    have x1 := k9.cell 1 (v := .slice WA nw cw) rfl
    have x2 := k9.cell 2 (v := .slice TA zs.length ct) rfl
    have xl := k9.lt
    clear k9
    have hkc : k ≤ ct := by have := HCT.out; omega
    go_wp2_with fail
    clear x0 x1 x2 xl hkc
    go_loopg [57] k (fun g jv wx => ∃ j : Nat, j + g = k ∧ jv = .int .i64 (j : Int) ∧ Below (w6).heap.size w6 wx)
    case atStart => exact ⟨0, Nat.zero_add _, rfl, Below.refl _ _⟩
    case round =>
     obtain ⟨j, hj, rfl, hB⟩ := hrel
     obtain ⟨wx, rfl⟩ : ∃ wx, wx = wr := ⟨_, rfl⟩
     have HJ := Lib.hid hj
     have HBJ := Lib.hid hB
     have HTJ := Lib.hid (HTX.out.below hB HTX.out.lt)
     have HBJ2 : Hid (Below W.heap.size W wx) := HBX.out.trans (hB.mono HBX.out.size)
     clear hj hB
     by_cases hlj : (j : Int) < (k : Int)
     ·have htk : (zs.take k).length = k := by rw [List.length_take]; omega
      have hpre : tzs (zs.take k) <+: tzs zs := by
       have e1 : tzs zs = tzs (zs.take k) ++ tzs (zs.drop k) := by unfold tzs; rw [← List.flatMap_append, List.take_append_drop]
       rw [e1]
       exact List.prefix_append _ _
      obtain ⟨y, yb, yo, hy, hyb, hyi, e0, e1, e2, e3, e4, e5⟩ := tza (l := zs.take k) (c := ct) (k := j) (cells_pre (HLW.out.tales.below HBJ2.out (Nat.le_refl _)) hpre) (by omega)
      rw [htk] at hyi
      rw [List.getElem?_take, if_pos (by omega)] at hy
      have HY : Hid (y.v.end_ = z.v.end_ → y.v.life = z.v.life → y.v.peer < z.v.peer) := fun h1 h2 =>
       ord_lt HSF.out.ord (j := j) (k := k) (by rw [← HTV.out, List.getElem?_map, hy]; rfl) (by rw [← HTV.out, List.getElem?_map, HZ.out]; rfl) (by omega) h1 h2
      have hw2 : IntKind.i64.wrap ((j : Int) + 1) = (j : Int) + 1 := wrap_ok ⟨by omega, by have := HZL2.out; omega⟩
      clear hy htk hpre
      have k9 := HTJ.out
      have t0 := k9.cell 0 (v := .int .i64 (z).v.end_) rfl
      have t1 := k9.cell 1 (v := .int .i64 (z).v.life) rfl
      have t2 := k9.cell 2 (v := .int .i64 (z).v.peer) rfl
      have t3 := k9.cell 3 (v := .slice (z).S (z).v.sent.length (z).cs) rfl
      have t4 := k9.cell 4 (v := .slice (z).L (z).v.lost.length (z).cl) rfl
      have t5 := k9.cell 5 (v := .slice (z).K (z).v.taken.length (z).ck) rfl
      have tl := k9.lt
      clear k9
      by_cases k1 : y.v.end_ = z.v.end_
      ·have b1 : (y.v.end_ == z.v.end_) = true := beq_iff_eq.2 k1
       by_cases k2 : y.v.life = z.v.life
       ·have b2 : (y.v.life == z.v.life) = true := beq_iff_eq.2 k2
        have b3 : decide (z.v.peer ≤ y.v.peer) = false := decide_eq_false (by have := HY.out k1 k2; omega)
        clear k1 k2
        go_wp2_with fail
        go_roundg (k - (j + 1))
        case measure => have := HJ.out; omega
        case rel => exact ⟨j + 1, by omega, rfl, HBJ.out.alloc HBJ.out.size _⟩
       ·have b2 : (y.v.life == z.v.life) = false := beq_eq_false_iff_ne.2 k2
        clear k1 k2
        go_wp2_with fail
        go_roundg (k - (j + 1))
        case measure => have := HJ.out; omega
        case rel => exact ⟨j + 1, by omega, rfl, HBJ.out.alloc HBJ.out.size _⟩
      ·have b1 : (y.v.end_ == z.v.end_) = false := beq_eq_false_iff_ne.2 k1
       clear k1
       go_wp2_with fail
       go_roundg (k - (j + 1))
       case measure => have := HJ.out; omega
       case rel => exact ⟨j + 1, by omega, rfl, HBJ.out.alloc HBJ.out.size _⟩
     ·go_wp2_with fail
      go_roundg (zs.length - (k + 1))
      case measure => have := HK.out; omega
      case rel => exact ⟨k + 1, by omega, rfl, HBJ2.out⟩
   ·have hz0 : z.v.taken.length = 0 := by rw [HZO.out.2 hut]; rfl
    rw [hz0] at t5
    clear hz0 hut
    go_upto_region 10 with fail
    -- the tales ahead of this one are of elder sessions
    have HXX := Lib.hid (HX5.out.below HB5X.out HX5.out.lt)
    have HTX := Lib.hid (HT5.out.below HB5X.out HT5.out.lt)
    have HBX : Hid (Below W.heap.size W X) := HB5.out.trans (Below.mono HB5X.out HB5.out.size)
    have k9 := HXX.out
    have x0 := k9.cell 0 (v := .slice EA 2 ce) rfl
    have x1 := k9.cell 1 (v := .slice WA nw cw) rfl
    have x2 := k9.cell 2 (v := .slice TA zs.length ct) rfl
    have xl := k9.lt
    clear k9
    have hkc : k ≤ ct := by have := HCT.out; omega
    go_wp2_with fail
    clear x0 x1 x2 xl hkc
    go_loopg [57] k (fun g jv wx => ∃ j : Nat, j + g = k ∧ jv = .int .i64 (j : Int) ∧ Below (X).heap.size X wx)
    case atStart => exact ⟨0, Nat.zero_add _, rfl, Below.refl _ _⟩
    case round =>
     obtain ⟨j, hj, rfl, hB⟩ := hrel
     obtain ⟨wx, rfl⟩ : ∃ wx, wx = wr := ⟨_, rfl⟩
     have HJ := Lib.hid hj
     have HBJ := Lib.hid hB
     have HTJ := Lib.hid (HTX.out.below hB HTX.out.lt)
     have HBJ2 : Hid (Below W.heap.size W wx) := HBX.out.trans (hB.mono HBX.out.size)
     clear hj hB
     by_cases hlj : (j : Int) < (k : Int)
     ·have htk : (zs.take k).length = k := by rw [List.length_take]; omega
      have hpre : tzs (zs.take k) <+: tzs zs := by
       have e1 : tzs zs = tzs (zs.take k) ++ tzs (zs.drop k) := by unfold tzs; rw [← List.flatMap_append, List.take_append_drop]
       rw [e1]
       exact List.prefix_append _ _
      obtain ⟨y, yb, yo, hy, hyb, hyi, e0, e1, e2, e3, e4, e5⟩ := tza (l := zs.take k) (c := ct) (k := j) (cells_pre (HLW.out.tales.below HBJ2.out (Nat.le_refl _)) hpre) (by omega)
      rw [htk] at hyi
      rw [List.getElem?_take, if_pos (by omega)] at hy
      have HY : Hid (y.v.end_ = z.v.end_ → y.v.life = z.v.life → y.v.peer < z.v.peer) := fun h1 h2 =>
       ord_lt HSF.out.ord (j := j) (k := k) (by rw [← HTV.out, List.getElem?_map, hy]; rfl) (by rw [← HTV.out, List.getElem?_map, HZ.out]; rfl) (by omega) h1 h2
      have hw2 : IntKind.i64.wrap ((j : Int) + 1) = (j : Int) + 1 := wrap_ok ⟨by omega, by have := HZL2.out; omega⟩
      clear hy htk hpre
      have k9 := HTJ.out
      have t0 := k9.cell 0 (v := .int .i64 (z).v.end_) rfl
      have t1 := k9.cell 1 (v := .int .i64 (z).v.life) rfl
      have t2 := k9.cell 2 (v := .int .i64 (z).v.peer) rfl
      have t3 := k9.cell 3 (v := .slice (z).S (z).v.sent.length (z).cs) rfl
      have t4 := k9.cell 4 (v := .slice (z).L (z).v.lost.length (z).cl) rfl
      have t5 := k9.cell 5 (v := .slice (z).K (z).v.taken.length (z).ck) rfl
      have tl := k9.lt
      clear k9
      by_cases k1 : y.v.end_ = z.v.end_
      ·have b1 : (y.v.end_ == z.v.end_) = true := beq_iff_eq.2 k1
       by_cases k2 : y.v.life = z.v.life
       ·have b2 : (y.v.life == z.v.life) = true := beq_iff_eq.2 k2
        have b3 : decide (z.v.peer ≤ y.v.peer) = false := decide_eq_false (by have := HY.out k1 k2; omega)
        clear k1 k2
        go_wp2_with fail
        go_roundg (k - (j + 1))
        case measure => have := HJ.out; omega
        case rel => exact ⟨j + 1, by omega, rfl, HBJ.out.alloc HBJ.out.size _⟩
       ·have b2 : (y.v.life == z.v.life) = false := beq_eq_false_iff_ne.2 k2
        clear k1 k2
        go_wp2_with fail
        go_roundg (k - (j + 1))
        case measure => have := HJ.out; omega
        case rel => exact ⟨j + 1, by omega, rfl, HBJ.out.alloc HBJ.out.size _⟩
      ·have b1 : (y.v.end_ == z.v.end_) = false := beq_eq_false_iff_ne.2 k1
       clear k1
       go_wp2_with fail
       go_roundg (k - (j + 1))
       case measure => have := HJ.out; omega
       case rel => exact ⟨j + 1, by omega, rfl, HBJ.out.alloc HBJ.out.size _⟩
     ·go_wp2_with fail
      go_roundg (zs.length - (k + 1))
      case measure => have := HK.out; omega
      case rel => exact ⟨k + 1, by omega, rfl, HBJ2.out⟩
  ·go_wp2_with fail
   refine (works_any wr).mono ?_
   rintro r w9 ⟨rfl, hB9⟩
   go_wp2
   go_ret
   exact ⟨rfl, HBR0.out.trans (hB9.mono HBR0.out.size)⟩
end Go.Proofs.YtejabnoidhlfaaaDoor

/- SessTold: the walk. -/
namespace Go.Proofs.YtejabnoidhlfaaaDoor
open Go.RowKit Go.Maps

theorem eza {w : World} {A : Option Addr} {l : List Ez} {c k : Nat} (h : Cells w A (ezs l)) (hk : k < l.length) : ∃ z b o, l[k]? = some z ∧ b < w.heap.size ∧ (∀ w', (Instr.indexAt 24 (.slice A l.length c) (.int .i64 (k : Int))).run Tryd.prog w' = .ok (.pointer (some ⟨b, o, none⟩)) w') ∧
  w.cell? ⟨b, o, none⟩ = some (.int .i64 z.v.life) ∧ w.cell? ⟨b, o + 1, none⟩ = some (.int .i64 z.v.peer) ∧ w.cell? ⟨b, o + 2, none⟩ = some (.int .i64 z.v.phase) ∧ w.cell? ⟨b, o + 3, none⟩ = some (.int .i64 z.v.base) ∧
  w.cell? ⟨b, o + 4, none⟩ = some (.slice z.A z.v.out.length z.c) ∧ w.cell? ⟨b, o + 5, none⟩ = some (.int .i64 z.v.want) ∧ w.cell? ⟨b, o + 6, none⟩ = some (.slice z.D z.v.inn.length z.d) := by
 obtain ⟨x, b, o, hx, hb, hix, hc⟩ := flat_at (c := c) h ezC_len Tryd.underlying24 rEn.size_eq (by decide) hk
 exact ⟨x, b, o, hx, hb, hix, hc 0 _ rfl, hc 1 _ rfl, hc 2 _ rfl, hc 3 _ rfl, hc 4 _ rfl, hc 5 _ rfl, hc 6 _ rfl⟩
/-- Of the messages of a session of the present life, those that are neither lost nor in Out were taken. -/
theorem Saf.toldN {l : Lp} (h : Saf l) {t : Ta} (ht : t ∈ l.tales) (hl : t.life = (l.end_ t.end_).life) : ∃ m : Nat, (t.peer = (l.end_ t.end_).peer → (t.sent.length : Int) - t.lost.length - (flyN (l.end_ t.end_) : Int) = m) ∧ (t.peer ≠ (l.end_ t.end_).peer → (t.sent.length : Int) - t.lost.length = m) ∧ m ≤ t.sent.length ∧
  (∀ u, tale l.tales (1 - t.end_) t.peer t.life = some u → m ≤ u.taken.length ∧ t.sent.take m = u.taken.take m) ∧ (tale l.tales (1 - t.end_) t.peer t.life = none → m = 0) := by
 have hi := h.ends t ht
 have ht0 := tale_of_mem h.ord ht
 have hp := h.pre (1 - t.end_) (other_i hi) t.peer t.life
 rw [other_ne, sentOf_some ht0] at hp
 have key : ∀ m : Nat, m ≤ (takenOf l.tales (1 - t.end_) t.peer t.life).length → m ≤ t.sent.length ∧ (∀ u, tale l.tales (1 - t.end_) t.peer t.life = some u → m ≤ u.taken.length ∧ t.sent.take m = u.taken.take m) ∧ (tale l.tales (1 - t.end_) t.peer t.life = none → m = 0) := fun m hm => by
  have h1 := hp.length_le
  refine ⟨by omega, fun u hu => ?_, fun hu => ?_⟩
  ·rw [takenOf_some hu] at hm hp
   obtain ⟨r, hr⟩ := hp
   exact ⟨hm, by rw [← hr, List.take_append_of_le_length hm]⟩
  ·rw [takenOf_none hu] at hm
   simpa using hm
 by_cases hc : t.peer = (l.end_ t.end_).peer
 ·have hph : (l.end_ t.end_).phase = 3 := ((h.key t.end_ hi _ _ _ ht0).2.2.2 hl).2 hc
  have hcu := h.cur t.end_ hi hph
  obtain ⟨k, v, _, _, _, _, _, a6, a7⟩ := h.nowT hi hph
  rw [← hl, ← hc, ht0] at a7
  injection a7 with a7
  subst a7
  have hls := hcu.lost
  rw [← hl, ← hc, lostOf_some ht0] at hls
  have hb := hcu.base
  rw [← hl, ← hc] at hb
  have hb0 := (good_iff.1 (h.ok.good t.end_)).base
  refine ⟨(l.end_ t.end_).base.toNat, fun _ => by rw [hls, List.length_nil]; omega, fun hn => absurd hc hn, key _ (by omega)⟩
 ·have htl := h.told t.end_ hi t.peer t (by rw [← hl]; exact ht0) hc
  rw [← hl] at htl
  refine ⟨t.sent.length - t.lost.length, fun hn => absurd hn hc, fun _ => by omega, key _ (by omega)⟩
set_option maxRecDepth 100000 in
set_option maxHeartbeats 8000000 in
theorem walk_told (A : Option Addr) (c N : Nat) (l : List Ac) (w : World) (h : Cells w A (acs l)) (hN : l.length = min N 150) (hc : N ≤ c) (ha : ∀ a ∈ l, AcOk a) (hP : Pow w) :
  Calls Tryd.prog 7 #[.slice A N c] w fun r w' => r = .returned (.bool true) ∧ Below w.heap.size w w' := by
 have HC := Lib.hid h
 have HA := Lib.hid ha
 have HP := Lib.hid hP
 have HNN := Lib.hid hN
 clear h ha hP hN
 go_enter Tryd.func7, Tryd.ntmps7
 go_wp2_with fail
 refine (acts_any A c N l w HC.out HNN.out hc HA.out HP.out).mono ?_
 rintro r w1 ⟨D, d, rfl, ho, hB1⟩
 have HLD : Hid ((actsD l).length ≤ 150) := (actsD_ok HA.out).1
 have HCD : Hid (Cells w1 D (dds (actsD l))) := (Cells.of_own ho (by rw [dds_len]; have := HLD.out; omega)).1
 have HB1 := Lib.hid hB1
 clear ho hB1
 go_wp2_with fail
 refine (play_any D d (actsD l) w1 HCD.out).mono ?_
 rintro r w2 ⟨EA, ce, WA, cw, TA, ct, es, zs, rfl, hln, hB2, hct⟩
 have hp2 := acts_played HA.out
 have HSF := Lib.hid (played_saf hp2)
 rw [played_show hp2] at hln hct ⊢
 obtain ⟨P, HPP⟩ : ∃ P, Hid ((playedA (actsD l)).1 = P) := ⟨_, rfl⟩
 rw [HPP.out] at hln hct HSF ⊢
 have HTV : Hid (zs.map Tz.v = P.tales) := hln.tv
 have HZL : Hid (P.tales.length = zs.length) := by show _ = _; rw [← HTV.out, List.length_map]
 have HCT : Hid (zs.length ≤ ct) := by show _ ≤ _; rw [← HZL.out]; exact hct
 have HLN := Lib.hid hln
 have HB2 : Hid (Below w.heap.size w w2) := HB1.out.trans (hB2.mono HB1.out.size)
 have HZM : Hid (∀ z ∈ zs, z.v ∈ P.tales) := fun z hz => by rw [← HTV.out]; exact List.mem_map_of_mem hz
 clear hln hct hB2 hp2
 unfold lnV showA
 rw [HZL.out]
 simp only [List.length_cons, List.length_nil, Nat.zero_add, Nat.reduceAdd]
 obtain ⟨nw, hnw⟩ : ∃ nw, P.wire.length = nw := ⟨_, rfl⟩
 rw [hnw]
 clear hnw
 go_upto_region 2 with fail
 obtain ⟨W, hW⟩ : ∃ W, w2.alloc (.cells #[.slice EA 2 ce, .slice WA nw cw, .slice TA zs.length ct] 28) = W := ⟨_, rfl⟩
 have HBW : Hid (Below w.heap.size w W) := by rw [← hW]; exact HB2.out.alloc HB2.out.size _
 have HXW : Hid (Blk W w2.heap.size (.cells #[.slice EA 2 ce, .slice WA nw cw, .slice TA zs.length ct] 28)) := by rw [← hW]; exact Blk.new _ _
 have HLW : Hid (LnAt W w1.heap.size (showA P) EA WA TA es zs) := by rw [← hW]; exact HLN.out.below ((Below.refl _ _).alloc (Nat.le_refl _) _)
 rw [hW]
 clear hW
 have HEV : Hid (es.map Ez.v = [P.e0, P.e1]) := HLN.out.ev
 have HE2 : Hid (es.length = 2) := by have h9 := congrArg List.length HEV.out; rw [List.length_map] at h9; exact h9
 have k9 := HXW.out
 have x0 := k9.cell 0 (v := .slice EA 2 ce) rfl
 have x1 := k9.cell 1 (v := .slice WA nw cw) rfl
 have x2 := k9.cell 2 (v := .slice TA zs.length ct) rfl
 have xl := k9.lt
 clear k9
 go_wp2_with fail
 clear x0 x1 x2 xl
 go_loopg [28] zs.length (fun g iv wr => ∃ k : Nat, k + g = zs.length ∧ iv = .int .i64 (k : Int) ∧ Below W.heap.size W wr)
 case atStart => exact ⟨0, Nat.zero_add _, rfl, Below.refl _ _⟩
 case round =>
  obtain ⟨k, hk, rfl, hB⟩ := hrel
  have HK := Lib.hid hk
  have HBR := Lib.hid hB
  have HBR0 : Hid (Below w.heap.size w wr) := HBW.out.trans (hB.mono HBW.out.size)
  clear hk hB
  by_cases hlt : (k : Int) < (zs.length : Int)
  ·obtain ⟨z, b, o, hz, hb, hix, c0, c1, c2, c3, c4, c5⟩ := tza (c := ct) (k := k) (HLW.out.tales.below HBR.out (Nat.le_refl _)) (by omega)
   have HZ := Lib.hid hz
   have HZI : Hid (z ∈ zs) := List.mem_of_getElem? hz
   have HZE := Lib.hid (HSF.out.ends _ (HZM.out z HZI.out))
   have HZB : Hid (zs.length ≤ 100000 ∧ z.v.sent.length ≤ 100000 ∧ z.v.lost.length ≤ 100000 ∧ z.v.taken.length ≤ 100000) := by
    have h9 := (played_k (acts_played HA.out)).2.1.bulk
    rw [HPP.out] at h9
    have h8 := h9.tales
    rw [HZL.out] at h8
    have h7 := h9.txt z.v (HZM.out z HZI.out)
    show _ ∧ _ ∧ _ ∧ _
    omega
   have HZL2 : Hid (zs.length ≤ 1000000000) := by have := HZB.out.1; show _ ≤ _; omega
   have hw1 : IntKind.i64.wrap ((k : Int) + 1) = (k : Int) + 1 := wrap_ok ⟨by omega, by have := HZL2.out; omega⟩
   clear hz
   go_upto_region 7 with fail
   obtain ⟨V, hV⟩ : ∃ V, wr.alloc (.cells #[.int .i64 z.v.end_, .int .i64 z.v.life, .int .i64 z.v.peer, .slice z.S z.v.sent.length z.cs, .slice z.L z.v.lost.length z.cl, .slice z.K z.v.taken.length z.ck] 57) = V := ⟨_, rfl⟩
   have HBV : Hid (Below W.heap.size W V) := by rw [← hV]; exact HBR.out.alloc HBR.out.size _
   have HTV2 : Hid (Blk V wr.heap.size (.cells (tzB z) 57)) := by rw [← hV]; exact Blk.new _ _
   have HXV := Lib.hid (HXW.out.below HBV.out HXW.out.lt)
   have HSZ : Hid (W.heap.size ≤ wr.heap.size) := HBR.out.size
   rw [hV]
   clear hV c0 c1 c2 c3 c4 c5 hix hb
   have k9 := HXV.out
   have x0 := k9.cell 0 (v := .slice EA 2 ce) rfl
   have x1 := k9.cell 1 (v := .slice WA nw cw) rfl
   have x2 := k9.cell 2 (v := .slice TA zs.length ct) rfl
   have xl := k9.lt
   clear k9
   have k9 := HTV2.out
   have t0 := k9.cell 0 (v := .int .i64 (z).v.end_) rfl
   have t1 := k9.cell 1 (v := .int .i64 (z).v.life) rfl
   have t2 := k9.cell 2 (v := .int .i64 (z).v.peer) rfl
   have t3 := k9.cell 3 (v := .slice (z).S (z).v.sent.length (z).cs) rfl
   have t4 := k9.cell 4 (v := .slice (z).L (z).v.lost.length (z).cl) rfl
   have t5 := k9.cell 5 (v := .slice (z).K (z).v.taken.length (z).ck) rfl
   have tl := k9.lt
   clear k9
   obtain ⟨i, hi⟩ : ∃ i : Nat, z.v.end_ = (i : Int) := ⟨z.v.end_.toNat, by have := HZE.out; omega⟩
   have hi2 : i < 2 := by have := HZE.out; omega
   obtain ⟨y, yb, yo, hy, hyb, hyi, y0, y1, y2, y3, y4, y5, y6⟩ := eza (c := ce) (k := i) (HLW.out.ends.below HBV.out (Nat.le_refl _)) (by have := HE2.out; omega)
   rw [HE2.out] at hyi
   have hand : bits BinOp.and IntKind.i64 (i : Int) 1 = (i : Int) := by
    have h9 : i = 0 ∨ i = 1 := by omega
    rcases h9 with rfl | rfl <;> rfl
   have HYV : Hid (y.v = P.end_ z.v.end_ ∧ y ∈ es) := by
    refine ⟨?_, List.mem_of_getElem? hy⟩
    have h9 := congrArg (fun l => l[i]?) HEV.out
    simp only [List.getElem?_map, hy, Option.map_some] at h9
    have h8 : i = 0 ∨ i = 1 := by omega
    rcases h8 with rfl | rfl
    ·injection h9 with h9
     rw [h9, hi]; rfl
    ·injection h9 with h9
     rw [h9, hi]; rfl
   go_upto_region 8 with fail
   obtain ⟨Y, hY⟩ : ∃ Y, V.alloc (.cells #[.int .i64 y.v.life, .int .i64 y.v.peer, .int .i64 y.v.phase, .int .i64 y.v.base, .slice y.A y.v.out.length y.c, .int .i64 y.v.want, .slice y.D y.v.inn.length y.d] 38) = Y := ⟨_, rfl⟩
   have HBY : Hid (Below V.heap.size V Y) := by rw [← hY]; exact (Below.refl _ V).alloc (Nat.le_refl _) _
   have HYY : Hid (Blk Y V.heap.size (.cells #[.int .i64 y.v.life, .int .i64 y.v.peer, .int .i64 y.v.phase, .int .i64 y.v.base, .slice y.A y.v.out.length y.c, .int .i64 y.v.want, .slice y.D y.v.inn.length y.d] 38)) := by rw [← hY]; exact Blk.new _ _
   have HTY := Lib.hid (HTV2.out.below HBY.out HTV2.out.lt)
   have HXY := Lib.hid (HXV.out.below HBY.out HXV.out.lt)
   have HBYW : Hid (Below W.heap.size W Y) := HBV.out.trans (HBY.out.mono HBV.out.size)
   rw [hY]
   clear hY hand hyi hyb y0 y1 y2 y3 y4 y5 y6 x0 x1 x2 xl t0 t1 t2 t3 t4 t5 tl hi hi2 hy
   have k9 := HTY.out
   have t0 := k9.cell 0 (v := .int .i64 (z).v.end_) rfl
   have t1 := k9.cell 1 (v := .int .i64 (z).v.life) rfl
   have t2 := k9.cell 2 (v := .int .i64 (z).v.peer) rfl
   have t3 := k9.cell 3 (v := .slice (z).S (z).v.sent.length (z).cs) rfl
   have t4 := k9.cell 4 (v := .slice (z).L (z).v.lost.length (z).cl) rfl
   have t5 := k9.cell 5 (v := .slice (z).K (z).v.taken.length (z).ck) rfl
   have tl := k9.lt
   clear k9
   have k9 := HYY.out
   have s0 := k9.cell 0 (v := .int .i64 y.v.life) rfl
   have s1 := k9.cell 1 (v := .int .i64 y.v.peer) rfl
   have s2 := k9.cell 2 (v := .int .i64 y.v.phase) rfl
   have s3 := k9.cell 3 (v := .int .i64 y.v.base) rfl
   have s4 := k9.cell 4 (v := .slice y.A y.v.out.length y.c) rfl
   have s5 := k9.cell 5 (v := .int .i64 y.v.want) rfl
   have s6 := k9.cell 6 (v := .slice y.D y.v.inn.length y.d) rfl
   have sl := k9.lt
   clear k9
   by_cases hlf : z.v.life = y.v.life
   rotate_left
   ·have b1 : (z.v.life != y.v.life) = true := by simpa using hlf
    clear hlf
    go_wp2_with fail
    go_roundg (zs.length - (k + 1))
    case measure => have := HK.out; omega
    case rel => exact ⟨k + 1, by omega, rfl, HBYW.out⟩
   have b1 : (z.v.life != y.v.life) = false := by simpa using hlf
   obtain ⟨m, hm1, hm2, hm3, hm4, hm5⟩ := HSF.out.toldN (HZM.out z HZI.out) (by rw [hlf, HYV.out.1])
   rw [← HYV.out.1] at hm1 hm2
   have HM1 := Lib.hid hm1
   have HM2 := Lib.hid hm2
   have HM3 := Lib.hid hm3
   have HM4 := Lib.hid hm4
   have HM5 := Lib.hid hm5
   obtain ⟨a, hal⟩ : ∃ a : Int, Hid ((z.v.sent.length : Int) - z.v.lost.length = a) := ⟨_, rfl⟩
   have hwa : IntKind.i64.wrap ((z.v.sent.length : Int) - z.v.lost.length) = a := by rw [← hal.out]; exact wrap_ok (by have := HZB.out; exact ⟨by omega, by omega⟩)
   have HOL : Hid (y.v.out.length ≤ 1000) := by
    have h9 := (good_iff.1 (HSF.out.ok.good z.v.end_)).len
    rw [← HYV.out.1] at h9
    show _ ≤ _
    omega
   clear hlf hm1 hm2 hm3 hm4 hm5
   go_upto_if 55 with fail
   go_cut [8] from 51 to 86 (fun v wx => v = .int .i64 (m : Int) ∧ Below Y.heap.size Y wx)
   case first =>
    by_cases hpe : z.v.peer = y.v.peer
    ·have b2 : (z.v.peer == y.v.peer) = true := beq_iff_eq.2 hpe
     have hwm : IntKind.i64.wrap (a - (flyN y.v : Int)) = (m : Int) := by
      have h9 := HM1.out hpe
      have h8 := hal.out
      have h7 : a - (flyN y.v : Int) = (m : Int) := by omega
      rw [h7]
      exact wrap_ok (by have := HM3.out; have := HZB.out; exact ⟨by omega, by omega⟩)
     clear hpe
     go_wp2_with (go_at_call 17; go_must (refine (flying2_any y.v y.A y.c y.D y.d Y HOL.out).mono ?_); rintro r w6 ⟨rfl, hB6⟩)
     go_meet
     exact ⟨rfl, hB6⟩
    ·have b2 : (z.v.peer == y.v.peer) = false := beq_eq_false_iff_ne.2 hpe
     have HAM : Hid (a = (m : Int)) := by show _ = _; rw [← HM2.out hpe]; exact hal.out.symm
     clear hpe
     go_wp2_with fail
     go_meet
     exact ⟨by rw [HAM.out], Below.refl _ _⟩
   case rest =>
    obtain ⟨rfl, hB6⟩ := hcut
    clear hwa t0 t1 t2 t3 t4 t5 tl s0 s1 s2 s3 s4 s5 s6 sl b1
    obtain ⟨V6, rfl⟩ : ∃ V6, V6 = wc := ⟨_, rfl⟩
    have HX6 := Lib.hid (HXY.out.below hB6 HXY.out.lt)
    have HT6 := Lib.hid (HTY.out.below hB6 HTY.out.lt)
    have HB6 : Hid (Below W.heap.size W V6) := HBYW.out.trans (hB6.mono HBYW.out.size)
    clear hB6
    have k9 := HX6.out
    have x0 := k9.cell 0 (v := .slice EA 2 ce) rfl
    have x1 := k9.cell 1 (v := .slice WA nw cw) rfl
    have x2 := k9.cell 2 (v := .slice TA zs.length ct) rfl
    have xl := k9.lt
    clear k9
    have k9 := HT6.out
    have t0 := k9.cell 0 (v := .int .i64 (z).v.end_) rfl
    have t1 := k9.cell 1 (v := .int .i64 (z).v.life) rfl
    have t2 := k9.cell 2 (v := .int .i64 (z).v.peer) rfl
    have t3 := k9.cell 3 (v := .slice (z).S (z).v.sent.length (z).cs) rfl
    have t4 := k9.cell 4 (v := .slice (z).L (z).v.lost.length (z).cl) rfl
    have t5 := k9.cell 5 (v := .slice (z).K (z).v.taken.length (z).ck) rfl
    have tl := k9.lt
    clear k9
    go_wp2_with fail
    refine (other_any (.slice EA 2 ce) (.slice WA nw cw) TA ct zs z V6 rfl rfl (HLW.out.tales.below HB6.out (Nat.le_refl _)) HZE.out).mono ?_
    rintro r w7 ⟨⟨u, is, rfl, hu⟩, hB7⟩
    rw [HTV.out] at hu
    have HU : Hid (m ≤ u.v.taken.length ∧ z.v.sent.take m = u.v.taken.take m) := by
     rcases hu with ⟨_, _, h9⟩ | ⟨_, h8, h9⟩
     ·exact HM4.out u.v h9
     ·have h7 := HM5.out h9
      subst h7
      exact ⟨Nat.zero_le _, rfl⟩
    have HB7 : Hid (Below W.heap.size W w7) := HB6.out.trans (hB7.mono HB6.out.size)
    have HT7 := Lib.hid (HT6.out.below hB7 HT6.out.lt)
    have HUC : Hid (Cells w7 u.K (strs u.v.taken) ∧ u.v.taken.length ≤ u.ck) := by
     rcases hu with ⟨_, h8, _⟩ | ⟨_, h8, _⟩
     ·exact ⟨(HLW.out.txt u h8).2.2.below HB7.out (Nat.le_refl _), (HLW.out.cap u h8).2⟩
     ·subst h8
      exact ⟨Cells.nil _ _, Nat.le_refl _⟩
    clear hu hB7 x0 x1 x2 xl t0 t1 t2 t3 t4 t5 tl
    unfold tzV
    go_upto_region 13 with fail
    obtain ⟨X, hX⟩ : ∃ X, w7.alloc (.cells #[.int .i64 u.v.end_, .int .i64 u.v.life, .int .i64 u.v.peer, .slice u.S u.v.sent.length u.cs, .slice u.L u.v.lost.length u.cl, .slice u.K u.v.taken.length u.ck] 57) = X := ⟨_, rfl⟩
    have HBX : Hid (Below w7.heap.size w7 X) := by rw [← hX]; exact (Below.refl _ w7).alloc (Nat.le_refl _) _
    have HUX : Hid (Blk X w7.heap.size (.cells (tzB u) 57)) := by rw [← hX]; exact Blk.new _ _
    have HTX := Lib.hid (HT7.out.below HBX.out HT7.out.lt)
    have HBXW : Hid (Below W.heap.size W X) := HB7.out.trans (HBX.out.mono HB7.out.size)
    rw [hX]
    clear hX
    have hmt : m ≤ u.v.taken.length := HU.out.1
    have hmk : m ≤ u.ck := by have := HU.out.1; have := HUC.out.2; omega
    have hms : m ≤ z.cs := by have := HM3.out; have := (HLW.out.cap z HZI.out).1; omega
    have HL1 : Hid ((z.v.sent.take m).length = m) := by show _ = _; rw [List.length_take]; have := HM3.out; omega
    have HL2 : Hid ((u.v.taken.take m).length = m) := by show _ = _; rw [List.length_take]; omega
    have htl := HTX.out.lt
    have hul := HUX.out.lt
    refine draw (fun w' => Below X.heap.size X w') 21 rfl (by kernel_rfl) (fun Qd hQd => ?_)
    have HRD := fun (wI : World) (hI : (fun w' => Below X.heap.size X w') wI) => (have t3 := cell_chain hI htl (HTX.out.cell 3 (v := .slice z.S z.v.sent.length z.cs) rfl); have s5 := cell_chain hI hul (HUX.out.cell 5 (v := .slice u.K u.v.taken.length u.ck) rfl); And.intro t3 s5)
    apply anyI_step 0 rfl (by kernel_rfl)
    focus (intro wI hI Kv hKv; obtain ⟨t3, s5⟩ := HRD wI hI; go_simp; exact hKv)
    intro Kd hKd
    go_simp
    refine hKd _ ?_
    clear hKd Kd
    apply anyI_step 1 rfl (by kernel_rfl)
    focus (intro wI hI Kv hKv; obtain ⟨t3, s5⟩ := HRD wI hI; go_simp; exact hKv)
    intro Kd hKd
    go_simp
    refine hKd _ ?_
    clear hKd Kd
    apply anyI_step 2 rfl (by kernel_rfl)
    focus (intro wI hI Kv hKv; obtain ⟨t3, s5⟩ := HRD wI hI; go_simp; exact hKv)
    intro Kd hKd
    go_simp
    refine hKd _ ?_
    clear hKd Kd
    apply anyI_step 3 rfl (by kernel_rfl)
    focus (intro wI hI Kv hKv; obtain ⟨t3, s5⟩ := HRD wI hI; go_simp; exact hKv)
    intro Kd hKd
    go_simp
    refine hKd _ ?_
    clear hKd Kd
    apply anyI_step 4 rfl (by kernel_rfl)
    focus (intro wI hI Kv hKv; obtain ⟨t3, s5⟩ := HRD wI hI; go_simp; exact hKv)
    intro Kd hKd
    go_simp
    refine hKd _ ?_
    clear hKd Kd
    apply anyI_step 5 rfl (by kernel_rfl)
    focus (intro wI hI Kv hKv; obtain ⟨t3, s5⟩ := HRD wI hI; go_simp; exact hKv)
    intro Kd hKd
    go_simp
    refine hKd _ ?_
    clear hKd Kd
    apply anyI_step 6 rfl (by kernel_rfl)
    focus (intro wI hI Kv hKv; obtain ⟨t3, s5⟩ := HRD wI hI; go_simp; exact hKv)
    intro Kd hKd
    go_simp
    refine hKd _ ?_
    clear hKd Kd
    apply anyI_step 7 rfl (by kernel_rfl)
    focus (intro wI hI Kv hKv; obtain ⟨t3, s5⟩ := HRD wI hI; go_simp; exact hKv)
    intro Kd hKd
    go_simp
    refine hKd _ ?_
    clear hKd Kd
    apply anyI_step 8 rfl (by kernel_rfl)
    focus (intro wI hI Kv hKv; obtain ⟨t3, s5⟩ := HRD wI hI; go_simp; exact hKv)
    intro Kd hKd
    go_simp
    refine hKd _ ?_
    clear hKd Kd
    apply anyI_step 9 rfl (by kernel_rfl)
    focus (intro wI hI Kv hKv; obtain ⟨t3, s5⟩ := HRD wI hI; go_simp; exact hKv)
    intro Kd hKd
    go_simp
    refine hKd _ ?_
    clear hKd Kd
    apply anyI_step 10 rfl (by kernel_rfl)
    focus (intro wI hI Kv hKv; obtain ⟨t3, s5⟩ := HRD wI hI; go_simp; exact hKv)
    intro Kd hKd
    go_simp
    refine hKd _ ?_
    clear hKd Kd
    apply anyI_step 12 rfl (by kernel_rfl)
    focus (intro wI hI Kv hKv; obtain ⟨t3, s5⟩ := HRD wI hI; go_simp; exact hKv)
    intro Kd hKd
    go_simp
    refine hKd _ ?_
    clear hKd Kd
    apply anyI_step 14 rfl (by kernel_rfl)
    focus (intro wI hI Kv hKv; obtain ⟨t3, s5⟩ := HRD wI hI; go_simp; exact hKv)
    intro Kd hKd
    go_simp
    refine hKd _ ?_
    clear hKd Kd
    apply anyI_step 16 rfl (by kernel_rfl)
    focus (intro wI hI Kv hKv; obtain ⟨t3, s5⟩ := HRD wI hI; go_simp; exact hKv)
    intro Kd hKd
    go_simp
    refine hKd _ ?_
    clear hKd Kd
    apply anyI_step 11 rfl (by kernel_rfl)
    focus (intro wI hI Kv hKv; obtain ⟨t3, s5⟩ := HRD wI hI; go_simp; exact hKv)
    intro Kd hKd
    go_simp
    refine hKd _ ?_
    clear hKd Kd
    apply anyI_step 15 rfl (by kernel_rfl)
    focus (intro wI hI Kv hKv; obtain ⟨t3, s5⟩ := HRD wI hI; go_simp; exact hKv)
    intro Kd hKd
    go_simp
    refine hKd _ ?_
    clear hKd Kd
    apply anyI_step 13 rfl (by kernel_rfl)
    focus (intro wI hI Kv hKv; obtain ⟨t3, s5⟩ := HRD wI hI; go_simp; exact hKv)
    intro Kd hKd
    go_simp
    refine hKd _ ?_
    clear hKd Kd
    apply anyI_step 17 rfl (by kernel_rfl)
    focus (intro wI hI Kv hKv; obtain ⟨t3, s5⟩ := HRD wI hI; go_simp; exact hKv)
    intro Kd hKd
    go_simp
    refine hKd _ ?_
    clear hKd Kd
    clear HRD
    refine anyI_one' 18 rfl (by kernel_rfl) ((Below.refl _ _).drew) (fun Kd hKd => ?_)
    have HEQ := equal_any z.S z.cs (z.v.sent.take m) u.K u.ck (u.v.taken.take m) X.drew (strs_take ((HLW.out.txt z HZI.out).1.below HBXW.out.drew (Nat.le_refl _)) m) (strs_take (HUC.out.1.below HBX.out.drew (Nat.le_refl _)) m)
    rw [HL1.out, HL2.out, HU.out.2, decide_eq_true rfl] at HEQ
    have HEQ := Lib.hid HEQ
    go_wp2_with (go_at_call 15; go_must (refine HEQ.out.mono ?_); rintro r w8 ⟨rfl, hB8⟩)
    have hB8 : Below X.heap.size X w8 := below_in (Below.refl _ X).drew hB8
    have HB8 := Lib.hid hB8
    clear hB8
    apply anyI_step 19 rfl (by kernel_rfl)
    focus (intro wI hI Kv hKv; go_simp; exact hKv)
    intro Kd hKd
    go_simp
    refine hKd _ ?_
    clear hKd Kd
    apply anyI_step 20 rfl (by kernel_rfl)
    focus (intro wI hI Kv hKv; go_simp; exact hKv)
    intro Kd hKd
    go_simp
    refine hKd _ ?_
    clear hKd Kd
    refine anyI_end (by kernel_rfl) (HB8.out) (hQd _ _ ?_)
    clear hQd Qd
    go_wp2_with fail
    go_roundg (zs.length - (k + 1))
    case measure => have := HK.out; omega
    case rel => exact ⟨k + 1, by omega, rfl, HBXW.out.trans (HB8.out.mono HBXW.out.size)⟩
  ·go_wp2_with fail
   refine (works_any wr).mono ?_
   rintro r w9 ⟨rfl, hB9⟩
   go_wp2
   go_ret
   exact ⟨rfl, HBR0.out.trans (hB9.mono HBR0.out.size)⟩
end Go.Proofs.YtejabnoidhlfaaaDoor

/- Lists of texts by lives, in memory. -/
namespace Go.Proofs.YtejabnoidhlfaaaDoor
open Go.RowKit Go.Maps

def txC (x : Value × List ByteArray) : List Value := [x.1]
theorem txC_len : ∀ x, (txC x).length = 1 := fun _ => rfl
def txs1 (l : List (Value × List ByteArray)) : List Value := l.flatMap txC
theorem txs1_len (l : List (Value × List ByteArray)) : (txs1 l).length = l.length := by have := flat_len txC_len l; unfold txs1; omega
theorem txs1_snoc (l : List (Value × List ByteArray)) (x : Value × List ByteArray) : txs1 (l ++ [x]) = txs1 l ++ [x.1] := by simp [txs1, txC]
theorem txs1_set (l : List (Value × List ByteArray)) {k : Nat} {x y : Value × List ByteArray} (h : l[k]? = some x) : (txs1 l).set k y.1 = txs1 (l.set k y) := by
 have := flatg_set txC_len l k 0 x y y.1 (by decide) h rfl
 rw [Nat.mul_one, Nat.add_zero] at this
 exact this
theorem rTx : ElemRow Tryd.prog 62 42 1 24 := ElemRow.mk' (z := .slice none 0 0) Tryd.underlying62 (by kernel_rfl) rfl (by decide) (by decide)
theorem tx_at {w : World} {A : Option Addr} {l : List (Value × List ByteArray)} {c k : Nat} (h : Cells w A (txs1 l)) (hk : k < l.length) : ∃ x b o, l[k]? = some x ∧ b < w.heap.size ∧ (∀ w', (Instr.indexAt 62 (.slice A l.length c) (.int .i64 (k : Int))).run Tryd.prog w' = .ok (.pointer (some ⟨b, o, none⟩)) w') ∧ w.cell? ⟨b, o, none⟩ = some x.1 := by
 obtain ⟨x, b, o, hx, hb, hix, hc⟩ := flat_at (c := c) h txC_len Tryd.underlying62 rTx.size_eq (by decide) hk
 exact ⟨x, b, o, hx, hb, hix, hc 0 _ rfl⟩
/-- A list of lists of texts, all of it of one's own. -/
structure Td (w : World) (B : Nat) (V : Value) (xs : List (Value × List ByteArray)) : Prop where
 row : w.ownsRow B 42 1 V xs.length (txs1 xs)
 txt : Rows w B xs
theorem Td.below {w w' : World} {B : Nat} {V : Value} {xs : List (Value × List ByteArray)} (h : Td w B V xs) (hB : Below w.heap.size w w') : Td w' B V xs :=
 ⟨own_frame h.row (Frame.of_all (S := fun _ => False) hB) (fun _ _ h => h), h.txt.frame (Frame.of_all (S := fun _ => False) hB) (fun _ _ _ _ h => h)⟩
theorem Td.first (w : World) : Td (w.alloc (.cells #[.slice none 0 0] 42)) w.heap.size (.slice (some ⟨w.heap.size, 0, none⟩) 1 1) [(.slice none 0 0, [])] := by
 refine ⟨⟨rfl, .inr ⟨w.heap.size, 1, #[.slice none 0 0], rfl, Nat.le_refl _, heap_alloc_new w _, Nat.le_refl _, by unfold maxLen; omega, rfl, rfl⟩⟩, fun x hx => ?_, fun i j x y hi hj hij g hx hy => ?_⟩
 ·have : x = (.slice none 0 0, []) := by simpa using hx
  rw [this]
  exact World.ownsRow_nil _ _ _ _
 ·have h1 := (List.getElem?_eq_some_iff.1 hi).1
  have h2 := (List.getElem?_eq_some_iff.1 hj).1
  simp at h1 h2
  omega
theorem Td.ne {w : World} {B : Nat} {V : Value} {xs : List (Value × List ByteArray)} (h : Td w B V xs) {x : Value × List ByteArray} (hx : x ∈ xs) : ∀ g, x.1.ownBlock = some g → V.ownBlock ≠ some g := own_own (h.txt.own x hx) h.row (by decide)
/-- One more list, with nothing in it. -/
theorem Td.app {w w' : World} {B : Nat} {V V' : Value} {xs : List (Value × List ByteArray)} (h : Td w B V xs) (hF : Frame (fun b => V.ownBlock = some b) w w') (ho : w'.ownsRow B 42 1 V' (xs.length + 1) (txs1 xs ++ [.slice none 0 0])) : Td w' B V' (xs ++ [(.slice none 0 0, [])]) := by
 refine ⟨?_, (h.txt.frame hF (fun x hx g hg => h.ne hx g hg)).app (fun y hy => by simpa using hy)⟩
 rw [List.length_append, txs1_snoc]
 exact ho
/-- A list has one more text. -/
theorem Td.put {w w' : World} {B g c k : Nat} {xs : List (Value × List ByteArray)} {x : Value × List ByteArray} {v' : Value} {t' : List ByteArray} (h : Td w B (.slice (some ⟨g, 0, none⟩) xs.length c) xs) (hk : xs[k]? = some x) (hF : Frame (fun b => x.1.ownBlock = some b) w w')
  (ho : w'.ownsRow B 9 1 v' t'.length (strs t')) (hl : ∀ b, v'.ownBlock = some b → x.1.ownBlock = some b ∨ w.heap.size ≤ b) : Td (w'.setCell ⟨g, k, none⟩ v') B (.slice (some ⟨g, 0, none⟩) xs.length c) (xs.set k (v', t')) := by
 have hkl := (List.getElem?_eq_some_iff.1 hk).1
 have hxm := List.mem_of_getElem? hk
 have hrow := own_frame h.row hF (fun b hb e => h.ne hxm b e hb)
 have hR := h.txt.set hk hF ho hl
 obtain ⟨g', cur, e1, _, hg⟩ := own_some hrow (by omega)
 injection e1 with e1
 injection e1 with e1
 subst e1
 have hf2 : Frame (fun b => b = g) w' (w'.setCell ⟨g, k, none⟩ v') := (Frame.refl (fun b => b = g) w').setCell (p := ⟨g, k, none⟩) (.inl rfl) _
 refine ⟨?_, hR.frame hf2 (fun y hy b hb e => ?_)⟩
 ·have h9 := own_set hrow (i := k) (by rw [txs1_len]; exact hkl) v'
  rw [List.length_set, ← txs1_set (y := (v', t')) xs hk]
  exact h9
 ·rw [e] at hb
  exact own_ne (hR.own y hy) hg (by decide) hb
/-- What is told grows slowly. -/
theorem told_bd (i : Int) (ds : List Dd) : ∀ k : Nat, k ≤ ds.length → 1 ≤ ((ds.take k).foldl (toldS i) [[]]).length ∧ ((ds.take k).foldl (toldS i) [[]]).length ≤ k + 1 ∧ ∀ t ∈ (ds.take k).foldl (toldS i) [[]], t.length ≤ k
 | 0, _ => ⟨by simp, by simp, fun t ht => by simp at ht; rw [ht]; simp⟩
 | k + 1, hk => by
  obtain ⟨h1, h2, h3⟩ := told_bd i ds k (by omega)
  have hx : ds[k]? = some ds[k] := List.getElem?_eq_getElem (by omega)
  rw [take_succ_of hx, List.foldl_append]
  obtain ⟨tl, htl⟩ : ∃ tl, (ds.take k).foldl (toldS i) [[]] = tl := ⟨_, rfl⟩
  rw [htl] at h1 h2 h3 ⊢
  show 1 ≤ (toldS i tl ds[k]).length ∧ (toldS i tl ds[k]).length ≤ k + 1 + 1 ∧ ∀ t ∈ toldS i tl ds[k], t.length ≤ k + 1
  unfold toldS
  split
  ·refine ⟨by simp, by simp; omega, fun t ht => ?_⟩
   rcases List.mem_append.1 ht with ht | ht
   ·have := h3 t ht; omega
   ·simp at ht; rw [ht]; simp
  ·split
   ·refine ⟨by simp, by simp; omega, fun t ht => ?_⟩
    rcases List.mem_append.1 ht with ht | ht
    ·have := h3 t (List.dropLast_subset _ ht); omega
    ·have e : t = tl.getLastD [] ++ [ds[k].t] := by simpa using ht
     have hm : tl.getLastD [] ∈ tl := by
      cases tl with
      | nil => simp at h1
      | cons a l => rw [List.getLastD_cons]; exact List.getLastD_mem_cons ..
     have := h3 _ hm
     rw [e, List.length_append, List.length_cons, List.length_nil]
     omega
   ·exact ⟨h1, by omega, fun t ht => by have := h3 t ht; omega⟩
theorem told_step (i : Int) {ds : List Dd} {k : Nat} {d : Dd} (h : ds[k]? = some d) : (ds.take (k + 1)).foldl (toldS i) [[]] = toldS i ((ds.take k).foldl (toldS i) [[]]) d := by
 rw [take_succ_of h, List.foldl_append]
 rfl
theorem last_set {α : Type} : ∀ (l : List α) (y : α), l ≠ [] → l.dropLast ++ [y] = l.set (l.length - 1) y
 | [], y, h => absurd rfl h
 | [a], y, _ => rfl
 | a :: b :: l, y, _ => by
  have ih := last_set (b :: l) y (by simp)
  simp only [List.dropLast_cons_cons, List.cons_append, List.length_cons, Nat.add_sub_cancel] at ih ⊢
  rw [ih]
  rfl
section
variable {P : Program}
theorem run_app_none (w : World) (base : Nat) (t ty e : TypeId) (i : TypeInfo) (size c : Nat) (ht : P.underlying t = some (.slice e)) (hi : P.info? e = some i) (v : Value) (n : Nat) (xs : List Value) (hown : w.ownsRow base e size v n xs) : (Builtin.append_ #[t, t] ty #[v, .slice none 0 c]).run P w = .ok v w := by
 rcases hown.2 with ⟨rfl, rfl⟩ | ⟨g, cap, cur, rfl, _, _, hnc, _⟩
 ·simp [Builtin.append_, run_underlying ht, sizeOf, typeInfo, hi, Builtin.lenOf, Builtin.firstCells]
 ·simp [Builtin.append_, run_underlying ht, sizeOf, typeInfo, hi, Builtin.lenOf, Builtin.firstCells, hnc, storeCells]
/-- A list put behind one's own; one that lies nowhere has nothing in it. -/
theorem wpList_appN0 {t e : TypeId} {size bytes : Nat} (R : ElemRow P t e size bytes) (w : World) {ops : Array Oper} {rest : List Oper} {o : Oper} {a : Act} {Q : Exit → Act → World → Prop} (hgd : o.guard = none) (s x : Operand)
  (ho : o.op = .call { callee := .builtin .append, args := #[s, x], argTypes := #[t, t] })
  {base : Nat} {v : Value} {n : Nat} {xs : List Value} (hown : w.ownsRow base e size v n xs) (hs : a.eval s = v) (B : Option Addr) (m c : Nat) (news : List Value) (hx : a.eval x = .slice B m c) (hB0 : B = none → m = 0) (hC : Cells w B news)
  (hnl : news.length = m * size) (hone : ∀ u ∈ news, u.oneCell' = true) (hbytes : (n + m) * bytes ≤ 140737488355328) (hbase : base ≤ w.heap.size)
  (h : ∀ v' w', w'.ownsRow base e size v' (n + m) (xs ++ news) → Below base w w' → w.grownBy w' v.ownBlock → (∀ g, v'.ownBlock = some g → v.ownBlock = some g ∨ w.heap.size ≤ g) → wpList P ops Q rest (a.put o.dst v') w') :
  wpList P ops Q (o :: rest) a w := by
 cases B with
 | some ad => exact wpList_appN R w hgd s x ho hown hs _ m c news hx (fun h9 => by cases h9) hC hnl hone hbytes hbase h
 | none =>
  have hm := hB0 rfl
  subst hm
  obtain rfl : news = [] := List.eq_nil_of_length_eq_zero (by simpa using hnl)
  obtain ⟨i, z, hi, _⟩ := R.row
  refine wpList_plain hgd fun K hK => ?_
  have hrun := run_app_none (P := P) w base t o.type e i size c R.ut hi v n xs hown
  unfold Oper.wp
  simp [execOp, ho, resolve, invoke, builtin, hs, hx, hrun, Result.andThen]
  refine hK _ _ (h v w ?_ (Below.refl _ w) ⟨rfl, rfl, rfl, Nat.le_refl _, fun _ _ _ => rfl⟩ (fun g hg => .inl hg))
  rw [Nat.add_zero, List.append_nil]
  exact hown
end
theorem strs_none {w : World} {t : List ByteArray} (h : Cells w none (strs t)) : t.length = 0 := by
 cases t with
 | nil => rfl
 | cons x l =>
  obtain ⟨_, b, off, _, hA, _⟩ := h
  have := (hA (by simp [strs, stC])).1
  cases this
end Go.Proofs.YtejabnoidhlfaaaDoor

/- SessAll: the walk. -/
namespace Go.Proofs.YtejabnoidhlfaaaDoor
open Go.RowKit Go.Maps

/-- What was sent in earlier lives is the beginning of what was told, and in the present one all that does not wait. -/
theorem AllOf.at_ {l : Lp} {i : Int} {tl : List (List ByteArray)} (h : AllOf l i tl) : (l.end_ i).life = (tl.length : Int) ∧ (∀ (k : Nat) v, tl[k]? = some v → sents l.tales i ((k : Int) + 1) <+: v) ∧ (∀ (k : Nat) v, tl[k]? = some v → k + 1 = tl.length → sents l.tales i ((k : Int) + 1) ++ restA (l.end_ i) = v) := by
 obtain ⟨pre, cur, h1, h2, h3, h4⟩ := h
 have hl : tl.length = pre.length + 1 := by rw [h1]; simp
 have hlast : ∀ (k : Nat) v, tl[k]? = some v → k + 1 = tl.length → v = cur ∧ (k : Int) + 1 = (l.end_ i).life := fun k v hv hk => by
  have hk2 : k = pre.length := by omega
  rw [h1, hk2] at hv
  simp at hv
  exact ⟨hv.symm, by omega⟩
 refine ⟨by omega, fun k v hv => ?_, fun k v hv hk => ?_⟩
 ·by_cases hk : k + 1 = tl.length
  ·obtain ⟨r1, r2⟩ := hlast k v hv hk
   rw [r1, r2, ← h4]
   exact List.prefix_append _ _
  ·have hkl := (List.getElem?_eq_some_iff.1 hv).1
   rw [h1, List.getElem?_append_left (by omega)] at hv
   exact h3 k v hv
 ·obtain ⟨r1, r2⟩ := hlast k v hv hk
  rw [r1, r2, h4]
/-- What the first n tales say that an end sent in a life. -/
def sentK (zs : List Tz) (i a : Int) (n : Nat) : List ByteArray := sents ((zs.take n).map Tz.v) i a
theorem sentK_pre (zs : List Tz) (i a : Int) (n : Nat) : sentK zs i a n <+: sents (zs.map Tz.v) i a := by
 unfold sentK
 have e1 : zs.map Tz.v = (zs.take n).map Tz.v ++ (zs.drop n).map Tz.v := by rw [← List.map_append, List.take_append_drop]
 rw [e1, sents_app]
 exact List.prefix_append _ _
theorem sentK_all (zs : List Tz) (i a : Int) {n : Nat} (h : n = zs.length) : sentK zs i a n = sents (zs.map Tz.v) i a := by
 unfold sentK
 rw [h, List.take_length]
theorem sentK_step {zs : List Tz} {i a : Int} {n : Nat} {z : Tz} (h : zs[n]? = some z) : sentK zs i a (n + 1) = sentK zs i a n ++ (if keyL i a z.v = true then z.v.sent else []) := by
 unfold sentK
 rw [take_succ_of h, List.map_append, sents_app]
 show _ ++ sents [z.v] i a = _
 rw [sents_one]
def restK (S : List ByteArray) (l : List Ou) (n : Nat) : List ByteArray := S ++ (l.take n).map (·.t)
theorem restK_zero (S : List ByteArray) (l : List Ou) : restK S l 0 = S := by simp [restK]
theorem restK_all (S : List ByteArray) (l : List Ou) {n : Nat} (h : n = l.length) : restK S l n = S ++ l.map (·.t) := by
 unfold restK
 rw [h, List.take_length]
theorem restK_step {S : List ByteArray} {l : List Ou} {n : Nat} {x : Ou} (h : l[n]? = some x) : restK S l (n + 1) = restK S l n ++ [x.t] := by
 unfold restK
 rw [take_succ_of h, List.map_append, ← List.append_assoc]
 rfl
theorem restK_len (S : List ByteArray) (l : List Ou) (n : Nat) : (restK S l n).length ≤ S.length + l.length := by
 unfold restK
 rw [List.length_append, List.length_map, List.length_take]
 omega
theorem ix62 {g n c k : Nat} (hk : k < n) (w' : World) : (Instr.indexAt 62 (.slice (some ⟨g, 0, none⟩) n c) (.int .i64 (k : Int))).run Tryd.prog w' = .ok (.pointer (some ⟨g, k, none⟩)) w' := by
 have hs := rTx.size_eq
 obtain ⟨i, hi, hie⟩ : ∃ i, Tryd.prog.info? 42 = some i ∧ i.size = 1 := by
  cases hx : Tryd.prog.info? 42 with
  | none => rw [hx] at hs; cases hs
  | some i => rw [hx] at hs; exact ⟨i, rfl, by simpa using hs⟩
 have hin : (0 : Int) ≤ (k : Int) ∧ (k : Int) < (n : Int) := by omega
 simp [Instr.indexAt, run_underlying Tryd.underlying62, asIntOf, hin, sizeOf, typeInfo, hi, hie, hk]
 by_cases h0 : k = 0
 ·subst h0
  simp [Addr.add]
 ·simp [Addr.add, h0]
/-- Where a list lies. -/
theorem Td.at_ {w : World} {B : Nat} {T : Option Addr} {c k : Nat} {xs : List (Value × List ByteArray)} (h : Td w B (.slice T xs.length c) xs) (hl : xs.length ≤ 1000) {x : Value × List ByteArray} (hx : xs[k]? = some x) : ∃ g cur, T = some ⟨g, 0, none⟩ ∧ B ≤ g ∧ Blk w g (.cells cur 42) ∧ w.cell? ⟨g, k, none⟩ = some x.1 := by
 have hk := (List.getElem?_eq_some_iff.1 hx).1
 rcases h.row.2 with ⟨_, h0⟩ | ⟨g, cap, cur, hv, hb, hg, _⟩
 ·omega
 injection hv with e1 e2 e3
 subst e1
 refine ⟨g, cur, rfl, hb, hg, ?_⟩
 obtain ⟨y, b, o, hy, hb, hix, hc⟩ := tx_at (c := c) (Cells.of_own h.row (by rw [txs1_len]; omega)).1 hk
 rw [hx] at hy
 injection hy with hy
 subst hy
 have := (hix w).symm.trans (ix62 hk w)
 injection this with this _
 injection this with this
 injection this with this
 injection this with h1 h2
 subst h1
 subst h2
 exact hc
theorem getLast_at {α : Type} (l : List α) (d : α) {k : Nat} {x : α} (h : l[k]? = some x) (hk : k + 1 = l.length) : l.getLastD d = x := by
 rw [List.getLastD_eq_getLast?, List.getLast?_eq_getElem?, show l.length - 1 = k by omega, h]
 rfl
set_option maxRecDepth 100000 in
set_option maxHeartbeats 16000000 in
theorem walk_all (A : Option Addr) (c N : Nat) (l : List Ac) (w : World) (h : Cells w A (acs l)) (hN : l.length = min N 150) (hc : N ≤ c) (ha : ∀ a ∈ l, AcOk a) (hP : Pow w) :
  Calls Tryd.prog 6 #[.slice A N c] w fun r w' => r = .returned (.bool true) ∧ Below w.heap.size w w' := by
 have HC := Lib.hid h
 have HA := Lib.hid ha
 have HP := Lib.hid hP
 have HNN := Lib.hid hN
 clear h ha hP hN
 go_enter Tryd.func6, Tryd.ntmps6
 go_wp2_with fail
 refine (acts_any A c N l w HC.out HNN.out hc HA.out HP.out).mono ?_
 rintro r w1 ⟨D, d, rfl, ho, hB1⟩
 have HLD : Hid ((actsD l).length ≤ 150) := (actsD_ok HA.out).1
 have HCD : Hid (Cells w1 D (dds (actsD l))) := (Cells.of_own ho (by rw [dds_len]; have := HLD.out; omega)).1
 have HB1 := Lib.hid hB1
 clear ho hB1
 go_wp2_with fail
 refine (play_any D d (actsD l) w1 HCD.out).mono ?_
 rintro r w2 ⟨EA, ce, WA, cw, TA, ct, es, zs, rfl, hln, hB2, hct⟩
 have hp2 := acts_played HA.out
 have HSF := Lib.hid (played_saf hp2)
 rw [played_show hp2] at hln hct ⊢
 obtain ⟨P, HPP⟩ : ∃ P, Hid ((playedA (actsD l)).1 = P) := ⟨_, rfl⟩
 rw [HPP.out] at hln hct HSF ⊢
 have HTV : Hid (zs.map Tz.v = P.tales) := hln.tv
 have HZL : Hid (P.tales.length = zs.length) := by show _ = _; rw [← HTV.out, List.length_map]
 have HCT : Hid (zs.length ≤ ct) := by show _ ≤ _; rw [← HZL.out]; exact hct
 have HLN := Lib.hid hln
 have HB2 : Hid (Below w.heap.size w w2) := HB1.out.trans (hB2.mono HB1.out.size)
 have HZM : Hid (∀ z ∈ zs, z.v ∈ P.tales) := fun z hz => by rw [← HTV.out]; exact List.mem_map_of_mem hz
 have HB12 := Lib.hid hB2
 clear hln hct hB2 hp2
 unfold lnV showA
 rw [HZL.out]
 simp only [List.length_cons, List.length_nil, Nat.zero_add, Nat.reduceAdd]
 obtain ⟨nw, hnw⟩ : ∃ nw, P.wire.length = nw := ⟨_, rfl⟩
 rw [hnw]
 clear hnw
 go_upto_region 3 with fail
 obtain ⟨W, hW⟩ : ∃ W, w2.alloc (.cells #[.slice EA 2 ce, .slice WA nw cw, .slice TA zs.length ct] 28) = W := ⟨_, rfl⟩
 have HBW : Hid (Below w.heap.size w W) := by rw [← hW]; exact HB2.out.alloc HB2.out.size _
 have HXW : Hid (Blk W w2.heap.size (.cells #[.slice EA 2 ce, .slice WA nw cw, .slice TA zs.length ct] 28)) := by rw [← hW]; exact Blk.new _ _
 have HLW : Hid (LnAt W w1.heap.size (showA P) EA WA TA es zs) := by rw [← hW]; exact HLN.out.below ((Below.refl _ _).alloc (Nat.le_refl _) _)
 have HB2W : Hid (Below w2.heap.size w2 W) := by rw [← hW]; exact (Below.refl _ _).alloc (Nat.le_refl _) _
 rw [hW]
 clear hW
 have HCW := Lib.hid ((HCD.out.below HB12.out (Nat.le_refl _)).below HB2W.out (Nat.le_refl _))
 have HEV : Hid (es.map Ez.v = [P.e0, P.e1]) := HLN.out.ev
 have HE2 : Hid (es.length = 2) := by have h9 := congrArg List.length HEV.out; rw [List.length_map] at h9; exact h9
 have k9 := HXW.out
 have x0 := k9.cell 0 (v := .slice EA 2 ce) rfl
 have x1 := k9.cell 1 (v := .slice WA nw cw) rfl
 have x2 := k9.cell 2 (v := .slice TA zs.length ct) rfl
 have xl := k9.lt
 clear k9
 go_wp2_with fail
 clear x0 x1 x2 xl
 go_loopg [33] 2 (fun g iv wr => ∃ k : Nat, k + g = 2 ∧ iv = .int .i64 (k : Int) ∧ Below W.heap.size W wr)
 case atStart => exact ⟨0, Nat.zero_add _, rfl, Below.refl _ _⟩
 case round =>
  obtain ⟨e, he, rfl, hB⟩ := hrel
  obtain ⟨W9, rfl⟩ : ∃ W9, W9 = wr := ⟨_, rfl⟩
  have HE := Lib.hid he
  have HB9 := Lib.hid hB
  have HB90 : Hid (Below w.heap.size w W9) := HBW.out.trans (hB.mono HBW.out.size)
  clear he hB
  by_cases hle : (e : Int) < 2
  ·have HI : Hid ((e : Int) = 0 ∨ (e : Int) = 1) := by show _ ∨ _; omega
   have hw0 : IntKind.i64.wrap ((e : Int) + 1) = (e : Int) + 1 := wrap_ok ⟨by omega, by omega⟩
   have HALL : Hid (AllOf P e ((actsD l).foldl (toldS e) [[]])) := by
    have h9 := acts_played HA.out
    have h8 := actsD_ok HA.out
    have h7 := played_all h9 HI.out (by rcases HI.out with h6 | h6 <;> rw [h6]; exact h8.2.2.1; exact h8.2.2.2)
    rw [HPP.out] at h7
    exact h7
   go_upto_region 9 with fail
   obtain ⟨Z, hZ⟩ : ∃ Z, W9.alloc (.cells #[.slice none 0 0] 42) = Z := ⟨_, rfl⟩
   have HTD0 : Hid (Td Z W9.heap.size (.slice (some ⟨W9.heap.size, 0, none⟩) 1 1) [(.slice none 0 0, [])]) := by rw [← hZ]; exact Td.first W9
   have HBZ : Hid (Below W9.heap.size W9 Z) := by rw [← hZ]; exact (Below.refl _ _).alloc (Nat.le_refl _) _
   rw [hZ]
   clear hZ
   go_wp2_with fail
   go_loopg [7, 39] (actsD l).length (fun g v iv wr => ∃ (k : Nat) (xs : List (Value × List ByteArray)) (T : Option Addr) (tc : Nat), k + g = (actsD l).length ∧ iv = .int .i64 (k : Int) ∧ v = .slice T xs.length tc ∧ Td wr W9.heap.size (.slice T xs.length tc) xs ∧ xs.map (·.2) = ((actsD l).take k).foldl (toldS e) [[]] ∧ Below W9.heap.size W9 wr)
   case atStart => exact ⟨0, [(.slice none 0 0, [])], _, _, Nat.zero_add _, rfl, rfl, HTD0.out, rfl, HBZ.out⟩
   case round =>
    obtain ⟨k, xs, T, tc, hk, rfl, rfl, htd, hxs, hB⟩ := hrel
    have HK := Lib.hid hk
    have HTD := Lib.hid htd
    have HXS := Lib.hid hxs
    have HBR := Lib.hid hB
    have HBRW : Hid (Below W.heap.size W wr) := HB9.out.trans (hB.mono HB9.out.size)
    have HBD := Lib.hid (told_bd e (actsD l) k (by omega))
    have HXL : Hid (xs.length = (((actsD l).take k).foldl (toldS e) [[]]).length) := by show _ = _; rw [← HXS.out, List.length_map]
    clear hk htd hxs hB
    by_cases hlt : (k : Int) < ((actsD l).length : Int)
    ·obtain ⟨d, b, o, hd, hb, hix, c0, c1, c2, c3⟩ := dd_at (c := d) (k := k) (HCW.out.below HBRW.out (Nat.le_refl _)) (by omega)
     have HD := Lib.hid hd
     have hw1 : IntKind.i64.wrap ((k : Int) + 1) = (k : Int) + 1 := wrap_ok ⟨by omega, by have := HLD.out; omega⟩
     clear hd
     go_upto_region 12 with fail
     obtain ⟨X, hX⟩ : ∃ X, wr.alloc (.cells #[.int .i64 d.do_, .int .i64 d.end_, .int .i64 d.at_, .string d.t] 65) = X := ⟨_, rfl⟩
     have HBXX : Hid (Below wr.heap.size wr X) := by rw [← hX]; exact (Below.refl _ _).alloc (Nat.le_refl _) _
     have HDX : Hid (Blk X wr.heap.size (.cells (ddC d).toArray 65)) := by rw [← hX]; exact Blk.new _ _
     have HTX := Lib.hid (HTD.out.below HBXX.out)
     rw [hX]
     clear hX c0 c1 c2 c3 hix hb
     have k9 := HDX.out
     have m0 := k9.cell 0 (v := .int .i64 d.do_) rfl
     have m1 := k9.cell 1 (v := .int .i64 d.end_) rfl
     have m2 := k9.cell 2 (v := .int .i64 d.at_) rfl
     have m3 := k9.cell 3 (v := .string d.t) rfl
     have ml := k9.lt
     clear k9
     by_cases k3 : d.do_ = 3
     ·have b3 : (d.do_ == 3) = true := beq_iff_eq.2 k3
      have b1 : (d.do_ == 1) = false := beq_eq_false_iff_ne.2 (by omega)
      by_cases ke : d.end_ = (e : Int)
      ·have be : (d.end_ == (e : Int)) = true := beq_iff_eq.2 ke
       have HST : Hid (((actsD l).take (k + 1)).foldl (toldS e) [[]] = ((actsD l).take k).foldl (toldS e) [[]] ++ [[]]) := by show _ = _; rw [told_step _ HD.out]; unfold toldS; rw [if_pos ⟨k3, ke⟩]
       clear k3 ke
       go_upto_region 14 with (at_builtin; go_must (refine wpList_app1' rTx _ rfl _ _ rfl HTX.out.row rfl [_] 1 rfl rfl (by simp [Value.oneCell']) (by have := HBD.out.2.1; have := HXL.out; have := HLD.out; omega) (by have := HBR.out.size; have := HBXX.out.size; omega) ?_); intro v6 w6 ho6 hB6 hg6 hloc6; obtain ⟨T6, c6, rfl⟩ := own_fits ho6; have HB6 := Lib.hid hB6; have HTD6 := Lib.hid (HTX.out.app (Frame.of_grown hg6) ho6); have HD6 := Lib.hid (HDX.out.grown hg6 (own_ne HTX.out.row HDX.out (by decide))); clear ho6 hB6 hg6 hloc6)
       clear m0 m1 m2 m3 ml
       have k9 := HD6.out
       have m0 := k9.cell 0 (v := .int .i64 d.do_) rfl
       have m1 := k9.cell 1 (v := .int .i64 d.end_) rfl
       have m2 := k9.cell 2 (v := .int .i64 d.at_) rfl
       have m3 := k9.cell 3 (v := .string d.t) rfl
       have ml := k9.lt
       clear k9
       go_wp2_with fail
       go_roundg ((actsD l).length - (k + 1))
       case measure => have := HK.out; omega
       case rel =>
        have hl6 : (xs ++ [((.slice none 0 0 : Value), ([] : List ByteArray))]).length = xs.length + 1 := by simp
        exact ⟨k + 1, xs ++ [(.slice none 0 0, [])], T6, c6, by omega, rfl, by rw [hl6], by rw [hl6]; exact HTD6.out, by rw [HST.out, ← HXS.out]; simp, (HBR.out.trans (HBXX.out.mono HBR.out.size)).trans (HB6.out.mono (Nat.le_refl _))⟩
      ·have be : (d.end_ == (e : Int)) = false := beq_eq_false_iff_ne.2 ke
       have HST : Hid (((actsD l).take (k + 1)).foldl (toldS e) [[]] = ((actsD l).take k).foldl (toldS e) [[]]) := by show _ = _; rw [told_step _ HD.out]; unfold toldS; rw [if_neg (fun h => ke h.2), if_neg (fun h => ke h.2)]
       clear k3 ke
       go_wp2_with fail
       go_roundg ((actsD l).length - (k + 1))
       case measure => have := HK.out; omega
       case rel => exact ⟨k + 1, xs, T, tc, by omega, rfl, rfl, HTD.out.below (HBXX.out), by rw [HST.out]; exact HXS.out, HBR.out.trans (Below.mono (HBXX.out) HBR.out.size)⟩
     ·have b3 : (d.do_ == 3) = false := beq_eq_false_iff_ne.2 k3
      by_cases k1 : d.do_ = 1
      ·have b1 : (d.do_ == 1) = true := beq_iff_eq.2 k1
       by_cases ke : d.end_ = (e : Int)
       ·have be : (d.end_ == (e : Int)) = true := beq_iff_eq.2 ke
        have HST : Hid (((actsD l).take (k + 1)).foldl (toldS e) [[]] = (((actsD l).take k).foldl (toldS e) [[]]).dropLast ++ [(((actsD l).take k).foldl (toldS e) [[]]).getLastD [] ++ [d.t]]) := by show _ = _; rw [told_step _ HD.out]; unfold toldS; rw [if_neg (fun h => k3 h.1), if_pos ⟨k1, ke⟩]
        clear k3 k1 ke
        obtain ⟨n, hn⟩ : ∃ n, n + 1 = xs.length := ⟨xs.length - 1, by have := HBD.out.1; have := HXL.out; omega⟩
        have HXN : Hid (xs.length ≤ 152) := by show _ ≤ _; have := HBD.out.2.1; have := HXL.out; have := HLD.out; omega
        have HN := Lib.hid hn
        obtain ⟨⟨xv, xt⟩, hx⟩ : ∃ x, xs[n]? = some x := ⟨_, List.getElem?_eq_getElem (by omega)⟩
        have HXT : Hid (xt.length ≤ 151) := by
         have h9 : xt ∈ ((actsD l).take k).foldl (toldS e) [[]] := by rw [← HXS.out]; exact List.mem_map.2 ⟨_, List.mem_of_getElem? hx, rfl⟩
         have h8 := HBD.out.2.2 xt h9
         have := HLD.out
         show _ ≤ _
         omega
        have hxo : wr.ownsRow W9.heap.size 9 1 xv xt.length (strs xt) := HTD.out.txt.own _ (List.mem_of_getElem? hx)
        obtain ⟨S, sc, rfl⟩ := own_fits hxo
        have HXM := Lib.hid hx
        obtain ⟨g, cur, rfl, hgb, hcu, c3⟩ := HTX.out.at_ (Nat.le_trans HXN.out (by decide)) hx
        have HCU := Lib.hid hcu
        have HGB := Lib.hid hgb
        have HC3 : Hid (X.cell? ⟨g, n, none⟩ = some (.slice S xt.length sc)) := c3
        have HXO : Hid (X.ownsRow W9.heap.size 9 1 (.slice S xt.length sc) xt.length (strs xt)) := HTX.out.txt.own _ (List.mem_of_getElem? hx)
        have NG : Hid ((Value.slice S xt.length sc).ownBlock ≠ some g) := own_ne HXO.out hcu (by decide)
        have ND : Hid ((Value.slice S xt.length sc).ownBlock ≠ some wr.heap.size) := own_ne HXO.out HDX.out (by decide)
        have HGL : Hid (g < X.heap.size) := hcu.lt
        have HSX : Hid (W9.heap.size ≤ X.heap.size) := by show _ ≤ _; have := HBR.out.size; have := HBXX.out.size; omega
        have hix : ∀ w', (Instr.indexAt 62 (.slice (some ⟨g, 0, none⟩) xs.length tc) (.int .i64 (n : Int))).run Tryd.prog w' = .ok (.pointer (some ⟨g, n, none⟩)) w' := fun w' => ix62 (by have := HN.out; omega) w'
        have hw2 : IntKind.i64.wrap ((xs.length : Int) - 1) = (n : Int) := by rw [wrap_ok ⟨by omega, by have := HXN.out; omega⟩]; have := HN.out; omega
        clear hxo hx hcu hgb c3 hn
        go_upto_region 15 with fail
        clear m0 m1 m2 m3 ml
        refine drawl (fun w' => Frame (fun b => (Value.slice S xt.length sc).ownBlock = some b) X w') 15 15 rfl (by kernel_rfl) (fun Qd hQd => ?_)
        have HRD := fun (wI : World) (hI : (fun w' => Frame (fun b => (Value.slice S xt.length sc).ownBlock = some b) X w') wI) => (have q9 := HDX.out.frame hI ND.out; have m3 := q9.cell 3 (v := .string d.t) rfl; have ml := q9.lt; have g3 := cell_frame hI HGL.out NG.out HC3.out; And.intro m3 (And.intro ml g3))
        apply anyL_step 0 (by kernel_rfl) rfl (by kernel_rfl)
        focus (intro wI hI Kv hKv; obtain ⟨m3, ml, g3⟩ := HRD wI hI; go_simp; exact hKv)
        intro Kd hKd
        go_simp
        refine hKd _ ?_
        clear hKd Kd
        apply anyL_step 1 (by kernel_rfl) rfl (by kernel_rfl)
        focus (intro wI hI Kv hKv; obtain ⟨m3, ml, g3⟩ := HRD wI hI; go_simp; exact hKv)
        intro Kd hKd
        go_simp
        refine hKd _ ?_
        clear hKd Kd
        apply anyL_step 4 (by kernel_rfl) rfl (by kernel_rfl)
        focus (intro wI hI Kv hKv; obtain ⟨m3, ml, g3⟩ := HRD wI hI; go_simp; exact hKv)
        intro Kd hKd
        go_simp
        refine hKd _ ?_
        clear hKd Kd
        apply anyL_step 5 (by kernel_rfl) rfl (by kernel_rfl)
        focus (intro wI hI Kv hKv; obtain ⟨m3, ml, g3⟩ := HRD wI hI; go_simp; exact hKv)
        intro Kd hKd
        go_simp
        refine hKd _ ?_
        clear hKd Kd
        apply anyL_step 10 (by kernel_rfl) rfl (by kernel_rfl)
        focus (intro wI hI Kv hKv; obtain ⟨m3, ml, g3⟩ := HRD wI hI; go_simp; exact hKv)
        intro Kd hKd
        go_simp
        refine hKd _ ?_
        clear hKd Kd
        apply anyL_step 2 (by kernel_rfl) rfl (by kernel_rfl)
        focus (intro wI hI Kv hKv; obtain ⟨m3, ml, g3⟩ := HRD wI hI; go_simp; exact hKv)
        intro Kd hKd
        go_simp
        refine hKd _ ?_
        clear hKd Kd
        apply anyL_step 6 (by kernel_rfl) rfl (by kernel_rfl)
        focus (intro wI hI Kv hKv; obtain ⟨m3, ml, g3⟩ := HRD wI hI; go_simp; exact hKv)
        intro Kd hKd
        go_simp
        refine hKd _ ?_
        clear hKd Kd
        apply anyL_step 11 (by kernel_rfl) rfl (by kernel_rfl)
        focus (intro wI hI Kv hKv; obtain ⟨m3, ml, g3⟩ := HRD wI hI; go_simp; exact hKv)
        intro Kd hKd
        go_simp
        refine hKd _ ?_
        clear hKd Kd
        apply anyL_step 3 (by kernel_rfl) rfl (by kernel_rfl)
        focus (intro wI hI Kv hKv; obtain ⟨m3, ml, g3⟩ := HRD wI hI; go_simp; exact hKv)
        intro Kd hKd
        go_simp
        refine hKd _ ?_
        clear hKd Kd
        apply anyL_step 7 (by kernel_rfl) rfl (by kernel_rfl)
        focus (intro wI hI Kv hKv; obtain ⟨m3, ml, g3⟩ := HRD wI hI; go_simp; exact hKv)
        intro Kd hKd
        go_simp
        refine hKd _ ?_
        clear hKd Kd
        apply anyL_step 8 (by kernel_rfl) rfl (by kernel_rfl)
        focus (intro wI hI Kv hKv; obtain ⟨m3, ml, g3⟩ := HRD wI hI; go_simp; exact hKv)
        intro Kd hKd
        go_simp
        refine hKd _ ?_
        clear hKd Kd
        apply anyL_step 9 (by kernel_rfl) rfl (by kernel_rfl)
        focus (intro wI hI Kv hKv; obtain ⟨m3, ml, g3⟩ := HRD wI hI; go_simp; exact hKv)
        intro Kd hKd
        go_simp
        refine hKd _ ?_
        clear hKd Kd
        clear HRD
        refine anyL_one 12 rfl (by kernel_rfl) ((Frame.refl _ X).drew) (fun Kd hKd => ?_)
        go_wp2
        refine anyL_one 13 rfl (by kernel_rfl) (((Frame.refl _ X).drew.alloc _)) (fun Kd hKd => ?_)
        have HOD : Hid (X.drew.ownsRow W9.heap.size 9 1 (.slice S xt.length sc) xt.length (strs xt)) := HXO.out
        go_wp2_with (at_builtin; go_must (refine wpList_app1' rSt _ rfl _ _ rfl HOD.out rfl [_] 1 rfl rfl (by simp [Value.oneCell']) (by have := HXT.out; omega) (by show W9.heap.size ≤ X.heap.size; exact HSX.out) ?_); intro v6 w6 ho6 hB6 hg6 hloc6; obtain ⟨T6, c6, rfl⟩ := own_fits ho6)
        have HG6 : Hid (Frame (fun b => (Value.slice S xt.length sc).ownBlock = some b) X w6) := (Frame.refl _ X).drew.trans (Frame.of_grown hg6) (fun _ _ h => h)
        have r0 := cell_frame HG6.out HGL.out NG.out HC3.out
        have r1 := (HCU.out.frame HG6.out NG.out).free n
        have r3 := (HCU.out.frame HG6.out NG.out).lt
        have HO6 := Lib.hid ho6
        have HL6 := Lib.hid hloc6
        have HB6 := Lib.hid hB6
        clear ho6 hB6 hg6 hloc6
        apply anyL_step 14 (by kernel_rfl) rfl (by kernel_rfl)
        focus (intro wI hI Kv hKv; go_simp; exact hKv)
        intro Kd hKd
        go_simp
        refine hKd _ ?_
        clear hKd Kd
        refine anyL_end rfl (by kernel_rfl) (HG6.out) (fun Kd hKd => ?_)
        go_wp2
        go_roundg ((actsD l).length - (k + 1))
        case measure => have := HK.out; omega
        case rel =>
         have e1 : (xt ++ [d.t]).length = xt.length + 1 := by simp
         have es9 := strs_snoc xt d.t
         have ho : w6.ownsRow W9.heap.size 9 1 (.slice T6 (xt.length + 1) c6) (xt ++ [d.t]).length (strs (xt ++ [d.t])) := by rw [e1, es9]; exact HO6.out
         have hput := HTX.out.put HXM.out HG6.out ho HL6.out
         have hmap : (xs.set n (.slice T6 (xt.length + 1) c6, xt ++ [d.t])).map (·.2) = ((actsD l).take (k + 1)).foldl (toldS e) [[]] := by
          have hl9 : (xs.map (·.2))[n]? = some xt := by rw [List.getElem?_map, HXM.out]; rfl
          rw [HST.out, ← HXS.out, last_set _ _ (fun h9 => by rw [h9] at hl9; simp at hl9), getLast_at _ _ hl9 (by rw [List.length_map]; exact HN.out), List.map_set, List.length_map]
          have h8 : xs.length - 1 = n := by have := HN.out; omega
          rw [h8]
         exact ⟨k + 1, xs.set n (.slice T6 (xt.length + 1) c6, xt ++ [d.t]), some ⟨g, 0, none⟩, tc, by omega, rfl, by rw [List.length_set], by rw [List.length_set]; exact hput, hmap, ((HBR.out.trans (HBXX.out.mono HBR.out.size)).trans ((Below.refl W9.heap.size X).drew.trans HB6.out)).setCell HGB.out _⟩
       ·have be : (d.end_ == (e : Int)) = false := beq_eq_false_iff_ne.2 ke
        have HST : Hid (((actsD l).take (k + 1)).foldl (toldS e) [[]] = ((actsD l).take k).foldl (toldS e) [[]]) := by show _ = _; rw [told_step _ HD.out]; unfold toldS; rw [if_neg (fun h => ke h.2), if_neg (fun h => ke h.2)]
        clear k3 k1 ke
        go_wp2_with fail
        go_roundg ((actsD l).length - (k + 1))
        case measure => have := HK.out; omega
        case rel => exact ⟨k + 1, xs, T, tc, by omega, rfl, rfl, HTD.out.below (HBXX.out), by rw [HST.out]; exact HXS.out, HBR.out.trans (Below.mono (HBXX.out) HBR.out.size)⟩
      ·have b1 : (d.do_ == 1) = false := beq_eq_false_iff_ne.2 k1
       have HST : Hid (((actsD l).take (k + 1)).foldl (toldS e) [[]] = ((actsD l).take k).foldl (toldS e) [[]]) := by show _ = _; rw [told_step _ HD.out]; unfold toldS; rw [if_neg (fun h => k3 h.1), if_neg (fun h => k1 h.1)]
       clear k3 k1
       go_wp2_with fail
       go_roundg ((actsD l).length - (k + 1))
       case measure => have := HK.out; omega
       case rel => exact ⟨k + 1, xs, T, tc, by omega, rfl, rfl, HTD.out.below (HBXX.out), by rw [HST.out]; exact HXS.out, HBR.out.trans (Below.mono (HBXX.out) HBR.out.size)⟩
    ·have hkl : k = (actsD l).length := by have := HK.out; omega
     obtain ⟨TL, HTL⟩ : ∃ TL, Hid ((actsD l).foldl (toldS e) [[]] = TL) := ⟨_, rfl⟩
     have HAT := HALL.out.at_
     rw [hkl, List.take_length] at HXS HBD HXL
     rw [HTL.out] at HXS HBD HXL HAT
     have HXN : Hid (xs.length ≤ 151) := by show _ ≤ _; have := HBD.out.2.1; have := HXL.out; have := HLD.out; omega
     have hlife : (P.end_ e).life = (xs.length : Int) := by rw [HXL.out]; exact HAT.1
     have HAT := Lib.hid HAT.2
     obtain ⟨W8, rfl⟩ : ∃ W8, W8 = wr := ⟨_, rfl⟩
     obtain ⟨y, yb, yo, hy, hyb, hyi, y0, y1, y2, y3, y4, y5, y6⟩ := eza (c := ce) (k := e) (HLW.out.ends.below HBRW.out (Nat.le_refl _)) (by have := HE2.out; omega)
     rw [HE2.out] at hyi
     have HEY : Hid (es[e]? = some y) := hy
     have HYV : Hid (y.v = P.end_ e ∧ y ∈ es) := by
      refine ⟨?_, List.mem_of_getElem? hy⟩
      have h9 := congrArg (fun l => l[e]?) HEV.out
      simp only [List.getElem?_map, hy, Option.map_some] at h9
      have h8 : e = 0 ∨ e = 1 := by omega
      rcases h8 with rfl | rfl
      ·injection h9
      ·injection h9
     rw [HYV.out.1, hlife] at y0
     have HXR := Lib.hid (HXW.out.below HBRW.out HXW.out.lt)
     have k9 := HXR.out
     have x0 := k9.cell 0 (v := .slice EA 2 ce) rfl
     have x1 := k9.cell 1 (v := .slice WA nw cw) rfl
     have x2 := k9.cell 2 (v := .slice TA zs.length ct) rfl
     have xl := k9.lt
     clear k9
     clear hy y1 y2 y3 y4 y5 y6 hkl HK
     go_wp2_with fail
     clear x0 x1 x2 xl y0 hyi hyb hlife
     go_loopg [91] xs.length (fun g iv wr => ∃ q : Nat, q + g = xs.length ∧ iv = .int .i64 (q : Int) ∧ Below W8.heap.size W8 wr)
     case atStart => exact ⟨0, Nat.zero_add _, rfl, Below.refl _ _⟩
     case round =>
      obtain ⟨q, hq, rfl, hB⟩ := hrel
      obtain ⟨W7, rfl⟩ : ∃ W7, W7 = wr := ⟨_, rfl⟩
      have HQ := Lib.hid hq
      have HB7 := Lib.hid hB
      clear hq hB
      have HB7W : Hid (Below W.heap.size W W7) := HBRW.out.trans (HB7.out.mono HBRW.out.size)
      by_cases hlt : (q : Int) < (xs.length : Int)
      ·have HT7 := Lib.hid (HTD.out.below HB7.out)
       obtain ⟨⟨xv, xt⟩, xb, xo, hx, hxb, hxi, hxc⟩ := tx_at (c := tc) (k := q) (Cells.of_own HT7.out.row (by rw [txs1_len]; have := HXN.out; omega)).1 (by omega)
       have hxo : W7.ownsRow W9.heap.size 9 1 xv xt.length (strs xt) := HT7.out.txt.own _ (List.mem_of_getElem? hx)
       obtain ⟨S, sc, rfl⟩ := own_fits hxo
       have HTLq : Hid (TL[q]? = some xt) := by show _ = _; rw [← HXS.out, List.getElem?_map, hx]; rfl
       have HXTL : Hid (xt.length ≤ 150) := by
        have h8 := HBD.out.2.2 xt (List.mem_of_getElem? HTLq.out)
        have := HLD.out
        show _ ≤ _
        omega
       have HXS9 : Hid (Cells W7 S (strs xt)) := (Cells.of_own hxo (by rw [strs_len]; have := HXTL.out; omega)).1
       have HCAP : Hid (xt.length ≤ sc) := own_cap hxo
       have hw1 : IntKind.i64.wrap ((q : Int) + 1) = (q : Int) + 1 := wrap_ok ⟨by omega, by have := HXN.out; omega⟩
       have HX7 := Lib.hid (HXW.out.below HB7W.out HXW.out.lt)
       have HQW := Lib.hid hw1
       have HPRE : Hid (sents (zs.map Tz.v) e ((q : Int) + 1) <+: xt) := by show _ <+: _; rw [HTV.out]; exact HAT.out.1 q xt HTLq.out
       have HSL : Hid (∀ n, (sentK zs e ((q : Int) + 1) n).length ≤ 150) := fun n => Nat.le_trans (Nat.le_trans (sentK_pre zs e _ n).length_le HPRE.out.length_le) HXTL.out
       have k9 := HX7.out
       have x0 := k9.cell 0 (v := .slice EA 2 ce) rfl
       have x1 := k9.cell 1 (v := .slice WA nw cw) rfl
       have x2 := k9.cell 2 (v := .slice TA zs.length ct) rfl
       have xl := k9.lt
       clear k9
       clear hx hxo hxb
       go_wp2_with fail
       clear x0 x1 x2 xl hxi hxc
       go_loopg [12, 99] zs.length (fun g v iv wr => ∃ n : Nat, n + g = zs.length ∧ iv = .int .i64 (n : Int) ∧ wr.ownsRow W7.heap.size 9 1 v (sentK zs e ((q : Int) + 1) n).length (strs (sentK zs e ((q : Int) + 1) n)) ∧ Below W7.heap.size W7 wr)
       case atStart => exact ⟨0, Nat.zero_add _, rfl, World.ownsRow_nil _ _ _ _, Below.refl _ _⟩
       case round =>
        obtain ⟨n, hn, rfl, hown, hB⟩ := hrel
        have HN := Lib.hid hn
        have HO := Lib.hid hown
        have HB6 := Lib.hid hB
        have HB6W : Hid (Below W.heap.size W wr) := HB7W.out.trans (hB.mono HB7W.out.size)
        obtain ⟨V9, c9, rfl⟩ := own_fits hown
        clear hn hown hB
        by_cases hlt2 : (n : Int) < (zs.length : Int)
        ·obtain ⟨z, b, o, hz, hb, hix, c0, c1, c2, c3, c4, c5⟩ := tza (c := ct) (k := n) (HLW.out.tales.below HB6W.out (Nat.le_refl _)) (by omega)
         have HZ := Lib.hid hz
         have HZI : Hid (z ∈ zs) := List.mem_of_getElem? hz
         have HZB : Hid (zs.length ≤ 100000 ∧ z.v.sent.length ≤ 100000 ∧ z.v.lost.length ≤ 100000 ∧ z.v.taken.length ≤ 100000) := by
          have h9 := (played_k (acts_played HA.out)).2.1.bulk
          rw [HPP.out] at h9
          have h8 := h9.tales
          rw [HZL.out] at h8
          have h7 := h9.txt z.v (HZM.out z HZI.out)
          show _ ∧ _ ∧ _ ∧ _
          omega
         have HZL2 : Hid (zs.length ≤ 1000000000) := by have := HZB.out.1; show _ ≤ _; omega
         have hw3 : IntKind.i64.wrap ((n : Int) + 1) = (n : Int) + 1 := wrap_ok ⟨by omega, by have := HZL2.out; omega⟩
         have HSS := Lib.hid (sentK_step (i := (e : Int)) (a := (q : Int) + 1) hz)
         clear hz
         go_upto_region 26 with fail
         obtain ⟨V, hV⟩ : ∃ V, wr.alloc (.cells #[.int .i64 z.v.end_, .int .i64 z.v.life, .int .i64 z.v.peer, .slice z.S z.v.sent.length z.cs, .slice z.L z.v.lost.length z.cl, .slice z.K z.v.taken.length z.ck] 57) = V := ⟨_, rfl⟩
         have HBVr : Hid (Below wr.heap.size wr V) := by rw [← hV]; exact (Below.refl _ _).alloc (Nat.le_refl _) _
         have HZV : Hid (Blk V wr.heap.size (.cells (tzB z) 57)) := by rw [← hV]; exact Blk.new _ _
         have HOV := Lib.hid (own_frame HO.out (Frame.of_all (S := fun _ => False) HBVr.out) (fun _ _ h => h))
         have HB6V : Hid (Below W7.heap.size W7 V) := HB6.out.trans (HBVr.out.mono HB6.out.size)
         rw [hV]
         clear hV c0 c1 c2 c3 c4 c5 hix hb
         have k9 := HZV.out
         have t0 := k9.cell 0 (v := .int .i64 (z).v.end_) rfl
         have t1 := k9.cell 1 (v := .int .i64 (z).v.life) rfl
         have t2 := k9.cell 2 (v := .int .i64 (z).v.peer) rfl
         have t3 := k9.cell 3 (v := .slice (z).S (z).v.sent.length (z).cs) rfl
         have t4 := k9.cell 4 (v := .slice (z).L (z).v.lost.length (z).cl) rfl
         have t5 := k9.cell 5 (v := .slice (z).K (z).v.taken.length (z).ck) rfl
         have tl := k9.lt
         clear k9
         obtain ⟨b1, hb1⟩ : ∃ b, (z.v.end_ == (e : Int)) = b := ⟨_, rfl⟩
         obtain ⟨b2, hb2⟩ : ∃ b, (z.v.life == (q : Int) + 1) = b := ⟨_, rfl⟩
         have HKY : Hid (keyL (e : Int) ((q : Int) + 1) z.v = (b1 && b2)) := by show _ = _; unfold keyL; rw [hb1, hb2]
         have hno : (b1 && b2) = false → sentK zs (e : Int) ((q : Int) + 1) (n + 1) = sentK zs (e : Int) ((q : Int) + 1) n := fun h9 => by rw [HSS.out, HKY.out, h9]; simp
         have HNO := Lib.hid hno
         clear hno
         cases b1 with
         | false =>
          go_wp2_with fail
          go_roundg (zs.length - (n + 1))
          case measure => have := HN.out; omega
          case rel => exact ⟨n + 1, by omega, rfl, by rw [HNO.out rfl]; exact HOV.out, HB6V.out⟩
         | true =>
          cases b2 with
          | false =>
           go_wp2_with fail
           go_roundg (zs.length - (n + 1))
           case measure => have := HN.out; omega
           case rel => exact ⟨n + 1, by omega, rfl, by rw [HNO.out rfl]; exact HOV.out, HB6V.out⟩
          | true =>
           have HYS : Hid (sentK zs (e : Int) ((q : Int) + 1) (n + 1) = sentK zs (e : Int) ((q : Int) + 1) n ++ z.v.sent) := by show _ = _; rw [HSS.out, HKY.out]; rfl
           have HCS : Hid (Cells V z.S (strs z.v.sent)) := (HLW.out.txt z HZI.out).1.below (HB7W.out.trans (HB6V.out.mono HB7W.out.size)) (Nat.le_refl _)
           have hS0 : z.S = none → z.v.sent.length = 0 := fun h9 => strs_none (by rw [← h9]; exact HCS.out)
           have h1 := HSL.out (n + 1)
           rw [HYS.out, List.length_append] at h1
           have HSZ := Lib.hid (HB6V.out.size)
           go_upto_region 28 with (at_builtin; go_must (refine wpList_appN0 rSt _ rfl _ _ rfl HOV.out rfl z.S z.v.sent.length z.cs (strs z.v.sent) rfl hS0 HCS.out (by rw [strs_len, Nat.mul_one]) (stC_one _) (by omega) HSZ.out ?_); intro v6 w6 ho6 hB6 hg6 hl6; obtain ⟨T6, c6, rfl⟩ := own_fits ho6; have HO6 := Lib.hid ho6; have HBW6 := Lib.hid (HB6V.out.trans hB6); clear ho6 hB6 hg6 hl6)
           go_wp2_with fail
           go_roundg (zs.length - (n + 1))
           case measure => have := HN.out; omega
           case rel => exact ⟨n + 1, by omega, rfl, by rw [HYS.out, List.length_append, strs_app]; exact HO6.out, HBW6.out⟩
        ·have hnl : n = zs.length := by have := HN.out; omega
         obtain ⟨SQ, HSQ⟩ : ∃ SQ, Hid (sentK zs e ((q : Int) + 1) n = SQ) := ⟨_, rfl⟩
         have HPR : Hid (SQ <+: xt) := by show _ <+: _; rw [← HSQ.out]; exact (sentK_pre zs _ _ _).trans HPRE.out
         have HSE : Hid (sents P.tales e ((q : Int) + 1) = SQ) := by show _ = _; rw [← HSQ.out, sentK_all _ _ _ hnl, HTV.out]
         have HPRE := HPR
         rw [HSQ.out] at HO ⊢
         clear HSL HSQ hnl HN
         have hw4 := HQW.out
         obtain ⟨W6, rfl⟩ : ∃ W6, W6 = wr := ⟨_, rfl⟩
         by_cases hla : q + 1 = xs.length
         ·have b8 : ((q : Int) + 1 == (xs.length : Int)) = true := beq_iff_eq.2 (by omega)
          have HLA := Lib.hid hla
          obtain ⟨y2, yb, yo, hy, hyb, hyi, y0, y1, y2', y3, y4, y5, y6⟩ := eza (c := ce) (k := e) (HLW.out.ends.below HB6W.out (Nat.le_refl _)) (by have := HE2.out; omega)
          rw [HE2.out] at hyi
          rw [HEY.out] at hy
          injection hy with hy
          subst hy
          have HX6 := Lib.hid (HXW.out.below HB6W.out HXW.out.lt)
          have k9 := HX6.out
          have x0 := k9.cell 0 (v := .slice EA 2 ce) rfl
          have x1 := k9.cell 1 (v := .slice WA nw cw) rfl
          have x2 := k9.cell 2 (v := .slice TA zs.length ct) rfl
          have xl := k9.lt
          clear k9
          clear hla
          go_upto_region 31 with fail
          obtain ⟨Y, hY⟩ : ∃ Y, W6.alloc (.cells #[.int .i64 y.v.life, .int .i64 y.v.peer, .int .i64 y.v.phase, .int .i64 y.v.base, .slice y.A y.v.out.length y.c, .int .i64 y.v.want, .slice y.D y.v.inn.length y.d] 38) = Y := ⟨_, rfl⟩
          have HBY : Hid (Below W6.heap.size W6 Y) := by rw [← hY]; exact (Below.refl _ _).alloc (Nat.le_refl _) _
          have HYY : Hid (Blk Y W6.heap.size (.cells #[.int .i64 y.v.life, .int .i64 y.v.peer, .int .i64 y.v.phase, .int .i64 y.v.base, .slice y.A y.v.out.length y.c, .int .i64 y.v.want, .slice y.D y.v.inn.length y.d] 38)) := by rw [← hY]; exact Blk.new _ _
          have HOL : Hid (y.v.out.length ≤ 1000) := by
           have h9 := (good_iff.1 (HSF.out.ok.good e)).len
           rw [← HYV.out.1] at h9
           show _ ≤ _
           omega
          have HEN := Lib.hid (HLW.out.en y HYV.out.2)
          rw [hY]
          clear hY hyi hyb y0 y1 y2' y3 y4 y5 y6 x0 x1 x2 xl b8 hw4
          obtain ⟨rn, hrn⟩ : ∃ rn, y.v.out.length - flyN y.v = rn := ⟨_, rfl⟩
          have hcut := cut_run (A := y.A) (n := y.v.out.length) (c := y.c) (g := flyN y.v) (fly_le y.v).1 HEN.out.cap
          rw [hrn] at hcut
          obtain ⟨RO, HRO⟩ : ∃ RO, Hid (y.v.out.drop (flyN y.v) = RO) := ⟨_, rfl⟩
          have HRN : Hid (RO.length = rn) := by show _ = _; rw [← HRO.out, List.length_drop, hrn]
          have HRB : Hid (rn ≤ 1000) := by show _ ≤ _; have := HOL.out; omega
          clear hrn
          refine draw (fun w' => Below Y.heap.size Y w') 7 rfl (by kernel_rfl) (fun Qd hQd => ?_)
          have HRD := fun (wI : World) (hI : (fun w' => Below Y.heap.size Y w') wI) => (have k9 := HYY.out.below hI HYY.out.lt; have s0 := k9.cell 0 (v := .int .i64 y.v.life) rfl; have s1 := k9.cell 1 (v := .int .i64 y.v.peer) rfl; have s2 := k9.cell 2 (v := .int .i64 y.v.phase) rfl; have s3 := k9.cell 3 (v := .int .i64 y.v.base) rfl; have s4 := k9.cell 4 (v := .slice y.A y.v.out.length y.c) rfl; have s5 := k9.cell 5 (v := .int .i64 y.v.want) rfl; have s6 := k9.cell 6 (v := .slice y.D y.v.inn.length y.d) rfl; have sl := k9.lt; And.intro s0 (And.intro s1 (And.intro s2 (And.intro s3 (And.intro s4 (And.intro s5 (And.intro s6 sl)))))))
          apply anyI_step 0 rfl (by kernel_rfl)
          focus (intro wI hI Kv hKv; obtain ⟨s0, s1, s2, s3, s4, s5, s6, sl⟩ := HRD wI hI; go_simp; exact hKv)
          intro Kd hKd
          go_simp
          refine hKd _ ?_
          clear hKd Kd
          apply anyI_step 2 rfl (by kernel_rfl)
          focus (intro wI hI Kv hKv; obtain ⟨s0, s1, s2, s3, s4, s5, s6, sl⟩ := HRD wI hI; go_simp; exact hKv)
          intro Kd hKd
          go_simp
          refine hKd _ ?_
          clear hKd Kd
          apply anyI_step 6 rfl (by kernel_rfl)
          focus (intro wI hI Kv hKv; obtain ⟨s0, s1, s2, s3, s4, s5, s6, sl⟩ := HRD wI hI; go_simp; exact hKv)
          intro Kd hKd
          go_simp
          refine hKd _ ?_
          clear hKd Kd
          apply anyI_step 1 rfl (by kernel_rfl)
          focus (intro wI hI Kv hKv; obtain ⟨s0, s1, s2, s3, s4, s5, s6, sl⟩ := HRD wI hI; go_simp; exact hKv)
          intro Kd hKd
          go_simp
          refine hKd _ ?_
          clear hKd Kd
          clear HRD
          refine anyI_one' 3 rfl (by kernel_rfl) ((Below.refl _ _).drew) (fun Kd hKd => ?_)
          go_wp2_with (go_at_call 17; go_must (refine (flying2_any y.v y.A y.c y.D y.d _ HOL.out).mono ?_); rintro r w5 ⟨rfl, hB5⟩)
          have HB5 : Hid (Below Y.heap.size Y w5) := below_in (Below.refl _ Y).drew hB5
          clear hB5
          apply anyI_step 4 rfl (by kernel_rfl)
          focus (intro wI hI Kv hKv; go_simp; exact hKv)
          intro Kd hKd
          go_simp
          refine hKd _ ?_
          clear hKd Kd
          apply anyI_step 5 rfl (by kernel_rfl)
          focus (intro wI hI Kv hKv; go_simp; exact hKv)
          intro Kd hKd
          go_simp
          refine hKd _ ?_
          clear hKd Kd
          refine anyI_end (by kernel_rfl) (HB5.out) (hQd _ _ ?_)
          clear hQd Qd
          have HB5W : Hid (Below W7.heap.size W7 w5) := HB6.out.trans ((HBY.out.mono HB6.out.size).trans (HB5.out.mono (Nat.le_trans HB6.out.size HBY.out.size)))
          have HO5 : Hid (w5.ownsRow W7.heap.size 9 1 (.slice V9 SQ.length c9) SQ.length (strs SQ)) := own_frame (own_frame HO.out (Frame.of_all (S := fun _ => False) HBY.out) (fun _ _ h => h)) (Frame.of_all (S := fun _ => False) HB5.out) (fun _ _ h => h)
          go_wp2_with fail
          clear hcut
          go_loopg [12, 135] rn (fun g v iv wr => ∃ n : Nat, n + g = rn ∧ iv = .int .i64 (n : Int) ∧ wr.ownsRow W7.heap.size 9 1 v (restK SQ RO n).length (strs (restK SQ RO n)) ∧ Below W7.heap.size W7 wr)
          case atStart => exact ⟨0, Nat.zero_add _, rfl, by rw [restK_zero]; exact HO5.out, HB5W.out⟩
          case round =>
           obtain ⟨n, hn, rfl, hown, hB⟩ := hrel
           have HN := Lib.hid hn
           have HO4 := Lib.hid hown
           have HB4 := Lib.hid hB
           have HB4W : Hid (Below W.heap.size W wr) := HB7W.out.trans (hB.mono HB7W.out.size)
           obtain ⟨V4, c4, rfl⟩ := own_fits hown
           clear hn hown hB
           by_cases hlt3 : (n : Int) < (rn : Int)
           ·have hcc := cut_cells (g := flyN y.v) HEN.out.at_.out (fly_le y.v).1 HEN.out.cap
            rw [HRO.out] at hcc
            obtain ⟨o, b, f, ho, hb, hix, c0, c1⟩ := ou_at (c := y.c - flyN y.v) (k := n) (hcc.below HB4W.out (Nat.le_refl _)) (by have := HRN.out; omega)
            rw [HRN.out] at hix
            have HRS := Lib.hid (restK_step (S := SQ) ho)
            have HRL := Lib.hid (restK_len SQ RO n)
            have hw5 : IntKind.i64.wrap ((n : Int) + 1) = (n : Int) + 1 := wrap_ok ⟨by omega, by have := HRB.out; omega⟩
            clear hcc ho
            go_upto_region 34 with fail
            obtain ⟨Z, hZ⟩ : ∃ Z, wr.alloc (.cells #[.string o.t, .bool o.h] 53) = Z := ⟨_, rfl⟩
            have HBZ4 : Hid (Below wr.heap.size wr Z) := by rw [← hZ]; exact (Below.refl _ _).alloc (Nat.le_refl _) _
            have hzz : Blk Z wr.heap.size (.cells #[.string o.t, .bool o.h] 53) := by rw [← hZ]; exact Blk.new _ _
            have HOZ := Lib.hid (own_frame HO4.out (Frame.of_all (S := fun _ => False) HBZ4.out) (fun _ _ h => h))
            have HB4Z : Hid (Below W7.heap.size W7 Z) := HB4.out.trans (HBZ4.out.mono HB4.out.size)
            have HSZ4 := Lib.hid HB4Z.out.size
            rw [hZ]
            clear hZ c0 c1 hix hb
            have g0 := hzz.cell 0 (v := .string o.t) rfl
            have gl := hzz.lt
            clear hzz
            go_upto_region 35 with (at_builtin; go_must (refine wpList_app1' rSt _ rfl _ _ rfl HOZ.out rfl [_] 1 rfl rfl (by simp [Value.oneCell']) (by have := HRL.out; have := HPRE.out.length_le; have := HXTL.out; have := HRN.out; have := HRB.out; omega) HSZ4.out ?_); intro v6 w6 ho6 hB6 hg6 hl6; obtain ⟨T6, c6, rfl⟩ := own_fits ho6; have HO6 := Lib.hid ho6; have HBW6 := Lib.hid (HB4Z.out.trans hB6); clear ho6 hB6 hg6 hl6)
            go_wp2_with fail
            go_roundg (rn - (n + 1))
            case measure => have := HN.out; omega
            case rel => exact ⟨n + 1, by have := HN.out; omega, rfl, by rw [HRS.out, List.length_append, strs_snoc]; exact HO6.out, HBW6.out⟩
           ·have hall : restK SQ RO n = xt := by
             rw [restK_all _ _ (by have := HRN.out; have := HN.out; omega), ← HRO.out, ← HSE.out, ← HAT.out.2 q xt HTLq.out (by rw [HLA.out]; exact HXL.out), ← HYV.out.1]
             rfl
            rw [hall] at HO4 ⊢
            clear hall
            have HC4 := Lib.hid (Cells.of_own HO4.out (by rw [strs_len]; have := HXTL.out; omega)).1
            have HC5 := Lib.hid (HXS9.out.below HB4.out (Nat.le_refl _))
            have HEQ := equal_any V4 c4 xt S sc xt wr HC4.out HC5.out
            rw [decide_eq_true rfl] at HEQ
            have HEQ := Lib.hid HEQ
            go_wp2_with fail
            refine HEQ.out.mono ?_
            rintro r w3 ⟨rfl, hB3⟩
            have HB3 : Hid (Below W7.heap.size W7 w3) := HB4.out.trans (hB3.mono HB4.out.size)
            have HO3 := Lib.hid (own_frame HO4.out (Frame.of_all (S := fun _ => False) hB3) (fun _ _ h => h))
            clear hB3
            go_wp2_with fail
            have HCP := Lib.hid (Cells.of_own HO3.out (by rw [strs_len]; have := HXTL.out; have := HPRE.out.length_le; omega)).1
            have HCX := Lib.hid (HXS9.out.below HB3.out (Nat.le_refl _))
            refine (begins_any V4 c4 xt S sc xt w3 HCP.out HCX.out HCAP.out).mono ?_
            rintro r w8 ⟨rfl, hB8⟩
            rw [begB_pre (List.prefix_refl xt)]
            have HB8 := Lib.hid hB8
            clear hB8
            go_wp2_with fail
            go_roundg (xs.length - (q + 1))
            case measure => have := HQ.out; omega
            case rel => exact ⟨q + 1, by have := HQ.out; omega, rfl, (HB7.out.trans (Below.mono HB3.out HB7.out.size)).trans (HB8.out.mono (Below.size (HB7.out.trans (Below.mono HB3.out HB7.out.size))))⟩
         ·have b8 : ((q : Int) + 1 == (xs.length : Int)) = false := beq_eq_false_iff_ne.2 (by omega)
          clear hla
          go_wp2_with fail
          have HCP := Lib.hid (Cells.of_own HO.out (by rw [strs_len]; have := HXTL.out; have := HPRE.out.length_le; omega)).1
          have HCX := Lib.hid (HXS9.out.below HB6.out (Nat.le_refl _))
          refine (begins_any V9 c9 SQ S sc xt W6 HCP.out HCX.out HCAP.out).mono ?_
          rintro r w8 ⟨rfl, hB8⟩
          rw [begB_pre HPRE.out]
          have HB8 := Lib.hid hB8
          clear hB8
          go_wp2_with fail
          go_roundg (xs.length - (q + 1))
          case measure => have := HQ.out; omega
          case rel => exact ⟨q + 1, by have := HQ.out; omega, rfl, (HB7.out.trans (Below.mono HB6.out HB7.out.size)).trans (HB8.out.mono (Below.size (HB7.out.trans (Below.mono HB6.out HB7.out.size))))⟩
      ·go_wp2_with fail
       go_roundg (2 - (e + 1))
       case measure => have := HE.out; omega
       case rel => exact ⟨e + 1, by have := HE.out; omega, rfl, HBRW.out.trans (HB7.out.mono HBRW.out.size)⟩
  ·go_wp2_with fail
   refine (works_any W9).mono ?_
   rintro r w9 ⟨rfl, hB9⟩
   go_wp2
   go_ret
   exact ⟨rfl, HB90.out.trans (hB9.mono HB90.out.size)⟩
end Go.Proofs.YtejabnoidhlfaaaDoor

/- Arguments: what comes in reads as lists. -/
namespace Go.Proofs.YtejabnoidhlfaaaDoor
open Go.RowKit Go.ChangeShapes Go.WideShapes Go.ChangeAt

section
variable {H : Type} {enc : TypeId × Value → H} {P : Program} {w : World}

/-- Each slice, string and map in it is within reach. -/
def sz (P : Program) (t : TypeId) (d : DataW H) : Prop := ∀ n ∈ d.weights P t, n ≤ reachBytes

theorem weightsAll_mem {e : TypeId} : ∀ {ds : List (DataW H)} {d : DataW H} {n : Nat}, d ∈ ds → n ∈ d.weights P e → n ∈ DataW.weightsAll P e ds
 | [], _, _, h, _ => by cases h
 | d0 :: ds, d, n, h, hn => by
  simp only [DataW.weightsAll, List.mem_append]
  rcases List.mem_cons.1 h with rfl | h
  ·exact .inl hn
  ·exact .inr (weightsAll_mem h hn)
theorem sz_elem {t e : TypeId} {xs ys : List (DataW H)} {d : DataW H} (ht : P.underlying t = some (.slice e)) (h : sz P t (.slice xs ys)) (hd : d ∈ xs ∨ d ∈ ys) : sz P e d := by
 intro n hn
 refine h n ?_
 simp only [DataW.weights, ht]
 refine List.mem_cons_of_mem _ (List.mem_append.2 ?_)
 rcases hd with hd | hd
 ·exact .inl (weightsAll_mem hd hn)
 ·exact .inr (weightsAll_mem hd hn)
theorem sz_len {t e : TypeId} {xs ys : List (DataW H)} (ht : P.underlying t = some (.slice e)) (h : sz P t (.slice xs ys)) : (xs.length + ys.length) * P.bytesOf e ≤ reachBytes := by
 refine h _ ?_
 simp only [DataW.weights, ht]
 exact List.mem_cons_self ..

theorem list_of {α : Type} {p : Nat → α → Prop} : ∀ n : Nat, (∀ i, i < n → ∃ x, p i x) → ∃ xs : List α, xs.length = n ∧ ∀ i x, xs[i]? = some x → p i x
 | 0, _ => ⟨[], rfl, by simp⟩
 | n + 1, h => by
  obtain ⟨xs, hl, hx⟩ := list_of n fun i hi => h i (by omega)
  obtain ⟨y, hy⟩ := h n (by omega)
  refine ⟨xs ++ [y], by simp [hl], fun i x hi => ?_⟩
  rcases Nat.lt_or_ge i n with h1 | h1
  ·rw [List.getElem?_append_left (by omega)] at hi
   exact hx i x hi
  ·rw [List.getElem?_append_right (by omega), hl] at hi
   obtain rfl : i = n := by
    have := (List.getElem?_eq_some_iff.1 hi).1
    simp at this; omega
   simp at hi
   subst hi
   exact hy
theorem add_at (b off j : Nat) : (⟨b, off, none⟩ : Addr).add j = ⟨b, off + j, none⟩ := by
 unfold Addr.add
 by_cases h : j = 0
 ·simp [h]
 ·simp [h]
theorem cell_block {a : Addr} {v : Value} (h : w.cell? a = some v) : a.block < w.heap.size := by
 rcases Nat.lt_or_ge a.block w.heap.size with hlt | hge
 ·exact hlt
 ·exfalso
  have e : w.heap[a.block]? = none := Array.getElem?_eq_none hge
  unfold World.cell? at h
  rw [e] at h
  cases h

/-- A slice whose elements read as f says. -/
theorem open_elems {α : Type} {t e : TypeId} {k bytes : Nat} (f : α → List Value) (Q : α → Prop) (hf : ∀ x, (f x).length = k) (ht : P.underlying t = some (.slice e)) (hc : P.cellsOf e = k) (hb : P.bytesOf e = bytes) (hkb : k * 8 ≤ bytes) (hk : 0 < k)
  (rdE : ∀ fuel cs d p, DataW.trod enc P w 0 (fun _ => true) true fuel e cs = some (d, p) → sz P e d → ∃ x, cs = f x ∧ Q x)
  {fuel : Nat} {v : Value} {d : DataW H} {p : List MemPlace} (h : DataW.trod enc P w 0 (fun _ => true) true fuel t [v] = some (d, p)) (hs : sz P t d) :
  ∃ (A : Option Addr) (xs : List α) (c : Nat), v = .slice A xs.length c ∧ Cells w A (xs.flatMap f) ∧ (∀ x ∈ xs, Q x) ∧ (A = none → xs = [] ∧ c = 0) := by
 rcases Go.Deep.open_slice ht h with ⟨hcs, _⟩ | ⟨a, len, cap, m, n, D, Pl, hcs, _, hl, hm, hmm, hx, hE⟩
 ·injection hcs with hcs _
  exact ⟨none, [], 0, hcs, Cells.nil _ _, fun x hx => (by cases hx), fun _ => ⟨rfl, rfl⟩⟩
 ·injection hcs with hcs _
  obtain rfl : m = cap := by simpa using hmm
  injection hx with hd _
  subst hd
  have hlen := sz_len ht hs
  simp only [List.length_map, List.length_range] at hlen
  rw [hb, Nat.add_sub_cancel' hl] at hlen
  have hel : ∀ i, i < len → ∃ x, w.cells? 0 (a.add (i * k)) k = some (f x) ∧ Q x := by
   intro i hi
   obtain ⟨cs', h1, h2⟩ := hE i (by omega)
   rw [hc] at h1
   obtain ⟨x, rfl, hq⟩ := rdE _ _ _ _ h2 (sz_elem ht hs (.inl (List.mem_map.2 ⟨i, List.mem_range.2 hi, rfl⟩)))
   exact ⟨x, h1, hq⟩
  obtain ⟨xs, hxl, hxs⟩ := list_of len hel
  have hcellx : ∀ i x j u, xs[i]? = some x → (f x)[j]? = some u → w.cell? (a.add (i * k + j)) = some u := by
   intro i x j u hi hj
   obtain ⟨_, _, hcell⟩ := World.cells?_some (hxs i x hi).1
   have hjk : j < k := by rw [← hf x]; exact (List.getElem?_eq_some_iff.1 hj).1
   rw [← Go.Deep.add_add, hcell j hjk, hj]
  refine ⟨some a, xs, m, by rw [hxl]; exact hcs, ?_, fun x hx => ?_, fun h => (by cases h)⟩
  ·have hbound : (xs.flatMap f).length ≤ 17592186043904 := by
    rw [flat_len hf, hxl]
    have h1 : len * (k * 8) ≤ len * bytes := Nat.mul_le_mul_left _ hkb
    have h2 : len * bytes ≤ m * bytes := Nat.mul_le_mul_right _ hl
    have h3 : len * k * 8 = len * (k * 8) := Nat.mul_assoc _ _ _
    unfold reachBytes at hlen
    omega
   cases hxe : xs with
   | nil =>
    exact ⟨by simp, 0, 0, by omega, fun hn => absurd rfl hn, fun k v hv => by simp at hv⟩
   | cons x0 xr =>
    have h0 : xs[0]? = some x0 := by rw [hxe]; rfl
    obtain ⟨u, hu⟩ : ∃ u, (f x0)[0]? = some u := ⟨_, List.getElem?_eq_getElem (by rw [hf]; exact hk)⟩
    have hc0 := hcellx 0 x0 0 u h0 hu
    rw [Nat.zero_mul, Nat.zero_add] at hc0
    have ha0 : a.add 0 = a := by unfold Addr.add; simp
    rw [ha0] at hc0
    have hsp := World.cell?_spot hc0
    have hbk := cell_block hc0
    obtain ⟨b, off, spot⟩ := a
    simp only at hsp hbk
    subst hsp
    rw [← hxe]
    refine ⟨hbound, b, off, by omega, fun _ => ⟨rfl, hbk⟩, fun j v hv => ?_⟩
    have hjl : j < (xs.flatMap f).length := (List.getElem?_eq_some_iff.1 hv).1
    rw [flat_len hf] at hjl
    have hj : j = (j / k) * k + j % k := by rw [Nat.mul_comm]; exact (Nat.div_add_mod j k).symm
    have hjm : j % k < k := Nat.mod_lt _ hk
    rw [hj, flat_get hf xs (j / k) (j % k) hjm] at hv
    obtain ⟨x, hx1, hx2⟩ := Option.bind_eq_some_iff.1 hv
    have := hcellx _ _ _ _ hx1 hx2
    rw [← hj, add_at] at this
    exact this
  ·obtain ⟨i, hi, rfl⟩ := List.mem_iff_getElem.1 hx
   exact (hxs i _ (List.getElem?_eq_getElem hi)).2
end
end Go.Proofs.YtejabnoidhlfaaaDoor

/- The Door laws' arguments: deeds by numbers, of which the first 150 are read, and orders. -/
namespace Go.Proofs.YtejabnoidhlfaaaDoor
open Go.RowKit Go.ChangeShapes Go.WideShapes Go.ChangeAt

section
variable {H : Type} {enc : TypeId × Value → H} {P : Program} {w : World}
/-- A slice of which the first M elements read as f says. -/
theorem open_pre {α : Type} {t e : TypeId} {k M : Nat} (f : α → List Value) (Q : α → Prop) (hf : ∀ x, (f x).length = k) (ht : P.underlying t = some (.slice e)) (hc : P.cellsOf e = k) (hk : 0 < k) (hM : M * k ≤ 17592186043904)
  (rdE : ∀ fuel cs d p, DataW.trod enc P w 0 (fun _ => true) true fuel e cs = some (d, p) → ∃ x, cs = f x ∧ Q x)
  {fuel : Nat} {v : Value} {d : DataW H} {p : List MemPlace} (h : DataW.trod enc P w 0 (fun _ => true) true fuel t [v] = some (d, p)) :
  ∃ (A : Option Addr) (xs : List α) (n c : Nat), v = .slice A n c ∧ xs.length = min n M ∧ Cells w A (xs.flatMap f) ∧ (∀ x ∈ xs, Q x) ∧ n ≤ c := by
 rcases Go.Deep.open_slice ht h with ⟨hcs, _⟩ | ⟨a, len, cap, m, n, D, Pl, hcs, _, hl, hm, hmm, hx, hE⟩
 ·injection hcs with hcs _
  exact ⟨none, [], 0, 0, hcs, by simp, Cells.nil _ _, fun x hx => (by cases hx), Nat.le_refl _⟩
 ·injection hcs with hcs _
  obtain rfl : m = cap := by simpa using hmm
  have hel : ∀ i, i < min len M → ∃ x, w.cells? 0 (a.add (i * k)) k = some (f x) ∧ Q x := by
   intro i hi
   obtain ⟨cs', h1, h2⟩ := hE i (by omega)
   rw [hc] at h1
   obtain ⟨x, rfl, hq⟩ := rdE _ _ _ _ h2
   exact ⟨x, h1, hq⟩
  obtain ⟨xs, hxl, hxs⟩ := list_of (min len M) hel
  have hcellx : ∀ i x j u, xs[i]? = some x → (f x)[j]? = some u → w.cell? (a.add (i * k + j)) = some u := by
   intro i x j u hi hj
   obtain ⟨_, _, hcell⟩ := World.cells?_some (hxs i x hi).1
   have hjk : j < k := by rw [← hf x]; exact (List.getElem?_eq_some_iff.1 hj).1
   rw [← Go.Deep.add_add, hcell j hjk, hj]
  refine ⟨some a, xs, len, m, hcs, hxl, ?_, fun x hx => ?_, hl⟩
  ·have hbound : (xs.flatMap f).length ≤ 17592186043904 := by
    rw [flat_len hf, hxl]
    have h1 : min len M * k ≤ M * k := Nat.mul_le_mul_right _ (Nat.min_le_right _ _)
    omega
   cases hxe : xs with
   | nil =>
    exact ⟨by simp, 0, 0, by omega, fun hn => absurd rfl hn, fun k v hv => by simp at hv⟩
   | cons x0 xr =>
    have h0 : xs[0]? = some x0 := by rw [hxe]; rfl
    obtain ⟨u, hu⟩ : ∃ u, (f x0)[0]? = some u := ⟨_, List.getElem?_eq_getElem (by rw [hf]; exact hk)⟩
    have hc0 := hcellx 0 x0 0 u h0 hu
    rw [Nat.zero_mul, Nat.zero_add] at hc0
    have ha0 : a.add 0 = a := by unfold Addr.add; simp
    rw [ha0] at hc0
    have hsp := World.cell?_spot hc0
    have hbk := cell_block hc0
    obtain ⟨b, off, spot⟩ := a
    simp only at hsp hbk
    subst hsp
    rw [← hxe]
    refine ⟨hbound, b, off, by omega, fun _ => ⟨rfl, hbk⟩, fun j v hv => ?_⟩
    have hjl : j < (xs.flatMap f).length := (List.getElem?_eq_some_iff.1 hv).1
    rw [flat_len hf] at hjl
    have hj : j = (j / k) * k + j % k := by rw [Nat.mul_comm]; exact (Nat.div_add_mod j k).symm
    have hjm : j % k < k := Nat.mod_lt _ hk
    rw [hj, flat_get hf xs (j / k) (j % k) hjm] at hv
    obtain ⟨x, hx1, hx2⟩ := Option.bind_eq_some_iff.1 hv
    have := hcellx _ _ _ _ hx1 hx2
    rw [← hj, add_at] at this
    exact this
  ·obtain ⟨i, hi, rfl⟩ := List.mem_iff_getElem.1 hx
   exact (hxs i _ (List.getElem?_eq_getElem hi)).2
end
section
variable {H : Type} {enc : TypeId × Value → H} {w : World}
theorem c5d : Tryd.prog.cellsOf 5 = 1 := by kernel_rfl
theorem c79d : Tryd.prog.cellsOf 79 = 2 := by kernel_rfl
theorem c3d : Tryd.prog.cellsOf 3 = 1 := by kernel_rfl
theorem rdU8 (fuel : Nat) (cs : List Value) (d : DataW H) (p : List MemPlace) (h : DataW.trod enc Tryd.prog w 0 (fun _ => true) true fuel 5 cs = some (d, p)) : ∃ x : Int, cs = [.int .u8 x] ∧ 0 ≤ x ∧ x ≤ 255 := by
 obtain ⟨n, hc, _, hw⟩ := DataW.trod_int Tryd.underlying5 h
 simp [Lit.wf] at hw
 have e1 : IntKind.u8.min = 0 := rfl
 have e2 : IntKind.u8.max = 255 := rfl
 exact ⟨n, hc, by omega, by omega⟩
theorem rdI3 (fuel : Nat) (cs : List Value) (d : DataW H) (p : List MemPlace) (h : DataW.trod enc Tryd.prog w 0 (fun _ => true) true fuel 3 cs = some (d, p)) : ∃ x : Int, cs = [.int .i64 x] ∧ True := by
 obtain ⟨n, hc, _, hw⟩ := DataW.trod_int Tryd.underlying3 h
 exact ⟨n, hc, trivial⟩
theorem two_cells {cs : List Value} (h : cs.length = 2) : ∃ a b, cs = [a, b] := by
 match cs, h with
 | [a, b], _ => exact ⟨a, b, rfl⟩
set_option maxRecDepth 100000 in
theorem rdAc (fuel : Nat) (cs : List Value) (d : DataW H) (p : List MemPlace) (h : DataW.trod enc Tryd.prog w 0 (fun _ => true) true fuel 79 cs = some (d, p)) : ∃ x : Ac, cs = acC x ∧ AcOk x := by
 obtain ⟨y0, y1, n, _, hl, h0, h1⟩ := trod_struct2 Tryd.underlying79 h
 rw [c79d] at hl
 obtain ⟨a, b, rfl⟩ := two_cells hl
 simp only [c5d, List.drop_zero, List.take_succ_cons, List.take_zero, List.drop_succ_cons] at h0 h1
 obtain ⟨x, hx, x1, x2⟩ := rdU8 _ _ _ _ h0
 obtain ⟨y, hy, y1, y2⟩ := rdU8 _ _ _ _ h1
 injection hx with hx _
 injection hy with hy _
 subst hx hy
 exact ⟨⟨x, y⟩, rfl, x1, x2, y1, y2⟩
variable {r : Reach} {b0 : Nat}
set_option maxRecDepth 100000 in
theorem arg_acts {v : Value} {d : DataW H} {p : List MemPlace} (hv : Value.okWide Tryd.prog w r b0 22 v) (h : DataW.Trod enc Tryd.prog w 0 (fun _ => true) true 22 v d p) :
  ∃ (A : Option Addr) (xs : List Ac) (n c : Nat), v = .slice A n c ∧ xs.length = min n 150 ∧ Cells w A (acs xs) ∧ (∀ x ∈ xs, AcOk x) ∧ n ≤ c := by
 obtain ⟨a0, len, cap, rfl⟩ := okWide_slice Tryd.underlying22 hv
 obtain ⟨fuel, hf⟩ := h
 exact open_pre (M := 150) acC AcOk (fun _ => rfl) Tryd.underlying22 c79d (by decide) (by omega) (fun _ _ _ _ h => rdAc _ _ _ _ h) hf
theorem ints_flat : ∀ xs : List Int, ints xs = xs.flatMap fun x : Int => [Value.int .i64 x]
 | [] => rfl
 | x :: xs => by rw [List.flatMap_cons, ← ints_flat xs]; rfl
set_option maxRecDepth 100000 in
theorem arg_ints {v : Value} {d : DataW H} {p : List MemPlace} (hv : Value.okWide Tryd.prog w r b0 23 v) (h : DataW.Trod enc Tryd.prog w 0 (fun _ => true) true 23 v d p) :
  ∃ (A : Option Addr) (xs : List Int) (n c : Nat), v = .slice A n c ∧ xs.length = min n 200 ∧ Cells w A (ints xs) ∧ n ≤ c := by
 obtain ⟨a0, len, cap, rfl⟩ := okWide_slice Tryd.underlying23 hv
 obtain ⟨fuel, hf⟩ := h
 obtain ⟨A, xs, n, c, h1, h2, h3, _, h5⟩ := open_pre (k := 1) (M := 200) (fun x : Int => [Value.int .i64 x]) (fun _ => True) (fun _ => rfl) Tryd.underlying23 c3d (by decide) (by omega) (fun _ _ _ _ h => rdI3 _ _ _ _ h) hf
 refine ⟨A, xs, n, c, h1, h2, ?_, h5⟩
 rw [ints_flat]; exact h3
end
/-- The card's condition gives the table. -/
theorem pow_of {w : World} (h : laidMetH Tryd.prog Rows.sessOrderRow.laid w) : Pow w := by
 rw [MakeChecks.laidMetH_plain _ _ _ (by kernel_rfl)] at h
 exact Lib.tabIs_of_head (g := 0) (t := 133) (e := 75) (n := 20) (by kernel_rfl) (by kernel_rfl) (by kernel_rfl) (by kernel_rfl) (by kernel_rfl) (by kernel_rfl) h.tail.tail
end Go.Proofs.YtejabnoidhlfaaaDoor

/- SessAll returns true at every list of deeds by numbers, and leaves its argument as it was. No condition but the card's own. -/
namespace Go.Proofs.YtejabnoidhlfaaaDoor
open Go.ChangeShapes Go.WideShapes Go.ChangeAt Go.RowKit

theorem own_all : ownKnob Tryd.prog.godebug = none := by kernel_rfl
theorem laid_all : laidOutB Tryd.prog = true := by kernel_rfl
/-- The heap that the initialisers leave meets the condition. -/
theorem met_all (os : Os) (args : Array Value) : laidMetH Tryd.prog Rows.sessAllRow.laid ((World.doorLaid Tryd.prog 400 os).forCall (fun _ _ => 0) ⟨#[], args, []⟩).memory :=
 laidMetH_of_parts3 (fuel := 8) (laidMet_of_run' 8 (by kernel_rfl) (by kernel_rfl)) (by kernel_rfl) (by kernel_rfl)

set_option maxRecDepth 100000 in
theorem lifted_all (os : Os) (started : os.Started) (H : Type) (enc : TypeId × Value → H) :
  ReturnsInHanded {} Tryd.checked os 6 .any (fun w args => (Rows.sessAllSpec.pre enc Tryd.prog Tryd.f6 [] false w args ∧ laidMetH Tryd.prog Rows.sessAllRow.laid w) ∧ sizedMet enc Tryd.prog Tryd.f6 (OpenSpec.ofChange Rows.sessAllSpec) false w args)
   (Rows.sessAllSpec.post enc Tryd.prog Tryd.f6 false true false false) := by
 refine returnsInHanded_of_change_and (C := Tryd.checked) (X := fun w _ => laidMetH Tryd.prog Rows.sessAllRow.laid w) (fun _ _ _ hh h => h.of_heap hh) own_all started (by kernel_rfl) Tryd.func6
  (ChangeSpec.witness_shaped (enc := enc) (C := Tryd.checked) (os := os) (X := fun w _ => laidMetH Tryd.prog Rows.sessAllRow.laid w) false (World.doorLaid Tryd.prog 400 os) #[.slice none 0 0] 8 rfl (World.shaped_of_RefB (by kernel_rfl) (by kernel_rfl)) (by kernel_rfl) (by kernel_rfl) (by kernel_rfl) (met_all os _)) ?_
 intro W base args ds gs before hval0 hW _ _ hL _
 have hval : ∀ (j : Nat) t v, Tryd.f6.params[j]? = some t → args[j]? = some v → Value.okWide Tryd.prog W .any base t v := hval0
 have hW' := hW
 obtain ⟨p, q, hA0, hV, rfl, hfz, hnd⟩ := hW
 have hA : DataW.TrodAll enc Tryd.prog W 0 (fun _ => true) true Tryd.f6.params.toList args.toList ds p := hA0
 rw [Tryd.params6] at hA hval
 obtain ⟨v0, vs0, d0, ds0, p0, q0, hargs, rfl, rfl, h0, r0⟩ := trodAll_cons hA
 obtain ⟨rfl, rfl, rfl⟩ := trodAll_nil r0
 obtain rfl : args = #[v0] := by cases args; simp_all
 obtain ⟨rfl, rfl⟩ := trodVars_none hV
 have k0 := h0
 have lt0 : ∀ x ∈ p0, x.block < W.heap.size := by obtain ⟨m, hm⟩ := k0; exact DataW.trod_lt m _ _ _ hm
 obtain ⟨A0, l0, n0, c0, rfl, hl0, hC0, ha0, hc0⟩ := arg_acts (hval 0 22 v0 rfl rfl) h0
 have hpow : Pow W := pow_of hL
 clear hA0 hval0
 refine (walk_all A0 c0 n0 l0 W hC0 hl0 hc0 ha0 hpow).mono fun e W' ⟨he, bel⟩ => ?_
 subst he
 exact ⟨_, rfl, _, _, _, [], _, [], hW', trodAll_mk1 (shut_bool Tryd.underlying4 _), (trodAll_cons_mk (Below.trod laid_all (by kernel_rfl) (of_decide_eq_true (by kernel_rfl)) k0 bel lt0) trodAll_mk0), rfl, bel.frame _, fun h => by cases h⟩

theorem all_said : Rows.SessAllSaid :=
 OpenClaim.holds_of_wide 6 Tryd.f6 rfl rfl rfl rfl rfl rfl rfl ⟨rfl, rfl, rfl, rfl, rfl⟩ rfl rfl rfl rfl rfl (by kernel_rfl) Tryd.func6 (by kernel_rfl)
  (of_decide_eq_true (by kernel_rfl)) (by unfold Func.isWrapper; first | (rw [if_pos (by decide +kernel)]; kernel_rfl) | (rw [if_neg (by decide +kernel)]; exact ⟨rfl, rfl⟩))
  (fun os started H enc _ => lifted_all os started H enc)
theorem all_holds : Rows.SessAllCardSaid :=
 Claim7.holds_tied_plain_at .later [] [.data, .data, .data] true Rows.sessAllCard.stood.harness false
  all_said (fun _ h => by cases h) (by kernel_rfl) (fun _ h => by cases h) sessAll_row_tie rfl ⟨rfl, rfl⟩ (by kernel_rfl) rfl
  (fun f fn hf hfn => by
   obtain rfl : f = 6 := Option.some.inj ((show Tryd.prog.funcNamed Rows.sessAllRow.func = some 6 by kernel_rfl).symm.trans hf) |>.symm
   obtain rfl : fn = Tryd.f6 := (Option.some.inj (Tryd.func6.symm.trans hfn)).symm
   exact ⟨by kernel_rfl, fun j t ht => by
    rw [Tryd.params6] at ht
    have h3 : t = 22 := by
     rcases j with _ | j
     ·simpa using ht.symm
     ·simp at ht
    subst h3
    exact (show Tryd.prog.wantsStandIn 22 = false by kernel_rfl)
    ⟩)
  (by kernel_rfl)
#print axioms all_holds
end Go.Proofs.YtejabnoidhlfaaaDoor
