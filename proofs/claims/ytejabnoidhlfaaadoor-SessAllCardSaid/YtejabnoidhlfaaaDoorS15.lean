/- Contracts: from, each. -/
import Derived.Test.YtejabnoidhlfaaaDoorS11
import Derived.Test.YtejabnoidhlfaaaDoorS14

/- Contracts: each over data, from. -/
namespace Go.Proofs.YtejabnoidhlfaaaDoor
open Go.RowKit Go.Maps

def nats (l : List Nat) : List Int := l.map fun (i : Nat) => (i : Int)
theorem nats_len (l : List Nat) : (nats l).length = l.length := by simp [nats]
set_option maxRecDepth 100000 in
set_option maxHeartbeats 8000000 in
theorem each_data (bx bm : Nat) (e : En) (A : Option Addr) (c : Nat) (vi : Value) (L : Option Addr) (d : Nat) (l : List Nat) (w : World) (h : Xs w bx bm e A c vi) (hL : Cells w L (ints (nats l))) (hg : GoodP e) (hi : ∀ i ∈ l, i < e.out.length) (hl : l.length ≤ 1000) :
  Calls Tryd.prog 27 #[.slice L l.length d, .func (.func 28) #[.pointer (some ⟨bx, 0, none⟩)] #[]] w fun r w' => ∃ v, r = .returned v ∧ w'.ownsRow w.heap.size 49 7 v l.length (pks (l.map (dataA e))) ∧ Below w.heap.size w w' := by
 have HX := Lib.hid h
 have HL := Lib.hid hL
 have HI := Lib.hid hi
 have hw := hg.want
 have hb : 0 ≤ e.base ∧ e.base ≤ most := ⟨hg.base, by have := hg.room; omega⟩
 have hlen := hg.len
 have HG := Lib.hid hg
 clear h hL hi hg
 go_enter Tryd.func27, Tryd.ntmps27
 go_wp2
 go_loopw [5, 10] (fun vo i wr => ∃ k : Nat, k ≤ l.length ∧ i = .int .i64 k ∧ wr.ownsRow w.heap.size 49 7 vo k (pks ((l.take k).map (dataA e))) ∧ Below w.heap.size w wr) (fun _ i _ => l.length - (intOf i).toNat)
 case atStart => exact ⟨0, Nat.zero_le _, rfl, World.ownsRow_nil _ _ _ _, Below.refl _ _⟩
 case round =>
  obtain ⟨k, hk, rfl, hown, hB⟩ := hrel
  have HO := Lib.hid hown
  have HB := Lib.hid hB
  have hsr := hB.size
  clear hown hB
  by_cases hlt : k < l.length
  ·have hnl := nats_len l
   obtain ⟨x, b, o, hr, hbx, hix, hcx⟩ := ints_at (c := d) (HL.out.below HB.out (Nat.le_refl _)) Tryd.underlying23 szInt (k := k) (by rw [hnl]; exact hlt)
   rw [hnl] at hix
   have hy : l[k]? = some l[k] := List.getElem?_eq_getElem hlt
   obtain ⟨y, hyl⟩ : ∃ y, l[k] = y := ⟨_, rfl⟩
   rw [hyl] at hy
   have hxy : x = (y : Int) := by
    unfold nats at hr
    rw [List.getElem?_map, hy] at hr
    simpa using hr.symm
   subst hxy
   have hyo := HI.out y (List.mem_of_getElem? hy)
   have HT : Hid (pks ((l.take (k + 1)).map (dataA e)) = pks ((l.take k).map (dataA e)) ++ [.int .i64 (dataA e y).kind, .int .i64 (dataA e y).frm, .int .i64 (dataA e y).to, .int .i64 (dataA e y).num, .string (dataA e y).t, .int .i64 (dataA e y).ack, .int .i64 (dataA e y).held]) := by
    show _ = _
    rw [take_succ_of hy, List.map_append, List.map_cons, List.map_nil, pks_snoc]
   clear hr hy hyl
   go_wp2_with (first
    | (go_at_call 28; go_must (refine (data_any bx bm e A c vi y wr (HX.out.below HB.out) hw hb hyo (by omega)).mono ?_); rintro r w1 ⟨rfl, hB1⟩; unfold pkV; have HB1 := Lib.hid hB1; have HO1 := Lib.hid (own_frame HO.out (Frame.of_all (S := fun _ => False) hB1) (fun _ _ h => h)); have hs1 := hB1.size; clear hB1)
    | (at_builtin; go_must (refine wpList_app1' rPk _ rfl _ _ rfl HO1.out rfl [_, _, _, _, _, _, _] 1 rfl rfl (by simp [Value.oneCell']) (by omega) (by omega) ?_); intro v' w2 hown2 hB2 hg2 hloc2))
   go_roundw
   case rel =>
    refine ⟨k + 1, by omega, by go_num, by rw [HT.out]; exact hown2, (HB.out.trans (HB1.out.mono (by omega))).trans hB2⟩
   case measure => simp [intOf]; omega
  ·obtain rfl : k = l.length := by omega
   go_wp2
   go_ret
   have ho := HO.out
   rw [List.take_length] at ho
   exact ⟨_, rfl, ho, HB.out⟩
theorem range_drop (n k : Nat) : (List.range n).drop k = List.range' k (n - k) := by
 apply List.ext_getElem
 ·simp
 ·intro i h1 h2
  simp
set_option maxRecDepth 100000 in
set_option maxHeartbeats 8000000 in
theorem from_any (bx bm : Nat) (e : En) (A : Option Addr) (c : Nat) (vi : Value) (i0 : Nat) (w : World) (h : Xs w bx bm e A c vi) (hA0 : A = none → e.out.length = 0) (hg : GoodP e) (hi0 : i0 ≤ 100) :
  Calls Tryd.prog 35 #[.pointer (some ⟨bx, 0, none⟩), .int .i64 i0] w fun r w' => ∃ v, r = .returned v ∧ w'.ownsRow w.heap.size 49 7 v (fromA e i0).length (pks (fromA e i0)) ∧ Below w.heap.size w w' := by
 have HX := Lib.hid h
 have hlen := hg.len
 have HG := Lib.hid hg
 have hf := fly_le e
 clear h hg
 go_enter Tryd.func35, Tryd.ntmps35
 go_wp2
 go_loopw [1, 5] (fun i vo wr => ∃ m : Nat, (m = 0 ∨ i0 + m ≤ flyN e) ∧ i = .int .i64 (i0 + m : Nat) ∧ wr.ownsRow w.heap.size 3 1 vo m (ints (nats (List.range' i0 m))) ∧ Below w.heap.size w wr) (fun i _ _ => flyN e - (intOf i).toNat)
 case atStart => exact ⟨0, .inl rfl, rfl, World.ownsRow_nil _ _ _ _, Below.refl _ _⟩
 case round =>
  obtain ⟨m, hm, rfl, hown, hB⟩ := hrel
  have HO := Lib.hid hown
  have HB := Lib.hid hB
  have hsr := hB.size
  have hmb : m ≤ 12 := by omega
  clear hown hB
  obtain ⟨F, HF⟩ : ∃ F, Hid (flyN e = F) := ⟨_, rfl⟩
  obtain ⟨j, hj⟩ : ∃ j, i0 + m = j := ⟨_, rfl⟩
  rw [HF.out] at hf hm
  rw [HF.out, hj]
  have hj100 : j ≤ 112 := by omega
  by_cases hlt : j < F
  ·go_wp2_with (first
    | (go_at_call 26; go_must (refine (sent_any bx bm e A c vi wr (HX.out.below HB.out) hA0 (by omega)).mono ?_); rintro r w1 ⟨⟨A', rfl, hC'⟩, rfl⟩; rw [HF.out])
    | (at_builtin; go_must (refine wpList_app1' rInt _ rfl _ _ rfl HO.out rfl [_] 1 rfl rfl (by simp [Value.oneCell']) (by omega) (by omega) ?_); intro v' w2 hown2 hB2 hg2 hloc2))
   go_roundw
   case rel =>
    refine ⟨m + 1, .inr (by omega), by (rw [show i0 + (m + 1) = j + 1 by omega]; go_num), ?_, HB.out.trans hB2⟩
    have e1 : nats (List.range' i0 (m + 1)) = nats (List.range' i0 m) ++ [(j : Int)] := by
     unfold nats
     rw [List.range'_concat, List.map_append]
     simp [← hj]
    rw [e1]
    have e2 : ints (nats (List.range' i0 m) ++ [(j : Int)]) = ints (nats (List.range' i0 m)) ++ [.int .i64 (j : Int)] := by simp [ints]
    rw [e2]
    exact hown2
   case measure => simp [intOf]; omega
  ·have hnl : (List.range' i0 m).length = m := by simp
   have hfr : Hid (fromA e i0 = (List.range' i0 m).map (dataA e)) := by
    show _ = _
    unfold fromA
    rw [range_drop, HF.out]
    congr 1
    congr 1
    omega
   obtain ⟨vA, vc, rfl⟩ := own_fits HO.out
   have hcs := (Cells.of_own HO.out (by simp [ints, nats]; omega)).1
   have HCS := Lib.hid hcs
   clear hcs
   go_wp2_with (first
    | (go_at_call 26; go_must (refine (sent_any bx bm e A c vi wr (HX.out.below HB.out) hA0 (by omega)).mono ?_); rintro r w1 ⟨⟨A', rfl, hC'⟩, rfl⟩; rw [HF.out])
    | fail)
   have hE := each_data bx bm e A c vi vA vc (List.range' i0 m) wr (HX.out.below HB.out) HCS.out HG.out (fun i hi => by rw [List.mem_range'_1] at hi; omega) (by rw [hnl]; omega)
   rw [hnl] at hE
   refine hE.mono ?_
   rintro r w2 ⟨v2, rfl, ho2, hB2⟩
   have HO2 := Lib.hid ho2
   have HB2 := Lib.hid hB2
   clear ho2 hB2 hE
   go_wp2
   go_ret
   refine ⟨v2, rfl, ?_, HB.out.trans (HB2.out.mono (by omega))⟩
   rw [hfr.out, List.length_map, hnl]
   exact own_mono HO2.out (by omega)
end Go.Proofs.YtejabnoidhlfaaaDoor
