/- Contract: Tick. -/
import Derived.Test.YtejabnoidhlfaaaDoorS22

/- Contract: Tick. -/
namespace Go.Proofs.YtejabnoidhlfaaaDoor
open Go.RowKit Go.Maps

theorem freeIx_app : ∀ (l m : List Ou) (i : Nat), freeIx i (l ++ m) = freeIx i l ++ freeIx (i + l.length) m
 | [], m, i => by simp [freeIx]
 | x :: l, m, i => by
  have ih := freeIx_app l m (i + 1)
  simp only [List.cons_append, freeIx, List.length_cons]
  rw [ih, show i + 1 + l.length = i + (l.length + 1) by omega]
  split <;> simp
theorem freeIx_in : ∀ (l : List Ou) (i j : Nat), j ∈ freeIx i l → i ≤ j ∧ j < i + l.length
 | [], i, j, h => by simp [freeIx] at h
 | x :: l, i, j, h => by
  simp only [freeIx] at h
  rw [List.length_cons]
  split at h
  ·have := freeIx_in l (i + 1) j h
   omega
  ·rcases List.mem_cons.1 h with rfl | h
   ·omega
   ·have := freeIx_in l (i + 1) j h
    omega
theorem freeIx_len (l : List Ou) (i : Nat) : (freeIx i l).length ≤ l.length := by
 induction l generalizing i with
 | nil => simp [freeIx]
 | cons x l ih =>
  simp only [freeIx]
  have := ih (i + 1)
  split
  ·rw [List.length_cons]; omega
  ·rw [List.length_cons, List.length_cons]; omega
theorem freeIx_held {l : List Ou} {k : Nat} {x : Ou} (h : l[k]? = some x) (hh : x.h = true) : freeIx 0 (l.take (k + 1)) = freeIx 0 (l.take k) := by
 rw [take_succ_of h, freeIx_app]
 simp [freeIx, hh]
theorem freeIx_free {l : List Ou} {k : Nat} {x : Ou} (h : l[k]? = some x) (hh : x.h = false) : freeIx 0 (l.take (k + 1)) = freeIx 0 (l.take k) ++ [k] := by
 have hk := (List.getElem?_eq_some_iff.1 h).1
 rw [take_succ_of h, freeIx_app, List.length_take]
 simp [freeIx, hh]
 omega
theorem ints_nats_snoc (l : List Nat) (k : Nat) : ints (nats (l ++ [k])) = ints (nats l) ++ [.int .i64 (k : Int)] := by simp [ints, nats]

set_option maxRecDepth 100000 in
set_option maxHeartbeats 8000000 in
theorem tick_any (e : En) (A : Option Addr) (c : Nat) (Bi : Option Addr) (d : Nat) (w : World) (h : EnAt w e A Bi) (hA0 : A = none → e.out.length = 0 ∧ c = 0) :
  Calls Tryd.prog 10 #[enV e A c Bi d] w fun r w' => ∃ v, r = .returned (.tuple #[v, .int .i64 (tickA e).2]) ∧ w'.ownsRow w.heap.size 49 7 v (tickA e).1.length (pks (tickA e).1) ∧ Below w.heap.size w w' := by
 have HE := Lib.hid h
 clear h
 unfold enV
 go_enter Tryd.func10, Tryd.ntmps10
 go_wp2_with fail
 obtain ⟨W, hW⟩ : ∃ W, w.alloc (.cells #[.int .i64 e.life, .int .i64 e.peer, .int .i64 e.phase, .int .i64 e.base, .slice A e.out.length c, .int .i64 e.want, .slice Bi e.inn.length d] 38) = W := ⟨_, rfl⟩
 rw [hW]
 have HB0 : Hid (Below w.heap.size w W) := by rw [← hW]; exact (Below.refl _ w).alloc (Nat.le_refl _) _
 have hsW : W.heap.size = w.heap.size + 1 := by rw [← hW]; simp
 have HK1 : Hid (Blk W w.heap.size (.cells (enB e A c Bi d) 38)) := by rw [← hW]; exact Blk.new _ _
 clear hW
 refine (fine_any e A c Bi d W (HE.out.below HB0.out)).mono ?_
 rintro r w1 ⟨rfl, hB1⟩
 have HBZ := Lib.hid hB1
 clear hB1
 obtain ⟨bg, hbg⟩ : ∃ b, Hid (goodB e = b) := ⟨_, rfl⟩
 rw [hbg.out]
 cases bg with
 | false =>
  have HAG : Hid (tickA e = ([], 2)) := by show _ = _; unfold tickA; rw [if_pos hbg.out]
  go_wp2
  go_ret2
  rw [HAG.out]
  exact ⟨_, rfl, World.ownsRow_nil _ _ _ _, HB0.out.trans (HBZ.out.mono (by omega))⟩
 | true =>
  have HG : Hid (GoodP e) := good_iff.1 hbg.out
  have h1 := HK1.out.below HBZ.out (by omega)
  have x0 := h1.cell 0 (v := .int .i64 e.life) rfl
  have x1 := h1.cell 1 (v := .int .i64 e.peer) rfl
  have x2 := h1.cell 2 (v := .int .i64 e.phase) rfl
  have x3 := h1.cell 3 (v := .int .i64 e.base) rfl
  have x4 := h1.cell 4 (v := .slice A e.out.length c) rfl
  have x5 := h1.cell 5 (v := .int .i64 e.want) rfl
  have x6 := h1.cell 6 (v := .slice Bi e.inn.length d) rfl
  have xl := h1.lt
  clear h1
  go_wp2_with fail
  refine (open_any e A c Bi d w1 (HE.out.below (HB0.out.trans (HBZ.out.mono (by omega)))) HG.out hA0).mono ?_
  rintro r w3 ⟨bx, bm, A1, c1, rfl, hX3, ho3, hbx, hbm, hB3⟩
  clear x0 x1 x2 x3 x4 x5 x6 xl
  have HX := Lib.hid hX3
  have HB3 : Hid (Below w.heap.size w w3) := HB0.out.trans ((below_in HBZ.out hB3).mono (by omega))
  have HA1 : Hid (A1 = none → e.out.length = 0) := fun hn => by
   have h2 := own_cap ho3
   have h3 := own_nil ho3 hn
   omega
  have hlen := HG.out.len
  have hs3 := HB3.out.size
  have c2 := hX3.box.cell 2 (v := .int .i64 e.phase) rfl
  have lb := hX3.box.lt
  obtain ⟨vi, hvi⟩ : ∃ vi, Value.slice Bi e.inn.length d = vi := ⟨_, rfl⟩
  rw [hvi] at HX
  clear hX3 ho3 hB3 hvi
  by_cases hp : e.phase = 3
  ·have q0 : (e.phase != 3) = false := by simpa using hp
   obtain ⟨F, HF⟩ : ∃ F, Hid (flyN e = F) := ⟨_, rfl⟩
   have HAG : Hid (tickA e = ((freeIx 0 (e.out.take F)).map (dataA e) ++ [reportA e], 0)) := by show _ = _; unfold tickA; rw [if_neg (by rw [hbg.out]; decide), if_neg (by simpa using hp), HF.out]
   clear hp
   have hfl := fly_le e
   rw [HF.out] at hfl
   go_wp2_with (first
    | (go_at_call 26; go_must (refine (sent_any bx bm e A1 c1 vi w3 HX.out HA1.out (by omega)).mono ?_); rintro r w4 ⟨⟨A', rfl, hC'⟩, rfl⟩; rw [HF.out]; rw [HF.out] at hC')
    | fail)
   have HC := Lib.hid hC'
   clear hC'
   have HTL : Hid ((e.out.take F).length = F) := by show _ = _; rw [List.length_take]; omega
   go_wp2
   go_loopw [25, 5] (fun i vo wr => ∃ k : Nat, k ≤ F ∧ i = .int .i64 k ∧ wr.ownsRow w3.heap.size 3 1 vo (freeIx 0 ((e.out.take F).take k)).length (ints (nats (freeIx 0 ((e.out.take F).take k)))) ∧ Below w3.heap.size w3 wr) (fun i _ _ => F - (intOf i).toNat)
   case atStart => exact ⟨0, Nat.zero_le _, rfl, World.ownsRow_nil _ _ _ _, Below.refl _ _⟩
   case round =>
    obtain ⟨k, hk, rfl, hown, hB⟩ := hrel
    have HO := Lib.hid hown
    have HB := Lib.hid hB
    have hsr := hB.size
    clear hown hB
    by_cases hlt : k < F
    ·obtain ⟨x, b, o, hx, hb, hix, hc0, hc1⟩ := ou_at (c := F) (k := k) (HC.out.below HB.out (Nat.le_refl _)) (by rw [HTL.out]; exact hlt)
     rw [HTL.out] at hix
     have HXK := Lib.hid hx
     clear hx
     have hql : Hid ((freeIx 0 ((e.out.take F).take k)).length ≤ k) := Nat.le_trans (freeIx_len _ _) (by rw [List.length_take]; omega)
     cases hh : x.h with
     | true =>
      have HST := Lib.hid (freeIx_held HXK.out hh)
      rw [hh] at hc1
      obtain ⟨Q, HQ⟩ : ∃ Q, Hid (freeIx 0 ((e.out.take F).take k) = Q) := ⟨_, rfl⟩
      rw [HQ.out] at HO HST hql
      go_wp2
      go_roundw
      case rel => exact ⟨k + 1, by omega, by go_num, by rw [HST.out]; exact HO.out.alloc _, HB.out.alloc (by omega) _⟩
      case measure => simp [intOf]; omega
     | false =>
      have HST := Lib.hid (freeIx_free HXK.out hh)
      rw [hh] at hc1
      obtain ⟨Q, HQ⟩ : ∃ Q, Hid (freeIx 0 ((e.out.take F).take k) = Q) := ⟨_, rfl⟩
      rw [HQ.out] at HO HST hql
      have HOX := Lib.hid (HO.out.alloc (.cells #[.string x.t, .bool false] 53))
      have HBX : Hid (Below w3.heap.size w3 (wr.alloc (.cells #[.string x.t, .bool false] 53))) := HB.out.alloc (by omega) _
      have hql2 := hql.out
      go_wp2_with (at_builtin; go_must (refine wpList_app1' rInt _ rfl _ _ rfl HOX.out rfl [_] 1 (by rw [World.size_alloc]; rfl) rfl (by simp [Value.oneCell']) (by omega) (by simp; omega) ?_); intro v' w2 hown2 hB2 hg2 hloc2)
      go_roundw
      case rel =>
       refine ⟨k + 1, by omega, by go_num, ?_, HBX.out.trans hB2⟩
       rw [HST.out, ints_nats_snoc, List.length_append]
       exact hown2
      case measure => simp [intOf]; omega
    ·obtain rfl : k = F := by omega
     have HTT : Hid ((e.out.take k).take k = e.out.take k) := by show _ = _; rw [List.take_take, Nat.min_self]
     rw [HTT.out] at HO
     obtain ⟨Q, HQ⟩ : ∃ Q, Hid (freeIx 0 (e.out.take k) = Q) := ⟨_, rfl⟩
     have hql : Q.length ≤ k := by rw [← HQ.out]; exact Nat.le_trans (freeIx_len _ _) (by rw [List.length_take]; omega)
     have HQI : Hid (∀ i ∈ Q, i < e.out.length) := by
      show ∀ i ∈ Q, _
      intro i hi
      rw [← HQ.out] at hi
      have := freeIx_in _ _ _ hi
      rw [List.length_take] at this
      omega
     rw [HQ.out] at HO HAG
     obtain ⟨vA, vc, rfl⟩ := own_fits HO.out
     have HCS : Hid (Cells wr vA (ints (nats Q))) := (Cells.of_own HO.out (by simp [ints, nats]; omega)).1
     go_wp2_with fail
     refine (each_data bx bm e A1 c1 vi vA vc Q wr (HX.out.below HB.out) HCS.out HG.out HQI.out (by omega)).mono ?_
     rintro r w5 ⟨v5, rfl, ho5, hB5⟩
     have HO5 := Lib.hid ho5
     have HB5 : Hid (Below w3.heap.size w3 w5) := below_in HB.out hB5
     have hs5 := HB5.out.size
     have hs5r := hB5.size
     clear ho5 hB5
     go_wp2_with fail
     refine (report_any bx bm e A1 c1 vi w5 (HX.out.below HB5.out) HG.out.want).mono ?_
     rintro r w6 ⟨rfl, hB6⟩
     unfold pkV
     have HB6 := Lib.hid hB6
     have HO6 := Lib.hid (own_frame HO5.out (Frame.of_all (S := fun _ => False) hB6) (fun _ _ h => h))
     have hs6 := HB6.out.size
     clear hB6
     go_wp2_with (at_builtin; go_must (refine wpList_app1' rPk _ rfl _ _ rfl HO6.out rfl [_, _, _, _, _, _, _] 1 rfl rfl (by simp [Value.oneCell']) (by omega) (by omega) ?_); intro v' w7 hown7 hB7 hg7 hloc7)
     go_ret2
     rw [HAG.out]
     refine ⟨_, rfl, ?_, ((HB3.out.trans (HB5.out.mono (by omega))).trans (HB6.out.mono (by omega))).trans (hB7.mono (by omega))⟩
     rw [List.length_append, List.length_map, pks_snoc]
     exact own_mono hown7 (by omega)
  ·have q0 : (e.phase != 3) = true := by simpa using hp
   have HAG : Hid (tickA e = ([helloA e], 0)) := by show _ = _; unfold tickA; rw [if_neg (by rw [hbg.out]; decide), if_pos hp]
   clear hp
   go_wp2_with fail
   refine (hello_any bx bm e A1 c1 vi w3 HX.out).mono ?_
   rintro r w5 ⟨rfl, hB5⟩
   unfold pkV
   have HB5 := Lib.hid hB5
   have hs5 := HB5.out.size
   clear hB5
   go_wp2
   go_ret2
   rw [HAG.out]
   refine ⟨_, rfl, ?_, (HB3.out.trans (HB5.out.mono (by omega))).alloc (by omega) _⟩
   exact ⟨rfl, .inr ⟨w5.heap.size, 1, _, rfl, by omega, Blk.new _ _, Nat.le_refl _, by unfold maxLen; omega, rfl, rfl⟩⟩
end Go.Proofs.YtejabnoidhlfaaaDoor
