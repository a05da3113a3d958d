/- Contracts of the reference: Twin, Tick. -/
import Derived.Test.YtejabnoidhlfaaaS50
import Derived.Test.YtejabnoidhlfaaaS23

/- Contract of the reference: Twin. -/
namespace Go.Proofs.Ytejabnoidhlfaaa
open Go.RowKit Go.Maps

set_option maxRecDepth 100000 in
set_option maxHeartbeats 8000000 in
theorem twin_any (e : En) (A : Option Addr) (c : Nat) (D : Option Addr) (d : Nat) (w : World) (h : EnAt w e A D) (hA : A = none → e.out.length = 0 ∧ c = 0) (hD : D = none → e.inn.length = 0 ∧ d = 0) (hlo : e.out.length ≤ 1000) (hli : e.inn.length ≤ 1000) :
    Calls Try.prog 44 #[enV e A c D d] w fun r w' => ∃ A' c' D' d', r = .returned (enV e A' c' D' d') ∧ w'.ownsRow w.heap.size 71 2 (.slice A' e.out.length c') e.out.length (ous e.out) ∧ w'.ownsRow w.heap.size 73 2 (.slice D' e.inn.length d') e.inn.length (ims e.inn) ∧ Below w.heap.size w w' := by
  have HE := Lib.hid h
  clear h
  unfold enV
  go_enter Try.func44, Try.ntmps44
  go_upto_region 1 with fail
  obtain ⟨W, hW⟩ : ∃ W, (w.alloc (.cells #[.int .i64 e.life, .int .i64 e.peer, .int .i64 e.phase, .int .i64 e.base, .slice A e.out.length c, .int .i64 e.want, .slice D e.inn.length d] 26)).alloc (.cells #[.int .i64 0, .int .i64 0, .int .i64 0, .int .i64 0, .slice none 0 0, .int .i64 0, .slice none 0 0] 26) = W := ⟨_, rfl⟩
  have HBW : Hid (Below w.heap.size w W) := by rw [← hW]; exact ((Below.refl _ w).alloc (Nat.le_refl _) _).alloc (by simp) _
  have HKW : Hid (Blk W w.heap.size (.cells (enB e A c D d) 26)) := by rw [← hW]; exact (Blk.new _ _).alloc _
  have HRW : Hid (Blk W (w.heap.size + 1) (.cells (enB noEn none 0 none 0) 26)) := by
    rw [← hW]
    have e1 := Blk.new (w.alloc (.cells (enB e A c D d) 26)) (.cells (enB noEn none 0 none 0) 26)
    rw [World.size_alloc] at e1
    exact e1
  rw [hW]
  clear hW
  have q9 := HKW.out
  have x4 := q9.cell 4 (v := .slice A e.out.length c) rfl
  have x6 := q9.cell 6 (v := .slice D e.inn.length d) rfl
  have xl := q9.lt
  clear q9
  have HO1 : Hid (W.ownsRow W.heap.size 71 2 (.slice none 0 0) 0 []) := World.ownsRow_nil _ _ _ _
  have HC1 := Lib.hid (HE.out.below HBW.out).out
  go_upto_region 2 with (at_builtin; go_must (refine wpList_appN rOu _ rfl _ _ rfl HO1.out rfl A e.out.length c (ous e.out) rfl hA HC1.out (ous_len _) (ouC_one _) (by omega) (Nat.le_refl _) ?_); intro v1 w1 hown1 hB1 hg1 hloc1; rw [Nat.zero_add, List.nil_append] at hown1; obtain ⟨A1, c1, rfl⟩ := own_fits hown1; have HK1 := Lib.hid (HKW.out.below hB1 HKW.out.lt); have HB1 := Lib.hid hB1; have HO2 := Lib.hid hown1; have f4 := HK1.out.free 4; have k4 := HK1.out.cell 4 (v := .slice A e.out.length c) rfl; have fl := HK1.out.lt; clear hown1 hB1 hg1 hloc1)
  clear x4 x6 xl
  obtain ⟨V, hV⟩ : ∃ V, w1.setCell ⟨w.heap.size, 4, none⟩ (.slice A1 e.out.length c1) = V := ⟨_, rfl⟩
  have HKV : Hid (Blk V w.heap.size (.cells (enB e A1 c1 D d) 26)) := by rw [← hV]; exact HK1.out.set 4 _
  have HFV : Hid (Frame (fun b => b = w.heap.size) w1 V) := by rw [← hV]; exact (Frame.refl (fun b => b = w.heap.size) w1).setCell (p := ⟨w.heap.size, 4, none⟩) (.inl rfl) _
  have HO3 : Hid (V.ownsRow W.heap.size 71 2 (.slice A1 e.out.length c1) e.out.length (ous e.out)) := own_frame HO2.out HFV.out (fun g hg e2 => own_ne HO2.out HK1.out (by decide) (by rw [hg, e2]))
  have HBV : Hid (Below w.heap.size w V) := by rw [← hV]; exact (HBW.out.trans (HB1.out.mono HBW.out.size)).setCell (Nat.le_refl _) _
  have HRV : Hid (Blk V (w.heap.size + 1) (.cells (enB noEn none 0 none 0) 26)) := (HRW.out.below HB1.out HRW.out.lt).frame HFV.out (by show ¬ _ = _; omega)
  have HSV : Hid (W.heap.size ≤ V.heap.size) := by have h1 := HB1.out.size; have h2 := HFV.out.size; show _ ≤ _; omega
  rw [hV]
  clear hV
  have HO4 : Hid (V.ownsRow V.heap.size 73 2 (.slice none 0 0) 0 []) := World.ownsRow_nil _ _ _ _
  have HC2 := Lib.hid (HE.out.below HBV.out).inn
  have q9 := HKV.out
  have x6 := q9.cell 6 (v := .slice D e.inn.length d) rfl
  have xl := q9.lt
  clear q9
  go_upto_region 3 with (at_builtin; go_must (refine wpList_appN rIm _ rfl _ _ rfl HO4.out rfl D e.inn.length d (ims e.inn) rfl hD HC2.out (ims_len _) (imC_one _) (by omega) (Nat.le_refl _) ?_); intro v2 w2 hown2 hB2 hg2 hloc2; rw [Nat.zero_add, List.nil_append] at hown2; obtain ⟨D1, d1, rfl⟩ := own_fits hown2; have HK2 := Lib.hid (HKV.out.below hB2 HKV.out.lt); have HB2 := Lib.hid hB2; have HO5 := Lib.hid hown2; have f6 := HK2.out.free 6; have k6 := HK2.out.cell 6 (v := .slice D e.inn.length d) rfl; have fl := HK2.out.lt; clear hown2 hB2 hg2 hloc2)
  clear x6 xl
  obtain ⟨U, hU⟩ : ∃ U, w2.setCell ⟨w.heap.size, 6, none⟩ (.slice D1 e.inn.length d1) = U := ⟨_, rfl⟩
  have HKU : Hid (Blk U w.heap.size (.cells (enB e A1 c1 D1 d1) 26)) := by rw [← hU]; exact HK2.out.set 6 _
  have HFU : Hid (Frame (fun b => b = w.heap.size) w2 U) := by rw [← hU]; exact (Frame.refl (fun b => b = w.heap.size) w2).setCell (p := ⟨w.heap.size, 6, none⟩) (.inl rfl) _
  have HO6 : Hid (U.ownsRow V.heap.size 73 2 (.slice D1 e.inn.length d1) e.inn.length (ims e.inn)) := own_frame HO5.out HFU.out (fun g hg e2 => own_ne HO5.out HK2.out (by decide) (by rw [hg, e2]))
  have HO7 : Hid (U.ownsRow W.heap.size 71 2 (.slice A1 e.out.length c1) e.out.length (ous e.out)) := own_frame (own_frame HO3.out (Frame.of_all (S := fun _ => False) HB2.out) (fun _ _ h => h)) HFU.out (fun g hg e2 => own_ne HO3.out HKV.out (by decide) (by rw [hg, e2]))
  have HBU : Hid (Below w.heap.size w U) := by rw [← hU]; exact (HBV.out.trans (HB2.out.mono HBV.out.size)).setCell (Nat.le_refl _) _
  have HRU : Hid (Blk U (w.heap.size + 1) (.cells (enB noEn none 0 none 0) 26)) := (HRV.out.below HB2.out HRV.out.lt).frame HFU.out (by show ¬ _ = _; omega)
  rw [hU]
  clear hU
  have q9 := HKU.out
  have x0 := q9.cell 0 (v := .int .i64 e.life) rfl
  have x1 := q9.cell 1 (v := .int .i64 e.peer) rfl
  have x2 := q9.cell 2 (v := .int .i64 e.phase) rfl
  have x3 := q9.cell 3 (v := .int .i64 e.base) rfl
  have x4 := q9.cell 4 (v := .slice A1 e.out.length c1) rfl
  have x5 := q9.cell 5 (v := .int .i64 e.want) rfl
  have x6 := q9.cell 6 (v := .slice D1 e.inn.length d1) rfl
  have xl := q9.lt
  clear q9
  have q9 := HRU.out
  have z0 := q9.cell 0 (v := .int .i64 0) rfl
  have z1 := q9.cell 1 (v := .int .i64 0) rfl
  have z2 := q9.cell 2 (v := .int .i64 0) rfl
  have z3 := q9.cell 3 (v := .int .i64 0) rfl
  have z4 := q9.cell 4 (v := .slice none 0 0) rfl
  have z5 := q9.cell 5 (v := .int .i64 0) rfl
  have z6 := q9.cell 6 (v := .slice none 0 0) rfl
  have u0 := q9.free 0
  have u1 := q9.free 1
  have u2 := q9.free 2
  have u3 := q9.free 3
  have u4 := q9.free 4
  have u5 := q9.free 5
  have u6 := q9.free 6
  have ul := q9.lt
  clear q9
  go_wp2
  have q := setEn_frame (e := e) (A := A1) (c := c1) (B := D1) (d := d1) (Frame.refl (fun b => b = w.heap.size + 1) U) (.inl rfl)
  have hl := load26 (setEn_blk (e := e) (A := A1) (c := c1) (B := D1) (d := d1) HRU.out)
  have hb := setEn_below (e := e) (A := A1) (c := c1) (B := D1) (d := d1) HBU.out (show w.heap.size ≤ w.heap.size + 1 by omega)
  have ho1 := own_mono (own_frame HO7.out q (fun g hg e2 => own_ne HO7.out HRU.out (by decide) (by rw [hg, e2]))) (show w.heap.size ≤ W.heap.size from HBW.out.size)
  have ho2 := own_mono (own_frame HO6.out q (fun g hg e2 => own_ne HO6.out HRU.out (by decide) (by rw [hg, e2]))) (show w.heap.size ≤ V.heap.size from HBV.out.size)
  exact bodyPost_ret (v := enV e A1 c1 D1 d1) (results_c rfl rfl hl) rfl ⟨A1, c1, D1, d1, rfl, ho1, ho2, hb⟩
end Go.Proofs.Ytejabnoidhlfaaa

/- Contract of the reference: Tick. -/
namespace Go.Proofs.Ytejabnoidhlfaaa
open Go.RowKit Go.Maps

set_option maxRecDepth 100000 in
set_option maxHeartbeats 8000000 in
theorem rtick_any (e : En) (A : Option Addr) (c : Nat) (D : Option Addr) (d : Nat) (w : World) (h : EnAt w e A D) (hwf : Wf e) :
    Calls Try.prog 18 #[enV e A c D d] w fun r w' => ∃ P cp, r = .returned (.tuple #[.slice P (tickA e).1.length cp, .int .i64 (tickA e).2]) ∧ Cells w' P (pks (tickA e).1) ∧ Below w.heap.size w w' := by
  have HE := Lib.hid h
  have HWF := Lib.hid hwf
  clear h hwf
  unfold enV
  go_enter Try.func18, Try.ntmps18
  obtain ⟨W, hW⟩ : ∃ W, w.alloc (.cells #[.int .i64 e.life, .int .i64 e.peer, .int .i64 e.phase, .int .i64 e.base, .slice A e.out.length c, .int .i64 e.want, .slice D e.inn.length d] 26) = W := ⟨_, rfl⟩
  have HBW : Hid (Below w.heap.size w W) := by rw [← hW]; exact (Below.refl _ w).alloc (Nat.le_refl _) _
  have HKW : Hid (Blk W w.heap.size (.cells (enB e A c D d) 26)) := by rw [← hW]; exact Blk.new _ _
  have q9 := HKW.out
  have x0 := q9.cell 0 (v := .int .i64 e.life) rfl
  have x1 := q9.cell 1 (v := .int .i64 e.peer) rfl
  have x2 := q9.cell 2 (v := .int .i64 e.phase) rfl
  have x3 := q9.cell 3 (v := .int .i64 e.base) rfl
  have x4 := q9.cell 4 (v := .slice A e.out.length c) rfl
  have x5 := q9.cell 5 (v := .int .i64 e.want) rfl
  have x6 := q9.cell 6 (v := .slice D e.inn.length d) rfl
  have xl := q9.lt
  clear q9
  go_wp2_with fail
  clear hW
  refine (good_any e A c D d W (HE.out.below HBW.out) HWF.out).mono ?_
  rintro r w1 ⟨rfl, hB1⟩
  have HB1 : Hid (Below w.heap.size w w1) := HBW.out.trans (hB1.mono HBW.out.size)
  have HK := Lib.hid (HKW.out.below hB1 HKW.out.lt)
  clear hB1 x0 x1 x2 x3 x4 x5 x6 xl
  obtain ⟨bg, hbg⟩ : ∃ b, Hid (goodB e = b) := ⟨_, rfl⟩
  rw [hbg.out]
  cases bg with
  | false =>
    have HAG : Hid (tickA e = ([], 2)) := by show _ = _; unfold tickA; rw [if_pos hbg.out]
    go_wp2
    go_ret2
    rw [HAG.out]
    exact ⟨none, 0, rfl, Cells.nil _ _, HB1.out⟩
  | true =>
    have HG : Hid (GoodP e) := good_iff.1 hbg.out
    have hlen := HG.out.len
    have HEc := Lib.hid (HE.out.below HB1.out)
    have q9 := HK.out
    have x0 := q9.cell 0 (v := .int .i64 e.life) rfl
    have x1 := q9.cell 1 (v := .int .i64 e.peer) rfl
    have x2 := q9.cell 2 (v := .int .i64 e.phase) rfl
    have x3 := q9.cell 3 (v := .int .i64 e.base) rfl
    have x4 := q9.cell 4 (v := .slice A e.out.length c) rfl
    have x5 := q9.cell 5 (v := .int .i64 e.want) rfl
    have x6 := q9.cell 6 (v := .slice D e.inn.length d) rfl
    have xl := q9.lt
    clear q9
    by_cases hp : e.phase = 3
    · have q0 : (e.phase != 3) = false := by simpa using hp
      obtain ⟨F, HF⟩ : ∃ F, Hid (flyN e = F) := ⟨_, rfl⟩
      have HAG : Hid (tickA e = ((freeIx 0 (e.out.take F)).map (dataA e) ++ [reportA e], 0)) := by show _ = _; unfold tickA; rw [if_neg (by rw [hbg.out]; decide), if_neg (by simpa using hp), HF.out]
      clear hp
      have hfl := fly_le e
      rw [HF.out] at hfl
      go_wp2_with fail
      clear x0 x1 x2 x3 x4 x5 x6 xl q0
      go_loopg [4, 5] F (fun g vo iv wr => ∃ k : Nat, k + g = F ∧ iv = .int .i64 (k : Int) ∧ wr.ownsRow w1.heap.size 44 7 vo (freeIx 0 (e.out.take k)).length (pks ((freeIx 0 (e.out.take k)).map (dataA e))) ∧ Below w1.heap.size w1 wr)
      case atStart => exact ⟨0, Nat.zero_add _, rfl, World.ownsRow_nil _ _ _ _, Below.refl _ _⟩
      case round =>
        obtain ⟨k, hk, rfl, hown, hB⟩ := hrel
        have HKK := Lib.hid hk
        have HO := Lib.hid hown
        have HB := Lib.hid hB
        have HKr := Lib.hid (HK.out.below hB HK.out.lt)
        have hql : (freeIx 0 (e.out.take k)).length ≤ k := Nat.le_trans (freeIx_len _ _) (by rw [List.length_take]; omega)
        have HQL := Lib.hid hql
        have hk12 : k ≤ 12 := by omega
        clear hk hown hB
        have q9 := HKr.out
        have x0 := q9.cell 0 (v := .int .i64 e.life) rfl
        have x1 := q9.cell 1 (v := .int .i64 e.peer) rfl
        have x2 := q9.cell 2 (v := .int .i64 e.phase) rfl
        have x3 := q9.cell 3 (v := .int .i64 e.base) rfl
        have x4 := q9.cell 4 (v := .slice A e.out.length c) rfl
        have x5 := q9.cell 5 (v := .int .i64 e.want) rfl
        have x6 := q9.cell 6 (v := .slice D e.inn.length d) rfl
        have xl := q9.lt
        clear q9
        by_cases hlt : (k : Int) < (F : Int)
        · go_wp2_with fail
          refine (flying_any e A c D d wr).mono ?_
          rintro r w2 ⟨rfl, hB2⟩
          rw [HF.out]
          have HB2 : Hid (Below w1.heap.size w1 w2) := below_in HB.out hB2
          have HK2 := Lib.hid (HKr.out.below hB2 HKr.out.lt)
          have HO2 := Lib.hid (own_frame HO.out (Frame.of_all (S := fun _ => False) hB2) (fun _ _ h => h))
          clear x0 x1 x2 x3 x4 x5 x6 xl hB2
          have q9 := HK2.out
          have x0 := q9.cell 0 (v := .int .i64 e.life) rfl
          have x1 := q9.cell 1 (v := .int .i64 e.peer) rfl
          have x2 := q9.cell 2 (v := .int .i64 e.phase) rfl
          have x3 := q9.cell 3 (v := .int .i64 e.base) rfl
          have x4 := q9.cell 4 (v := .slice A e.out.length c) rfl
          have x5 := q9.cell 5 (v := .int .i64 e.want) rfl
          have x6 := q9.cell 6 (v := .slice D e.inn.length d) rfl
          have xl := q9.lt
          clear q9
          have hkl : k < e.out.length := by omega
          have HKL := Lib.hid hkl
          obtain ⟨x, xb, xo, hx, hxb, hxi, ht, hh⟩ := ou_at (c := c) (k := k) (HEc.out.below HB2.out).out hkl
          have hw1 : IntKind.i64.wrap ((k : Int) + 1) = (k : Int) + 1 := wrap_ok ⟨by omega, by omega⟩
          have HX := Lib.hid hx
          clear hx ht
          cases hq : x.h with
          | true =>
            rw [hq] at hh
            have HST := Lib.hid (freeIx_held HX.out hq)
            go_wp2_with fail
            go_roundg (F - (k + 1))
            case measure => have := HKK.out; omega
            case rel => exact ⟨k + 1, by have := HKK.out; omega, rfl, by rw [HST.out]; exact HO2.out, HB2.out⟩
          | false =>
            rw [hq] at hh
            have HST := Lib.hid (freeIx_free HX.out hq)
            obtain ⟨Q, HQ⟩ : ∃ Q, Hid (freeIx 0 (e.out.take k) = Q) := ⟨_, rfl⟩
            rw [HQ.out] at HO2 HST hql
            go_wp2_with fail
            refine (data46_any e A c D d k w2 (HEc.out.below HB2.out) HG.out.want HKL.out ⟨HG.out.base, by have := HG.out.room; omega⟩ (by unfold most; omega)).mono ?_
            rintro r w3 ⟨rfl, hB3⟩
            unfold pkV
            have HB3 : Hid (Below w1.heap.size w1 w3) := below_in HB2.out hB3
            have HO3 := Lib.hid (own_frame HO2.out (Frame.of_all (S := fun _ => False) hB3) (fun _ _ h => h))
            have hs3 := HB3.out.size
            clear hB3 x0 x1 x2 x3 x4 x5 x6 xl hh hxi hxb
            go_wp2_with (at_builtin; go_must (refine wpList_app1' rPk _ rfl _ _ rfl HO3.out rfl [_, _, _, _, _, _, _] 1 rfl rfl (by simp [Value.oneCell']) (by omega) (by omega) ?_); intro v' w7 hown7 hB7 hg7 hloc7)
            go_roundg (F - (k + 1))
            case measure => have := HKK.out; omega
            case rel => exact ⟨k + 1, by have := HKK.out; omega, rfl, by rw [HST.out, List.length_append, List.map_append]; exact (pks_snoc _ _).symm ▸ hown7, HB3.out.trans hB7⟩
        · obtain rfl : k = F := by have := HKK.out; omega
          obtain ⟨Q, HQ⟩ : ∃ Q, Hid (freeIx 0 (e.out.take k) = Q) := ⟨_, rfl⟩
          rw [HQ.out] at HO HAG hql
          go_wp2_with fail
          refine (flying_any e A c D d wr).mono ?_
          rintro r w2 ⟨rfl, hB2⟩
          rw [HF.out]
          have HB2 : Hid (Below w1.heap.size w1 w2) := below_in HB.out hB2
          have HK2 := Lib.hid (HKr.out.below hB2 HKr.out.lt)
          have HO2 := Lib.hid (own_frame HO.out (Frame.of_all (S := fun _ => False) hB2) (fun _ _ h => h))
          clear x0 x1 x2 x3 x4 x5 x6 xl hB2
          have q9 := HK2.out
          have x0 := q9.cell 0 (v := .int .i64 e.life) rfl
          have x1 := q9.cell 1 (v := .int .i64 e.peer) rfl
          have x2 := q9.cell 2 (v := .int .i64 e.phase) rfl
          have x3 := q9.cell 3 (v := .int .i64 e.base) rfl
          have x4 := q9.cell 4 (v := .slice A e.out.length c) rfl
          have x5 := q9.cell 5 (v := .int .i64 e.want) rfl
          have x6 := q9.cell 6 (v := .slice D e.inn.length d) rfl
          have xl := q9.lt
          clear q9
          go_wp2_with fail
          refine (report52_any e A c D d w2 (HEc.out.below HB2.out) HG.out.want).mono ?_
          rintro r w3 ⟨rfl, hB3⟩
          unfold pkV
          have HB3 : Hid (Below w1.heap.size w1 w3) := below_in HB2.out hB3
          have HO3 := Lib.hid (own_frame HO2.out (Frame.of_all (S := fun _ => False) hB3) (fun _ _ h => h))
          have hs3 := HB3.out.size
          clear hB3 x0 x1 x2 x3 x4 x5 x6 xl
          go_wp2_with (at_builtin; go_must (refine wpList_app1' rPk _ rfl _ _ rfl HO3.out rfl [_, _, _, _, _, _, _] 1 rfl rfl (by simp [Value.oneCell']) (by omega) (by omega) ?_); intro v' w7 hown7 hB7 hg7 hloc7)
          go_ret2
          rw [HAG.out]
          obtain ⟨P, cp, rfl⟩ := own_fits hown7
          have hown8 : w7.ownsRow w1.heap.size 44 7 (.slice P (Q.length + 1) cp) (Q.length + 1) (pks (Q.map (dataA e) ++ [reportA e])) := (pks_snoc _ _).symm ▸ hown7
          refine ⟨P, cp, ?_, (Cells.of_own hown8 (by rw [pks_len, List.length_append, List.length_map]; simp; omega)).1, HB1.out.trans ((HB3.out.trans hB7).mono HB1.out.size)⟩
          rw [List.length_append, List.length_map]
          rfl
    · have q0 : (e.phase != 3) = true := by simpa using hp
      have HAG : Hid (tickA e = ([helloA e], 0)) := by show _ = _; unfold tickA; rw [if_neg (by rw [hbg.out]; decide), if_pos hp]
      clear hp
      go_wp2_with fail
      refine (greeting_any e A c D d w1).mono ?_
      rintro r w2 ⟨rfl, hB2⟩
      have HB2 := Lib.hid hB2
      clear hB2
      unfold pkV
      go_wp2
      go_ret2
      rw [HAG.out]
      refine ⟨_, 1, rfl, pks_one (Blk.new w2 (.cells (pkB (helloA e)) 44)), HB1.out.trans ((HB2.out.alloc HB2.out.size _).mono HB1.out.size)⟩
end Go.Proofs.Ytejabnoidhlfaaa
