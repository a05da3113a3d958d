/- Contracts of the reference: Twin, over, put, Proper. -/
import Derived.Test.YtejabnoidhlfaaaS50
import Derived.Test.YtejabnoidhlfaaaS45

/- Contract of the reference: Twin. -/
namespace Go.Proofs.Ytejabnoidhlfaaa
open Go.RowKit Go.Maps

set_option maxRecDepth 100000 in
set_option maxHeartbeats 8000000 in
theorem twin_any (e : En) (A : Option Addr) (c : Nat) (D : Option Addr) (d : Nat) (w : World) (h : EnAt w e A D) (hA : A = none → e.out.length = 0 ∧ c = 0) (hD : D = none → e.inn.length = 0 ∧ d = 0) (hlo : e.out.length ≤ 1000) (hli : e.inn.length ≤ 1000) :
    Calls Try.prog 44 #[enV e A c D d] w fun r w' => ∃ A' c' D' d', r = .returned (enV e A' c' D' d') ∧ w'.ownsRow w.heap.size 71 2 (.slice A' e.out.length c') e.out.length (ous e.out) ∧ w'.ownsRow w.heap.size 73 2 (.slice D' e.inn.length d') e.inn.length (ims e.inn) ∧ Below w.heap.size w w' := by
  have HE := Lib.hid h
  clear h
  unfold enV
  go_enter Try.func44, Try.ntmps44
  go_upto_region 1 with fail
  obtain ⟨W, hW⟩ : ∃ W, (w.alloc (.cells #[.int .i64 e.life, .int .i64 e.peer, .int .i64 e.phase, .int .i64 e.base, .slice A e.out.length c, .int .i64 e.want, .slice D e.inn.length d] 26)).alloc (.cells #[.int .i64 0, .int .i64 0, .int .i64 0, .int .i64 0, .slice none 0 0, .int .i64 0, .slice none 0 0] 26) = W := ⟨_, rfl⟩
  have HBW : Hid (Below w.heap.size w W) := by rw [← hW]; exact ((Below.refl _ w).alloc (Nat.le_refl _) _).alloc (by simp) _
  have HKW : Hid (Blk W w.heap.size (.cells (enB e A c D d) 26)) := by rw [← hW]; exact (Blk.new _ _).alloc _
  have HRW : Hid (Blk W (w.heap.size + 1) (.cells (enB noEn none 0 none 0) 26)) := by
    rw [← hW]
    have e1 := Blk.new (w.alloc (.cells (enB e A c D d) 26)) (.cells (enB noEn none 0 none 0) 26)
    rw [World.size_alloc] at e1
    exact e1
  rw [hW]
  clear hW
  have q9 := HKW.out
  have x4 := q9.cell 4 (v := .slice A e.out.length c) rfl
  have x6 := q9.cell 6 (v := .slice D e.inn.length d) rfl
  have xl := q9.lt
  clear q9
  have HO1 : Hid (W.ownsRow W.heap.size 71 2 (.slice none 0 0) 0 []) := World.ownsRow_nil _ _ _ _
  have HC1 := Lib.hid (HE.out.below HBW.out).out
  go_upto_region 2 with (at_builtin; go_must (refine wpList_appN rOu _ rfl _ _ rfl HO1.out rfl A e.out.length c (ous e.out) rfl hA HC1.out (ous_len _) (ouC_one _) (by omega) (Nat.le_refl _) ?_); intro v1 w1 hown1 hB1 hg1 hloc1; rw [Nat.zero_add, List.nil_append] at hown1; obtain ⟨A1, c1, rfl⟩ := own_fits hown1; have HK1 := Lib.hid (HKW.out.below hB1 HKW.out.lt); have HB1 := Lib.hid hB1; have HO2 := Lib.hid hown1; have f4 := HK1.out.free 4; have k4 := HK1.out.cell 4 (v := .slice A e.out.length c) rfl; have fl := HK1.out.lt; clear hown1 hB1 hg1 hloc1)
  clear x4 x6 xl
  obtain ⟨V, hV⟩ : ∃ V, w1.setCell ⟨w.heap.size, 4, none⟩ (.slice A1 e.out.length c1) = V := ⟨_, rfl⟩
  have HKV : Hid (Blk V w.heap.size (.cells (enB e A1 c1 D d) 26)) := by rw [← hV]; exact HK1.out.set 4 _
  have HFV : Hid (Frame (fun b => b = w.heap.size) w1 V) := by rw [← hV]; exact (Frame.refl (fun b => b = w.heap.size) w1).setCell (p := ⟨w.heap.size, 4, none⟩) (.inl rfl) _
  have HO3 : Hid (V.ownsRow W.heap.size 71 2 (.slice A1 e.out.length c1) e.out.length (ous e.out)) := own_frame HO2.out HFV.out (fun g hg e2 => own_ne HO2.out HK1.out (by decide) (by rw [hg, e2]))
  have HBV : Hid (Below w.heap.size w V) := by rw [← hV]; exact (HBW.out.trans (HB1.out.mono HBW.out.size)).setCell (Nat.le_refl _) _
  have HRV : Hid (Blk V (w.heap.size + 1) (.cells (enB noEn none 0 none 0) 26)) := (HRW.out.below HB1.out HRW.out.lt).frame HFV.out (by show ¬ _ = _; omega)
  have HSV : Hid (W.heap.size ≤ V.heap.size) := by have h1 := HB1.out.size; have h2 := HFV.out.size; show _ ≤ _; omega
  rw [hV]
  clear hV
  have HO4 : Hid (V.ownsRow V.heap.size 73 2 (.slice none 0 0) 0 []) := World.ownsRow_nil _ _ _ _
  have HC2 := Lib.hid (HE.out.below HBV.out).inn
  have q9 := HKV.out
  have x6 := q9.cell 6 (v := .slice D e.inn.length d) rfl
  have xl := q9.lt
  clear q9
  go_upto_region 3 with (at_builtin; go_must (refine wpList_appN rIm _ rfl _ _ rfl HO4.out rfl D e.inn.length d (ims e.inn) rfl hD HC2.out (ims_len _) (imC_one _) (by omega) (Nat.le_refl _) ?_); intro v2 w2 hown2 hB2 hg2 hloc2; rw [Nat.zero_add, List.nil_append] at hown2; obtain ⟨D1, d1, rfl⟩ := own_fits hown2; have HK2 := Lib.hid (HKV.out.below hB2 HKV.out.lt); have HB2 := Lib.hid hB2; have HO5 := Lib.hid hown2; have f6 := HK2.out.free 6; have k6 := HK2.out.cell 6 (v := .slice D e.inn.length d) rfl; have fl := HK2.out.lt; clear hown2 hB2 hg2 hloc2)
  clear x6 xl
  obtain ⟨U, hU⟩ : ∃ U, w2.setCell ⟨w.heap.size, 6, none⟩ (.slice D1 e.inn.length d1) = U := ⟨_, rfl⟩
  have HKU : Hid (Blk U w.heap.size (.cells (enB e A1 c1 D1 d1) 26)) := by rw [← hU]; exact HK2.out.set 6 _
  have HFU : Hid (Frame (fun b => b = w.heap.size) w2 U) := by rw [← hU]; exact (Frame.refl (fun b => b = w.heap.size) w2).setCell (p := ⟨w.heap.size, 6, none⟩) (.inl rfl) _
  have HO6 : Hid (U.ownsRow V.heap.size 73 2 (.slice D1 e.inn.length d1) e.inn.length (ims e.inn)) := own_frame HO5.out HFU.out (fun g hg e2 => own_ne HO5.out HK2.out (by decide) (by rw [hg, e2]))
  have HO7 : Hid (U.ownsRow W.heap.size 71 2 (.slice A1 e.out.length c1) e.out.length (ous e.out)) := own_frame (own_frame HO3.out (Frame.of_all (S := fun _ => False) HB2.out) (fun _ _ h => h)) HFU.out (fun g hg e2 => own_ne HO3.out HKV.out (by decide) (by rw [hg, e2]))
  have HBU : Hid (Below w.heap.size w U) := by rw [← hU]; exact (HBV.out.trans (HB2.out.mono HBV.out.size)).setCell (Nat.le_refl _) _
  have HRU : Hid (Blk U (w.heap.size + 1) (.cells (enB noEn none 0 none 0) 26)) := (HRV.out.below HB2.out HRV.out.lt).frame HFU.out (by show ¬ _ = _; omega)
  rw [hU]
  clear hU
  have q9 := HKU.out
  have x0 := q9.cell 0 (v := .int .i64 e.life) rfl
  have x1 := q9.cell 1 (v := .int .i64 e.peer) rfl
  have x2 := q9.cell 2 (v := .int .i64 e.phase) rfl
  have x3 := q9.cell 3 (v := .int .i64 e.base) rfl
  have x4 := q9.cell 4 (v := .slice A1 e.out.length c1) rfl
  have x5 := q9.cell 5 (v := .int .i64 e.want) rfl
  have x6 := q9.cell 6 (v := .slice D1 e.inn.length d1) rfl
  have xl := q9.lt
  clear q9
  have q9 := HRU.out
  have z0 := q9.cell 0 (v := .int .i64 0) rfl
  have z1 := q9.cell 1 (v := .int .i64 0) rfl
  have z2 := q9.cell 2 (v := .int .i64 0) rfl
  have z3 := q9.cell 3 (v := .int .i64 0) rfl
  have z4 := q9.cell 4 (v := .slice none 0 0) rfl
  have z5 := q9.cell 5 (v := .int .i64 0) rfl
  have z6 := q9.cell 6 (v := .slice none 0 0) rfl
  have u0 := q9.free 0
  have u1 := q9.free 1
  have u2 := q9.free 2
  have u3 := q9.free 3
  have u4 := q9.free 4
  have u5 := q9.free 5
  have u6 := q9.free 6
  have ul := q9.lt
  clear q9
  go_wp2
  have q := setEn_frame (e := e) (A := A1) (c := c1) (B := D1) (d := d1) (Frame.refl (fun b => b = w.heap.size + 1) U) (.inl rfl)
  have hl := load26 (setEn_blk (e := e) (A := A1) (c := c1) (B := D1) (d := d1) HRU.out)
  have hb := setEn_below (e := e) (A := A1) (c := c1) (B := D1) (d := d1) HBU.out (show w.heap.size ≤ w.heap.size + 1 by omega)
  have ho1 := own_mono (own_frame HO7.out q (fun g hg e2 => own_ne HO7.out HRU.out (by decide) (by rw [hg, e2]))) (show w.heap.size ≤ W.heap.size from HBW.out.size)
  have ho2 := own_mono (own_frame HO6.out q (fun g hg e2 => own_ne HO6.out HRU.out (by decide) (by rw [hg, e2]))) (show w.heap.size ≤ V.heap.size from HBV.out.size)
  exact bodyPost_ret (v := enV e A1 c1 D1 d1) (results_c rfl rfl hl) rfl ⟨A1, c1, D1, d1, rfl, ho1, ho2, hb⟩
end Go.Proofs.Ytejabnoidhlfaaa

/- Contract of the reference: over. -/
namespace Go.Proofs.Ytejabnoidhlfaaa
open Go.RowKit Go.Maps

/-- An end whose session is over, as the reference makes it. -/
def overE (e : En) (peer : Int) : En := ⟨e.life, peer, 2, 0, e.out.drop (flyN e), 0, []⟩
theorem outOk_free : ∀ (l : List Ou) (i : Nat) (f : Nat), f ≤ i → outOk f i l = true → l.map (fun x => (⟨x.t, false⟩ : Ou)) = l
  | [], _, _, _, _ => rfl
  | x :: l, i, f, hf, h => by
    simp only [outOk, Bool.and_eq_true] at h
    have ih := outOk_free l (i + 1) f (by omega) h.2
    have h1 := h.1.2
    rw [decide_eq_false (show ¬ i < f by omega), Bool.and_false, Bool.or_false] at h1
    rw [List.map_cons, ih]
    congr 1
    obtain ⟨xt, xh⟩ := x
    simp only [Bool.not_eq_true'] at h1
    rw [h1]
theorem outOk_drop : ∀ (l : List Ou) (i f g : Nat), outOk f i l = true → outOk f (i + g) (l.drop g) = true
  | l, i, f, 0, h => h
  | [], i, f, g + 1, h => by simp [outOk]
  | x :: l, i, f, g + 1, h => by
    simp only [outOk, Bool.and_eq_true] at h
    have ih := outOk_drop l (i + 1) f g h.2
    rw [List.drop_succ_cons, show i + (g + 1) = i + 1 + g by omega]
    exact ih
theorem overE_eq {e : En} (h : outOk (flyN e) 0 e.out = true) (peer : Int) : overA e peer = (overE e peer, (e.out.take (flyN e)).map (·.t)) := by
  unfold overA overE
  have h1 := outOk_drop e.out 0 (flyN e) (flyN e) h
  rw [outOk_free _ _ _ (by omega) h1]
set_option maxRecDepth 100000 in
set_option maxHeartbeats 8000000 in
theorem over58_any (e : En) (A : Option Addr) (c : Nat) (D : Option Addr) (d : Nat) (peer : Int) (w : World) (h : EnAt w e A D) (hcap : e.out.length ≤ c) (_hlen : e.out.length ≤ 12) :
    Calls Try.prog 58 #[enV e A c D d, .int .i64 peer] w fun r w' => ∃ T ct, r = .returned (.tuple #[enV (overE e peer) (cutA A c (flyN e)) (c - flyN e) none 0, .slice T (flyN e) ct]) ∧ w'.ownsRow w.heap.size 9 1 (.slice T (flyN e) ct) (flyN e) (strs ((e.out.take (flyN e)).map (·.t))) ∧ Below w.heap.size w w' := by
  have HE := Lib.hid h
  clear h
  unfold enV
  go_enter Try.func58, Try.ntmps58
  obtain ⟨W, hW⟩ : ∃ W, (w.alloc (.cells #[.int .i64 e.life, .int .i64 e.peer, .int .i64 e.phase, .int .i64 e.base, .slice A e.out.length c, .int .i64 e.want, .slice D e.inn.length d] 26)).alloc (.cells #[.int .i64 0, .int .i64 0, .int .i64 0, .int .i64 0, .slice none 0 0, .int .i64 0, .slice none 0 0] 26) = W := ⟨_, rfl⟩
  have HBW : Hid (Below w.heap.size w W) := by rw [← hW]; exact (((Below.refl _ w).alloc (Nat.le_refl _) _).alloc (by simp) _)
  have hsW : W.heap.size = w.heap.size + 2 := by rw [← hW]; simp
  have HK1 : Hid (Blk W w.heap.size (.cells (enB e A c D d) 26)) := by rw [← hW]; exact (Blk.new _ _).alloc _
  have HK2 : Hid (Blk W (w.heap.size + 1) (.cells (enB noEn none 0 none 0) 26)) := by
    rw [← hW]
    have e1 := Blk.new (w.alloc (.cells #[.int .i64 e.life, .int .i64 e.peer, .int .i64 e.phase, .int .i64 e.base, .slice A e.out.length c, .int .i64 e.want, .slice D e.inn.length d] 26)) (.cells #[.int .i64 0, .int .i64 0, .int .i64 0, .int .i64 0, .slice none 0 0, .int .i64 0, .slice none 0 0] 26)
    rw [World.size_alloc] at e1
    exact e1
  have q9 := HK1.out
  have x0 := q9.cell 0 (v := .int .i64 e.life) rfl
  have x1 := q9.cell 1 (v := .int .i64 e.peer) rfl
  have x2 := q9.cell 2 (v := .int .i64 e.phase) rfl
  have x3 := q9.cell 3 (v := .int .i64 e.base) rfl
  have x4 := q9.cell 4 (v := .slice A e.out.length c) rfl
  have x5 := q9.cell 5 (v := .int .i64 e.want) rfl
  have x6 := q9.cell 6 (v := .slice D e.inn.length d) rfl
  have xl := q9.lt
  clear q9
  go_wp2_with fail
  clear hW x0 x1 x2 x3 x4 x5 x6 xl
  refine (flying_any e A c D d W).mono ?_
  rintro r w1 ⟨rfl, hB1⟩
  have HB1 : Hid (Below w.heap.size w w1) := HBW.out.trans (hB1.mono HBW.out.size)
  have HK3 := Lib.hid (HK1.out.below hB1 HK1.out.lt)
  have HK4 := Lib.hid (HK2.out.below hB1 HK2.out.lt)
  have HEc := Lib.hid (HE.out.below HB1.out)
  have hfl := fly_le e
  obtain ⟨F, HF⟩ : ∃ F, Hid (flyN e = F) := ⟨_, rfl⟩
  rw [HF.out] at hfl ⊢
  clear hB1
  go_wp2_with fail
  go_loopg [7, 8] F (fun g vo iv wr => ∃ k : Nat, k + g = F ∧ iv = .int .i64 (k : Int) ∧ wr.ownsRow w1.heap.size 9 1 vo k (strs ((e.out.take k).map (·.t))) ∧ Below w1.heap.size w1 wr)
  case atStart => exact ⟨0, Nat.zero_add _, rfl, World.ownsRow_nil _ _ _ _, Below.refl _ _⟩
  case round =>
    obtain ⟨k, hk, rfl, hown, hB⟩ := hrel
    have HKK := Lib.hid hk
    have HO := Lib.hid hown
    have HB := Lib.hid hB
    have HKr := Lib.hid (HK3.out.below hB HK3.out.lt)
    have HK4r := Lib.hid (HK4.out.below hB HK4.out.lt)
    have hk12 : k ≤ 12 := by omega
    have hsr := HB.out.size
    clear hk hown hB
    have q9 := HKr.out
    have x0 := q9.cell 0 (v := .int .i64 e.life) rfl
    have x1 := q9.cell 1 (v := .int .i64 e.peer) rfl
    have x2 := q9.cell 2 (v := .int .i64 e.phase) rfl
    have x3 := q9.cell 3 (v := .int .i64 e.base) rfl
    have x4 := q9.cell 4 (v := .slice A e.out.length c) rfl
    have x5 := q9.cell 5 (v := .int .i64 e.want) rfl
    have x6 := q9.cell 6 (v := .slice D e.inn.length d) rfl
    have xl := q9.lt
    by_cases hlt : (k : Int) < (F : Int)
    · clear q9
      have hkl : k < e.out.length := by omega
      obtain ⟨x, xb, xo, hx, hxb, hxi, ht, hh⟩ := ou_at (c := c) (k := k) (HEc.out.below HB.out).out hkl
      have hw1 : IntKind.i64.wrap ((k : Int) + 1) = (k : Int) + 1 := wrap_ok ⟨by omega, by omega⟩
      have HT : Hid (strs ((e.out.take (k + 1)).map (·.t)) = strs ((e.out.take k).map (·.t)) ++ [.string x.t]) := by
        show _ = _
        rw [take_succ_of hx, List.map_append, List.map_cons, List.map_nil, strs_snoc]
      clear hx hh
      go_wp2_with (at_builtin; go_must (refine wpList_app1' rSt _ rfl _ _ rfl HO.out rfl [_] 1 rfl rfl (by simp [Value.oneCell']) (by omega) (by omega) ?_); intro v' w2 hown2 hB2 hg2 hloc2)
      go_roundg (F - (k + 1))
      case measure => have := HKK.out; omega
      case rel => exact ⟨k + 1, by have := HKK.out; omega, rfl, by rw [HT.out]; exact hown2, HB.out.trans hB2⟩
    · have q8 := q9
      have y0 := q9.free 0
      have y1 := q9.free 1
      have y2 := q9.free 2
      have y3 := q9.free 3
      have y4 := q9.free 4
      have y5 := q9.free 5
      have y6 := q9.free 6
      clear q9 q8
      obtain rfl : k = F := by have := HKK.out; omega
      have hcut := cut_run (A := A) (n := e.out.length) (c := c) (g := k) (by omega) hcap
      obtain ⟨T, ct, rfl⟩ := own_fits HO.out
      go_upto_region 13 with fail
      clear x0 x1 x2 x3 x4 x5 x6 xl y0 y1 y2 y3 y4 y5 y6 hcut
      obtain ⟨V, hV⟩ : ∃ V, ((((((wr.setCell ⟨w.heap.size, 4, none⟩ (.slice (cutA A c k) (e.out.length - k) (c - k))).setCell ⟨w.heap.size, 1, none⟩ (.int .i64 peer)).setCell ⟨w.heap.size, 2, none⟩ (.int .i64 2)).setCell ⟨w.heap.size, 3, none⟩ (.int .i64 0)).setCell ⟨w.heap.size, 5, none⟩ (.int .i64 0)).setCell ⟨w.heap.size, 6, none⟩ (.slice none 0 0)) = V := ⟨_, rfl⟩
      have hEl : (overE e peer).out.length = e.out.length - k := by show (e.out.drop (flyN e)).length = _; rw [HF.out, List.length_drop]
      have HKV : Hid (Blk V w.heap.size (.cells (enB (overE e peer) (cutA A c k) (c - k) none 0) 26)) := by
        unfold enB
        rw [hEl, ← hV]
        exact (((((HKr.out.set 4 _).set 1 _).set 2 _).set 3 _).set 5 _).set 6 _
      have HFV : Hid (Frame (fun b => b = w.heap.size) wr V) := by
        rw [← hV]
        exact ((((((Frame.refl (fun b => b = w.heap.size) wr).setCell (p := ⟨_, 4, none⟩) (.inl rfl) _).setCell (p := ⟨_, 1, none⟩) (.inl rfl) _).setCell (p := ⟨_, 2, none⟩) (.inl rfl) _).setCell (p := ⟨_, 3, none⟩) (.inl rfl) _).setCell (p := ⟨_, 5, none⟩) (.inl rfl) _).setCell (p := ⟨_, 6, none⟩) (.inl rfl) _
      have HK4V : Hid (Blk V (w.heap.size + 1) (.cells (enB noEn none 0 none 0) 26)) := HK4r.out.frame HFV.out (by show ¬ _ = _; omega)
      have HBV : Hid (Below w.heap.size w V) := by
        rw [← hV]
        exact ((((((HB1.out.trans (HB.out.mono HB1.out.size)).setCell (Nat.le_refl _) _).setCell (Nat.le_refl _) _).setCell (Nat.le_refl _) _).setCell (Nat.le_refl _) _).setCell (Nat.le_refl _) _).setCell (Nat.le_refl _) _
      have hOV := own_frame HO.out HFV.out (fun g hg e2 => own_ne HO.out HKr.out (by decide) (by rw [hg, e2]))
      rw [hV]
      clear hV hEl
      have q9 := HKV.out
      have x0 := q9.cell 0 (v := .int .i64 (overE e peer).life) rfl
      have x1 := q9.cell 1 (v := .int .i64 (overE e peer).peer) rfl
      have x2 := q9.cell 2 (v := .int .i64 (overE e peer).phase) rfl
      have x3 := q9.cell 3 (v := .int .i64 (overE e peer).base) rfl
      have x4 := q9.cell 4 (v := .slice (cutA A c k) (overE e peer).out.length (c - k)) rfl
      have x5 := q9.cell 5 (v := .int .i64 (overE e peer).want) rfl
      have x6 := q9.cell 6 (v := .slice none (overE e peer).inn.length 0) rfl
      have xl := q9.lt
      clear q9
      have q9 := HK4V.out
      have z0 := q9.cell 0 (v := .int .i64 0) rfl
      have z1 := q9.cell 1 (v := .int .i64 0) rfl
      have z2 := q9.cell 2 (v := .int .i64 0) rfl
      have z3 := q9.cell 3 (v := .int .i64 0) rfl
      have z4 := q9.cell 4 (v := .slice none 0 0) rfl
      have z5 := q9.cell 5 (v := .int .i64 0) rfl
      have z6 := q9.cell 6 (v := .slice none 0 0) rfl
      have u0 := q9.free 0
      have u1 := q9.free 1
      have u2 := q9.free 2
      have u3 := q9.free 3
      have u4 := q9.free 4
      have u5 := q9.free 5
      have u6 := q9.free 6
      have ul := q9.lt
      clear q9
      go_wp2
      have q := setEn_frame (e := overE e peer) (A := cutA A c k) (c := c - k) (B := none) (d := 0) (Frame.refl (fun b => b = w.heap.size + 1) V) (.inl rfl)
      have hl := load26 (setEn_blk (e := overE e peer) (A := cutA A c k) (c := c - k) (B := none) (d := 0) HK4V.out)
      have hb := setEn_below (e := overE e peer) (A := cutA A c k) (c := c - k) (B := none) (d := 0) HBV.out (show w.heap.size ≤ w.heap.size + 1 by omega)
      refine bodyPost_ret (v := .tuple #[enV (overE e peer) (cutA A c k) (c - k) none 0, .slice T k ct]) (results_ct rfl rfl rfl hl) rfl ⟨T, ct, by rw [HF.out]; rfl, ?_, hb⟩
      rw [HF.out, ← List.map_take]
      exact own_mono (own_frame hOV q (fun g hg e2 => own_ne hOV HK4V.out (by decide) (by rw [hg, e2]))) (by have := HB1.out.size; omega)
end Go.Proofs.Ytejabnoidhlfaaa

/- Contract of the reference: put. -/
namespace Go.Proofs.Ytejabnoidhlfaaa
open Go.RowKit Go.Maps

/-- Has a list a later number? -/
def dnB (x : Im) (m : List Im) : Bool := m.any fun y => decide (x.n < y.n)
/-- What put has made of the first messages. -/
def putS (x : Im) (m : List Im) : List Im := if dnB x m = true then putA x m else m
theorem put_yes (x : Im) : ∀ (m l : List Im), dnB x m = true → putA x (m ++ l) = putA x m ++ l
  | [], l, h => by simp [dnB] at h
  | y :: m, l, h => by
    simp only [List.cons_append, putA]
    by_cases h1 : x.n < y.n
    · rw [if_pos h1, if_pos h1]
      rfl
    · rw [if_neg h1, if_neg h1]
      have h2 : dnB x m = true := by
        simp only [dnB, List.any_cons, decide_eq_false h1, Bool.false_or] at h
        exact h
      rw [put_yes x m l h2]
      rfl
theorem put_not (x : Im) : ∀ (m l : List Im), dnB x m = false → putA x (m ++ l) = m ++ putA x l
  | [], l, _ => rfl
  | y :: m, l, h => by
    simp only [dnB, List.any_cons, Bool.or_eq_false_iff, decide_eq_false_iff_not] at h
    simp only [List.cons_append, putA]
    rw [if_neg h.1, put_not x m l h.2]
theorem dnB_snoc (x : Im) (m : List Im) (y : Im) : dnB x (m ++ [y]) = (dnB x m || decide (x.n < y.n)) := by simp [dnB]
theorem putS_yes {x : Im} {m : List Im} (y : Im) (h : dnB x m = true) : putS x (m ++ [y]) = putS x m ++ [y] := by
  unfold putS
  rw [dnB_snoc, h, Bool.true_or, if_pos rfl, if_pos rfl, put_yes x m [y] h]
theorem putS_now {x : Im} {m : List Im} {y : Im} (h : dnB x m = false) (hy : x.n < y.n) : putS x (m ++ [y]) = putS x m ++ [x] ++ [y] := by
  unfold putS
  rw [dnB_snoc, h, decide_eq_true hy, Bool.false_or, if_pos rfl, if_neg (by decide), put_not x m [y] h, List.append_assoc]
  simp only [putA, if_pos hy]
  rfl
theorem putS_not {x : Im} {m : List Im} {y : Im} (h : dnB x m = false) (hy : ¬ x.n < y.n) : putS x (m ++ [y]) = putS x m ++ [y] := by
  unfold putS
  rw [dnB_snoc, h, decide_eq_false hy, Bool.false_or, if_neg (by decide), if_neg (by decide)]
theorem putS_len (x : Im) (m : List Im) : (putS x m).length ≤ m.length + 1 := by
  have h : ∀ m : List Im, (putA x m).length = m.length + 1 := by
    intro m
    induction m with
    | nil => rfl
    | cons y m ih =>
      simp only [putA]
      split
      · rfl
      · rw [List.length_cons, ih, List.length_cons]
  unfold putS
  split
  · rw [h]; exact Nat.le_refl _
  · omega
theorem putS_end {x : Im} {l : List Im} (h : dnB x l = true) : putS x l = putA x l := if_pos h
theorem putS_end' {x : Im} {l : List Im} (h : dnB x l = false) : putS x l ++ [x] = putA x l := by
  have h1 := put_not x l [] h
  rw [List.append_nil] at h1
  unfold putS
  rw [h1, if_neg (by rw [h]; decide)]
  rfl
set_option maxRecDepth 100000 in
set_option maxHeartbeats 8000000 in
theorem put78_any (x : Im) (D : Option Addr) (d : Nat) (l : List Im) (w : World) (h : Cells w D (ims l)) (hl : l.length ≤ 1000) :
    Calls Try.prog 78 #[.slice D l.length d, .agg #[.int .i64 x.n, .string x.t]] w fun r w' => ∃ D' d', r = .returned (.slice D' (putA x l).length d') ∧ w'.ownsRow w.heap.size 73 2 (.slice D' (putA x l).length d') (putA x l).length (ims (putA x l)) ∧ Below w.heap.size w w' := by
  have HC := Lib.hid h
  clear h
  go_enter Try.func78, Try.ntmps78
  obtain ⟨W, hW⟩ : ∃ W, w.alloc (.cells #[.int .i64 x.n, .string x.t] 73) = W := ⟨_, rfl⟩
  have HBW : Hid (Below w.heap.size w W) := by rw [← hW]; exact (Below.refl _ w).alloc (Nat.le_refl _) _
  have HKW : Hid (Blk W w.heap.size (.cells #[.int .i64 x.n, .string x.t] 73)) := by rw [← hW]; exact Blk.new _ _
  go_wp2_with fail
  clear hW
  go_loopg [5, 6, 7] l.length (fun g vo dv iv wr => ∃ k : Nat, k + g = l.length ∧ iv = .int .i64 (k : Int) ∧ dv = .bool (dnB x (l.take k)) ∧ wr.ownsRow W.heap.size 73 2 vo (putS x (l.take k)).length (ims (putS x (l.take k))) ∧ Below W.heap.size W wr)
  case atStart => exact ⟨0, Nat.zero_add _, rfl, rfl, World.ownsRow_nil _ _ _ _, Below.refl _ _⟩
  case round =>
    obtain ⟨k, hk, rfl, rfl, hown, hB⟩ := hrel
    have HK := Lib.hid hk
    have HO := Lib.hid hown
    have HB := Lib.hid hB
    have hpl : (putS x (l.take k)).length ≤ k + 1 := Nat.le_trans (putS_len _ _) (by rw [List.length_take]; omega)
    have HPL := Lib.hid hpl
    have q9 := HKW.out.below hB HKW.out.lt
    have z0 := q9.cell 0 (v := .int .i64 x.n) rfl
    have z1 := q9.cell 1 (v := .string x.t) rfl
    have zl := q9.lt
    have hsr := hB.size
    clear q9 hk hown hB
    obtain ⟨bd, HBD⟩ : ∃ b, Hid (dnB x (l.take k) = b) := ⟨_, rfl⟩
    obtain ⟨Q, HQ⟩ : ∃ Q, Hid (putS x (l.take k) = Q) := ⟨_, rfl⟩
    rw [HQ.out] at HO hpl
    rw [HBD.out]
    by_cases hlt : (k : Int) < (l.length : Int)
    · obtain ⟨y, yb, yo, hy, hyb, hyi, hn, ht⟩ := im_at (c := d) (k := k) (HC.out.below (HBW.out.trans (HB.out.mono HBW.out.size)) (Nat.le_refl _)) (by omega)
      have hw1 : IntKind.i64.wrap ((k : Int) + 1) = (k : Int) + 1 := wrap_ok ⟨by omega, by omega⟩
      have HTK := Lib.hid (take_succ_of hy)
      have HY := Lib.hid hy
      have hk1000 : k ≤ 1000 := by omega
      clear hy
      cases bd with
      | true =>
        have HS : Hid (putS x (l.take (k + 1)) = Q ++ [y]) := by show _ = _; rw [HTK.out, putS_yes y HBD.out, HQ.out]
        have HD2 : Hid (dnB x (l.take (k + 1)) = true) := by show _ = _; rw [HTK.out, dnB_snoc, HBD.out]; rfl
        go_upto_region 6 with fail
        refine sall (by kernel_rfl) (by kernel_rfl) (fun Kq hKq => hs_go ?_)
        repeat (first | (refine hs_on rfl (fun K hK => ?_); go_simp; refine hK.out _ ?_; clear hK K) | (refine hs_off rfl ?_; go_simp))
        refine hs_nil (hKq _ ?_)
        clear hKq Kq
        have HOd : Hid (wr.drew.ownsRow W.heap.size 73 2 u5 Q.length (ims Q)) := own_frame HO.out (Frame.refl (fun _ => False) wr).drew (fun _ _ h => h)
        go_wp2_with (at_builtin; go_must (refine wpList_app1' rIm _ rfl _ _ rfl HOd.out rfl [_, _] 1 rfl rfl (by simp [Value.oneCell']) (by omega) (by simp; omega) ?_); intro v2 w2 hown2 hB2 hg2 hloc2)
        go_roundg (l.length - (k + 1))
        case measure => have := HK.out; omega
        case rel => exact ⟨k + 1, by have := HK.out; omega, rfl, by rw [HD2.out], by rw [HS.out, ims_snoc, List.length_append]; exact hown2, (HB.out.drew).trans hB2⟩
      | false =>
        by_cases hgt : x.n < y.n
        · have qg : decide (x.n < y.n) = true := decide_eq_true hgt
          have HS : Hid (putS x (l.take (k + 1)) = Q ++ [x] ++ [y]) := by show _ = _; rw [HTK.out, putS_now HBD.out hgt, HQ.out]
          have HD2 : Hid (dnB x (l.take (k + 1)) = true) := by show _ = _; rw [HTK.out, dnB_snoc, HBD.out, qg]; rfl
          clear hgt
          go_upto_region 6 with fail
          refine sall (by kernel_rfl) (by kernel_rfl) (fun Kq hKq => ?_)
          repeat still_step
          refine wpStill_nil (hKq _ ?_)
          clear hKq Kq
          have HOd : Hid (wr.drew.ownsRow W.heap.size 73 2 u5 Q.length (ims Q)) := own_frame HO.out (Frame.refl (fun _ => False) wr).drew (fun _ _ h => h)
          go_upto_region 8 with (at_builtin; go_must (refine wpList_app1' rIm _ rfl _ _ rfl HOd.out rfl [_, _] 1 rfl rfl (by simp [Value.oneCell']) (by omega) (by simp; omega) ?_); intro v2 w2 hown2 hB2 hg2 hloc2)
          have hql : Q.length ≤ k := by
            have h1 : Q = l.take k := by rw [← HQ.out]; unfold putS; rw [if_neg (by rw [HBD.out]; decide)]
            rw [h1, List.length_take]
            omega
          have HO2 := Lib.hid hown2
          have HB2 : Hid (Below W.heap.size W w2) := (HB.out.drew).trans hB2
          have hs2 := HB2.out.size
          obtain ⟨y2, yb2, yo2, hy2, hyb2, hyi2, hn2, ht2⟩ := im_at (c := d) (k := k) (HC.out.below (HBW.out.trans (HB2.out.mono HBW.out.size)) (Nat.le_refl _)) (by omega)
          rw [HY.out] at hy2
          injection hy2 with hy2
          subst hy2
          clear hown2 HOd hyb hyi hn ht hB2 z0 z1 zl
          go_wp2_with (at_builtin; go_must (refine wpList_app1' rIm _ rfl _ _ rfl HO2.out rfl [_, _] 1 rfl rfl (by simp [Value.oneCell']) (by omega) (by omega) ?_); intro v3 w3 hown3 hB3 hg3 hloc3)
          go_roundg (l.length - (k + 1))
          case measure => have := HK.out; omega
          case rel => exact ⟨k + 1, by have := HK.out; omega, rfl, by rw [HD2.out], by rw [HS.out, ims_snoc, ims_snoc, List.length_append, List.length_append]; exact hown3, HB2.out.trans hB3⟩
        · have qg : decide (x.n < y.n) = false := decide_eq_false hgt
          have HS : Hid (putS x (l.take (k + 1)) = Q ++ [y]) := by show _ = _; rw [HTK.out, putS_not HBD.out hgt, HQ.out]
          have HD2 : Hid (dnB x (l.take (k + 1)) = false) := by show _ = _; rw [HTK.out, dnB_snoc, HBD.out, qg]; rfl
          clear hgt
          go_upto_region 6 with fail
          refine sall (by kernel_rfl) (by kernel_rfl) (fun Kq hKq => ?_)
          repeat still_step
          refine wpStill_nil (hKq _ ?_)
          clear hKq Kq
          have HOd : Hid (wr.drew.ownsRow W.heap.size 73 2 u5 Q.length (ims Q)) := own_frame HO.out (Frame.refl (fun _ => False) wr).drew (fun _ _ h => h)
          go_wp2_with (at_builtin; go_must (refine wpList_app1' rIm _ rfl _ _ rfl HOd.out rfl [_, _] 1 rfl rfl (by simp [Value.oneCell']) (by omega) (by simp; omega) ?_); intro v2 w2 hown2 hB2 hg2 hloc2)
          go_roundg (l.length - (k + 1))
          case measure => have := HK.out; omega
          case rel => exact ⟨k + 1, by have := HK.out; omega, rfl, by rw [HD2.out], by rw [HS.out, ims_snoc, List.length_append]; exact hown2, (HB.out.drew).trans hB2⟩
    · obtain rfl : k = l.length := by have := HK.out; omega
      rw [List.take_length] at HBD HQ
      cases bd with
      | true =>
        obtain ⟨D', d', rfl⟩ := own_fits HO.out
        have HE : Hid (putA x l = Q) := by show _ = _; rw [← HQ.out, putS_end HBD.out]
        go_wp2
        go_ret
        rw [HE.out]
        exact ⟨D', d', rfl, own_mono HO.out HBW.out.size, HBW.out.trans (HB.out.mono HBW.out.size)⟩
      | false =>
        have HE : Hid (putA x l = Q ++ [x]) := by show _ = _; rw [← HQ.out, putS_end' HBD.out]
        go_wp2_with (at_builtin; go_must (refine wpList_app1' rIm _ rfl _ _ rfl HO.out rfl [_, _] 1 rfl rfl (by simp [Value.oneCell']) (by omega) (by omega) ?_); intro v2 w2 hown2 hB2 hg2 hloc2)
        obtain ⟨D', d', rfl⟩ := own_fits hown2
        go_ret
        rw [HE.out, ims_snoc, List.length_append]
        exact ⟨D', d', rfl, own_mono hown2 HBW.out.size, HBW.out.trans ((HB.out.trans hB2).mono HBW.out.size)⟩
end Go.Proofs.Ytejabnoidhlfaaa

/- Contract of the reference: Proper. -/
namespace Go.Proofs.Ytejabnoidhlfaaa
open Go.RowKit Go.Maps

theorem properB_eq (k fr tw nu : Int) (t : ByteArray) (ac he : Int) : properB ⟨k, fr, tw, nu, t, ac, he⟩ = ((decide (1 ≤ fr) && decide (fr ≤ 1000000000)) && ((decide (0 ≤ tw) && decide (tw ≤ 1000000000)) &&
    (if k = 1 then decide (nu = 0) && (decide (t.toList = []) && (decide (ac = 0) && decide (he = 0)))
     else if k = 2 then decide (0 < tw) && ((decide (0 ≤ nu) && decide (nu ≤ 999999999)) && (decide (t.size ≤ 20) && ((decide (0 ≤ ac) && decide (ac ≤ 1000000000)) && (decide (0 ≤ he) && decide (he ≤ 7)))))
     else if k = 3 then decide (0 < tw) && (decide (nu = 0) && (decide (t.toList = []) && ((decide (0 ≤ ac) && decide (ac ≤ 1000000000)) && (decide (0 ≤ he) && decide (he ≤ 7)))))
     else false))) := by
  have ht : decide (t = emptyT) = decide (t.toList = []) := by
    rw [decide_eq_decide]
    exact ⟨fun h => by rw [h]; exact nil_list, fun h => size0 h⟩
  have hn : decide (nu < 1000000000) = decide (nu ≤ 999999999) := by rw [decide_eq_decide]; omega
  unfold properB most
  simp only [ht, hn]
  split
  · simp only [Bool.and_assoc]
  · split
    · simp only [Bool.and_assoc]
    · split
      · simp only [Bool.and_assoc]
      · simp only [Bool.and_false, Bool.and_assoc]
set_option maxRecDepth 100000 in
set_option maxHeartbeats 8000000 in
theorem proper57_any (p : Pk) (w : World) : Calls Try.prog 57 #[pkV p] w fun r w' => r = .returned (.bool (properB p)) ∧ Below w.heap.size w w' := by
  obtain ⟨k, fr, tw, nu, t, ac, he⟩ := p
  obtain ⟨b1, Q1⟩ : ∃ b, Hid ((decide (1 ≤ fr) && decide (fr ≤ 1000000000)) = b) := ⟨_, rfl⟩
  obtain ⟨b2, Q2⟩ : ∃ b, Hid ((decide (0 ≤ tw) && decide (tw ≤ 1000000000)) = b) := ⟨_, rfl⟩
  obtain ⟨b3, Q3⟩ : ∃ b, Hid ((decide (0 ≤ nu) && decide (nu ≤ 999999999)) = b) := ⟨_, rfl⟩
  obtain ⟨b4, Q4⟩ : ∃ b, Hid ((decide (0 ≤ ac) && decide (ac ≤ 1000000000)) = b) := ⟨_, rfl⟩
  obtain ⟨b5, Q5⟩ : ∃ b, Hid ((decide (0 ≤ he) && decide (he ≤ 7)) = b) := ⟨_, rfl⟩
  have HPB := Lib.hid (properB_eq k fr tw nu t ac he)
  unfold pkV
  go_enter Try.func57, Try.ntmps57
  obtain ⟨W, hW⟩ : ∃ W, w.alloc (.cells #[.int .i64 k, .int .i64 fr, .int .i64 tw, .int .i64 nu, .string t, .int .i64 ac, .int .i64 he] 44) = W := ⟨_, rfl⟩
  have HBW : Hid (Below w.heap.size w W) := by rw [← hW]; exact (Below.refl _ w).alloc (Nat.le_refl _) _
  have q9 : Blk W w.heap.size (.cells #[.int .i64 k, .int .i64 fr, .int .i64 tw, .int .i64 nu, .string t, .int .i64 ac, .int .i64 he] 44) := by rw [← hW]; exact Blk.new _ _
  have x0 := q9.cell 0 (v := .int .i64 k) rfl
  have x1 := q9.cell 1 (v := .int .i64 fr) rfl
  have x2 := q9.cell 2 (v := .int .i64 tw) rfl
  have x3 := q9.cell 3 (v := .int .i64 nu) rfl
  have x4 := q9.cell 4 (v := .string t) rfl
  have x5 := q9.cell 5 (v := .int .i64 ac) rfl
  have x6 := q9.cell 6 (v := .int .i64 he) rfl
  have xl := q9.lt
  clear q9
  go_wp2_with fail
  clear hW
  refine (in_any fr _ _ _).mono ?_
  rintro r w9 ⟨rfl, hw9⟩
  obtain rfl := hw9.symm
  rw [Q1.out]
  cases b1 with
  | false =>
    have HNP : Hid (properB ⟨k, fr, tw, nu, t, ac, he⟩ = false) := by show _ = _; rw [HPB.out, Q1.out]; rfl
    go_wp2
    go_ret
    exact ⟨by rw [HNP.out]; rfl, HBW.out⟩
  | true =>
    go_wp2_with fail
    refine (in_any tw _ _ _).mono ?_
    rintro r w9 ⟨rfl, hw9⟩
    obtain rfl := hw9.symm
    rw [Q2.out]
    cases b2 with
    | false =>
      have HNP : Hid (properB ⟨k, fr, tw, nu, t, ac, he⟩ = false) := by show _ = _; rw [HPB.out, Q1.out, Q2.out]; rfl
      go_wp2
      go_ret
      exact ⟨by rw [HNP.out]; rfl, HBW.out⟩
    | true =>
      by_cases k1 : k = 1
      · have s1 : (k == 1) = true := beq_iff_eq.2 k1
        have K1 := Lib.hid k1
        clear k1
        go_upto_region 5 with fail
        by_cases n1 : nu = 0
        · have dn1 : decide (nu = 0) = true := decide_eq_true n1
          have qn1 : (nu == 0) = true := beq_iff_eq.2 n1
          have Dn1 := Lib.hid dn1
          clear n1
          by_cases n2 : t.toList = []
          · have dn2 : decide (t.toList = []) = true := decide_eq_true n2
            have Dn2 := Lib.hid dn2
            by_cases n3 : ac = 0
            · have dn3 : decide (ac = 0) = true := decide_eq_true n3
              have qn3 : (ac == 0) = true := beq_iff_eq.2 n3
              have Dn3 := Lib.hid dn3
              clear n3
              by_cases n4 : he = 0
              · have dn4 : decide (he = 0) = true := decide_eq_true n4
                have qn4 : (he == 0) = true := beq_iff_eq.2 n4
                have Dn4 := Lib.hid dn4
                clear n4
                have HNP : Hid (properB ⟨k, fr, tw, nu, t, ac, he⟩ = true) := by show _ = _; rw [HPB.out, Q1.out, Q2.out, if_pos K1.out, Bool.true_and, Bool.true_and]; simp only [Dn1.out, Dn2.out, Dn3.out, Dn4.out, Bool.true_and]
                go_wp2
                go_ret
                exact ⟨by rw [HNP.out]; rfl, HBW.out⟩
              · have dn4 : decide (he = 0) = false := decide_eq_false n4
                have qn4 : (he == 0) = false := beq_eq_false_iff_ne.2 n4
                have Dn4 := Lib.hid dn4
                clear n4
                have HNP : Hid (properB ⟨k, fr, tw, nu, t, ac, he⟩ = false) := by show _ = _; rw [HPB.out, Q1.out, Q2.out, if_pos K1.out, Bool.true_and, Bool.true_and]; simp only [Dn1.out, Dn2.out, Dn3.out, Dn4.out, Bool.true_and]
                go_wp2
                go_ret
                exact ⟨by rw [HNP.out]; rfl, HBW.out⟩
            · have dn3 : decide (ac = 0) = false := decide_eq_false n3
              have qn3 : (ac == 0) = false := beq_eq_false_iff_ne.2 n3
              have Dn3 := Lib.hid dn3
              clear n3
              have HNP : Hid (properB ⟨k, fr, tw, nu, t, ac, he⟩ = false) := by show _ = _; rw [HPB.out, Q1.out, Q2.out, if_pos K1.out, Bool.true_and, Bool.true_and]; simp only [Dn1.out, Dn2.out, Dn3.out, Bool.true_and, Bool.false_and]
              go_wp2
              go_ret
              exact ⟨by rw [HNP.out]; rfl, HBW.out⟩
          · have dn2 : decide (t.toList = []) = false := decide_eq_false n2
            have Dn2 := Lib.hid dn2
            have HNP : Hid (properB ⟨k, fr, tw, nu, t, ac, he⟩ = false) := by show _ = _; rw [HPB.out, Q1.out, Q2.out, if_pos K1.out, Bool.true_and, Bool.true_and]; simp only [Dn1.out, Dn2.out, Bool.true_and, Bool.false_and]
            go_wp2
            go_ret
            exact ⟨by rw [HNP.out]; rfl, HBW.out⟩
        · have dn1 : decide (nu = 0) = false := decide_eq_false n1
          have qn1 : (nu == 0) = false := beq_eq_false_iff_ne.2 n1
          have Dn1 := Lib.hid dn1
          clear n1
          have HNP : Hid (properB ⟨k, fr, tw, nu, t, ac, he⟩ = false) := by show _ = _; rw [HPB.out, Q1.out, Q2.out, if_pos K1.out, Bool.true_and, Bool.true_and]; simp only [Dn1.out, Bool.false_and]
          go_wp2
          go_ret
          exact ⟨by rw [HNP.out]; rfl, HBW.out⟩
      have s1 : (k == 1) = false := beq_eq_false_iff_ne.2 k1
      have K1 := Lib.hid k1
      clear k1
      by_cases k2 : k = 2
      · have s2 : (k == 2) = true := beq_iff_eq.2 k2
        have K2 := Lib.hid k2
        clear k2
        go_upto_region 7 with fail
        by_cases n5 : 0 < tw
        · have dn5 : decide (0 < tw) = true := decide_eq_true n5
          have Dn5 := Lib.hid dn5
          clear n5
          go_wp2_with fail
          refine (in_any nu _ _ _).mono ?_
          rintro r w9 ⟨rfl, hw9⟩
          obtain rfl := hw9.symm
          rw [Q3.out]
          cases b3 with
          | false =>
            have HNP : Hid (properB ⟨k, fr, tw, nu, t, ac, he⟩ = false) := by show _ = _; rw [HPB.out, Q1.out, Q2.out, if_neg K1.out, if_pos K2.out, Bool.true_and, Bool.true_and]; simp only [Dn5.out, Q3.out, Bool.true_and, Bool.false_and]
            go_wp2
            go_ret
            exact ⟨by rw [HNP.out]; rfl, HBW.out⟩
          | true =>
            by_cases n6 : t.size ≤ 20
            · have dn6 : decide (t.size ≤ 20) = true := decide_eq_true n6
              have en6 : decide ((t.size : Int) ≤ 20) = true := by rw [← dn6, decide_eq_decide]; omega
              have Dn6 := Lib.hid dn6
              clear n6
              go_wp2_with fail
              refine (in_any ac _ _ _).mono ?_
              rintro r w9 ⟨rfl, hw9⟩
              obtain rfl := hw9.symm
              rw [Q4.out]
              cases b4 with
              | false =>
                have HNP : Hid (properB ⟨k, fr, tw, nu, t, ac, he⟩ = false) := by show _ = _; rw [HPB.out, Q1.out, Q2.out, if_neg K1.out, if_pos K2.out, Bool.true_and, Bool.true_and]; simp only [Dn5.out, Q3.out, Dn6.out, Q4.out, Bool.true_and, Bool.false_and]
                go_wp2
                go_ret
                exact ⟨by rw [HNP.out]; rfl, HBW.out⟩
              | true =>
                go_wp2_with fail
                refine (in_any he _ _ _).mono ?_
                rintro r w9 ⟨rfl, hw9⟩
                obtain rfl := hw9.symm
                rw [Q5.out]
                cases b5 with
                | false =>
                  have HNP : Hid (properB ⟨k, fr, tw, nu, t, ac, he⟩ = false) := by show _ = _; rw [HPB.out, Q1.out, Q2.out, if_neg K1.out, if_pos K2.out, Bool.true_and, Bool.true_and]; simp only [Dn5.out, Q3.out, Dn6.out, Q4.out, Q5.out, Bool.true_and]
                  go_wp2
                  go_ret
                  exact ⟨by rw [HNP.out]; rfl, HBW.out⟩
                | true =>
                  have HNP : Hid (properB ⟨k, fr, tw, nu, t, ac, he⟩ = true) := by show _ = _; rw [HPB.out, Q1.out, Q2.out, if_neg K1.out, if_pos K2.out, Bool.true_and, Bool.true_and]; simp only [Dn5.out, Q3.out, Dn6.out, Q4.out, Q5.out, Bool.true_and]
                  go_wp2
                  go_ret
                  exact ⟨by rw [HNP.out]; rfl, HBW.out⟩
            · have dn6 : decide (t.size ≤ 20) = false := decide_eq_false n6
              have en6 : decide ((t.size : Int) ≤ 20) = false := by rw [← dn6, decide_eq_decide]; omega
              have Dn6 := Lib.hid dn6
              clear n6
              have HNP : Hid (properB ⟨k, fr, tw, nu, t, ac, he⟩ = false) := by show _ = _; rw [HPB.out, Q1.out, Q2.out, if_neg K1.out, if_pos K2.out, Bool.true_and, Bool.true_and]; simp only [Dn5.out, Q3.out, Dn6.out, Bool.true_and, Bool.false_and]
              go_wp2
              go_ret
              exact ⟨by rw [HNP.out]; rfl, HBW.out⟩
        · have dn5 : decide (0 < tw) = false := decide_eq_false n5
          have Dn5 := Lib.hid dn5
          clear n5
          have HNP : Hid (properB ⟨k, fr, tw, nu, t, ac, he⟩ = false) := by show _ = _; rw [HPB.out, Q1.out, Q2.out, if_neg K1.out, if_pos K2.out, Bool.true_and, Bool.true_and]; simp only [Dn5.out, Bool.false_and]
          go_wp2
          go_ret
          exact ⟨by rw [HNP.out]; rfl, HBW.out⟩
      have s2 : (k == 2) = false := beq_eq_false_iff_ne.2 k2
      have K2 := Lib.hid k2
      clear k2
      by_cases k3 : k = 3
      · have s3 : (k == 3) = true := beq_iff_eq.2 k3
        have K3 := Lib.hid k3
        clear k3
        go_upto_region 9 with fail
        by_cases n5 : 0 < tw
        · have dn5 : decide (0 < tw) = true := decide_eq_true n5
          have Dn5 := Lib.hid dn5
          clear n5
          by_cases n1 : nu = 0
          · have dn1 : decide (nu = 0) = true := decide_eq_true n1
            have qn1 : (nu == 0) = true := beq_iff_eq.2 n1
            have Dn1 := Lib.hid dn1
            clear n1
            by_cases n2 : t.toList = []
            · have dn2 : decide (t.toList = []) = true := decide_eq_true n2
              have Dn2 := Lib.hid dn2
              go_wp2_with fail
              refine (in_any ac _ _ _).mono ?_
              rintro r w9 ⟨rfl, hw9⟩
              obtain rfl := hw9.symm
              rw [Q4.out]
              cases b4 with
              | false =>
                have HNP : Hid (properB ⟨k, fr, tw, nu, t, ac, he⟩ = false) := by show _ = _; rw [HPB.out, Q1.out, Q2.out, if_neg K1.out, if_neg K2.out, if_pos K3.out, Bool.true_and, Bool.true_and]; simp only [Dn5.out, Dn1.out, Dn2.out, Q4.out, Bool.true_and, Bool.false_and]
                go_wp2
                go_ret
                exact ⟨by rw [HNP.out]; rfl, HBW.out⟩
              | true =>
                go_wp2_with fail
                refine (in_any he _ _ _).mono ?_
                rintro r w9 ⟨rfl, hw9⟩
                obtain rfl := hw9.symm
                rw [Q5.out]
                cases b5 with
                | false =>
                  have HNP : Hid (properB ⟨k, fr, tw, nu, t, ac, he⟩ = false) := by show _ = _; rw [HPB.out, Q1.out, Q2.out, if_neg K1.out, if_neg K2.out, if_pos K3.out, Bool.true_and, Bool.true_and]; simp only [Dn5.out, Dn1.out, Dn2.out, Q4.out, Q5.out, Bool.true_and]
                  go_wp2
                  go_ret
                  exact ⟨by rw [HNP.out]; rfl, HBW.out⟩
                | true =>
                  have HNP : Hid (properB ⟨k, fr, tw, nu, t, ac, he⟩ = true) := by show _ = _; rw [HPB.out, Q1.out, Q2.out, if_neg K1.out, if_neg K2.out, if_pos K3.out, Bool.true_and, Bool.true_and]; simp only [Dn5.out, Dn1.out, Dn2.out, Q4.out, Q5.out, Bool.true_and]
                  go_wp2
                  go_ret
                  exact ⟨by rw [HNP.out]; rfl, HBW.out⟩
            · have dn2 : decide (t.toList = []) = false := decide_eq_false n2
              have Dn2 := Lib.hid dn2
              have HNP : Hid (properB ⟨k, fr, tw, nu, t, ac, he⟩ = false) := by show _ = _; rw [HPB.out, Q1.out, Q2.out, if_neg K1.out, if_neg K2.out, if_pos K3.out, Bool.true_and, Bool.true_and]; simp only [Dn5.out, Dn1.out, Dn2.out, Bool.true_and, Bool.false_and]
              go_wp2
              go_ret
              exact ⟨by rw [HNP.out]; rfl, HBW.out⟩
          · have dn1 : decide (nu = 0) = false := decide_eq_false n1
            have qn1 : (nu == 0) = false := beq_eq_false_iff_ne.2 n1
            have Dn1 := Lib.hid dn1
            clear n1
            have HNP : Hid (properB ⟨k, fr, tw, nu, t, ac, he⟩ = false) := by show _ = _; rw [HPB.out, Q1.out, Q2.out, if_neg K1.out, if_neg K2.out, if_pos K3.out, Bool.true_and, Bool.true_and]; simp only [Dn5.out, Dn1.out, Bool.true_and, Bool.false_and]
            go_wp2
            go_ret
            exact ⟨by rw [HNP.out]; rfl, HBW.out⟩
        · have dn5 : decide (0 < tw) = false := decide_eq_false n5
          have Dn5 := Lib.hid dn5
          clear n5
          have HNP : Hid (properB ⟨k, fr, tw, nu, t, ac, he⟩ = false) := by show _ = _; rw [HPB.out, Q1.out, Q2.out, if_neg K1.out, if_neg K2.out, if_pos K3.out, Bool.true_and, Bool.true_and]; simp only [Dn5.out, Bool.false_and]
          go_wp2
          go_ret
          exact ⟨by rw [HNP.out]; rfl, HBW.out⟩
      have s3 : (k == 3) = false := beq_eq_false_iff_ne.2 k3
      have K3 := Lib.hid k3
      clear k3
      have HNP : Hid (properB ⟨k, fr, tw, nu, t, ac, he⟩ = false) := by show _ = _; rw [HPB.out, Q1.out, Q2.out, if_neg K1.out, if_neg K2.out, if_neg K3.out, Bool.true_and, Bool.true_and]
      go_wp2
      go_ret
      exact ⟨by rw [HNP.out]; rfl, HBW.out⟩
end Go.Proofs.Ytejabnoidhlfaaa
