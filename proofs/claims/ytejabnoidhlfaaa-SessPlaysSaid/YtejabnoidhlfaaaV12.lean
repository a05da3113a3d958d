/- Contracts and lemmas that the claim uses. -/
import Derived.Test.YtejabnoidhlfaaaV11
set_option maxRecDepth 100000
set_option maxHeartbeats 16000000
namespace Go.Proofs.Ytejabnoidhlfaaa
open Go.RowKit Go.Maps
theorem freeIx_app : ∀ (l m : List Ou) (i : Nat), freeIx i (l ++ m) = freeIx i l ++ freeIx (i + l.length) m
 | [], m, i => by simp [freeIx]
 | x :: l, m, i => by
  have ih := freeIx_app l m (i + 1); simp only [List.cons_append, freeIx, List.length_cons]; rw [ih, show i + 1 + l.length = i + (l.length + 1) by omega]; split <;> simp
theorem freeIx_in : ∀ (l : List Ou) (i j : Nat), j ∈ freeIx i l → i ≤ j ∧ j < i + l.length
 | [], i, j, h => by simp [freeIx] at h
 | x :: l, i, j, h => by
  simp only [freeIx] at h; rw [List.length_cons]; split at h
  ·have := freeIx_in l (i + 1) j h; omega
  ·rcases List.mem_cons.1 h with rfl | h
   ·omega
   ·have := freeIx_in l (i + 1) j h; omega
theorem freeIx_len (l : List Ou) (i : Nat) : (freeIx i l).length ≤ l.length := by
 induction l generalizing i with
 | nil => simp [freeIx]
 | cons x l ih =>
  simp only [freeIx]; have := ih (i + 1); split
  ·rw [List.length_cons]; omega
  ·rw [List.length_cons, List.length_cons]; omega
theorem freeIx_held {l : List Ou} {k : Nat} {x : Ou} (h : l[k]? = some x) (hh : x.h = true) : freeIx 0 (l.take (k + 1)) = freeIx 0 (l.take k) := by
 rw [take_succ_of h, freeIx_app]; simp [freeIx, hh]
theorem freeIx_free {l : List Ou} {k : Nat} {x : Ou} (h : l[k]? = some x) (hh : x.h = false) : freeIx 0 (l.take (k + 1)) = freeIx 0 (l.take k) ++ [k] := by
 have hk := (List.getElem?_eq_some_iff.1 h).1; rw [take_succ_of h, freeIx_app, List.length_take]; simp [freeIx, hh]; omega
theorem ints_nats_snoc (l : List Nat) (k : Nat) : ints (nats (l ++ [k])) = ints (nats l) ++ [.int .i64 (k : Int)] := by simp [ints, nats]
theorem tick_any (e : En) (A : Option Addr) (c : Nat) (Bi : Option Addr) (d : Nat) (w : World) (h : EnAt w e A Bi) (hA0 : A = none → e.out.length = 0 ∧ c = 0) :
  Calls Try.prog 17 #[enV e A c Bi d] w fun r w' => ∃ v, r = .returned (.tuple #[v, .int .i64 (tickA e).2]) ∧ w'.ownsRow w.heap.size 44 7 v (tickA e).1.length (pks (tickA e).1) ∧ Below w.heap.size w w' := by
 have HE := Lib.hid h; clear h; unfold enV; go_enter Try.func17, Try.ntmps17
 go_wp2_with fail
 obtain ⟨W, hW⟩ : ∃ W, w.alloc (.cells #[.int .i64 e.life, .int .i64 e.peer, .int .i64 e.phase, .int .i64 e.base, .slice A e.out.length c, .int .i64 e.want, .slice Bi e.inn.length d] 26) = W := ⟨_, rfl⟩; rw [hW]; have HB0 : Hid (Below w.heap.size w W) := by rw [← hW]; exact (Below.refl _ w).alloc (Nat.le_refl _) _
 have hsW : W.heap.size = w.heap.size + 1 := by rw [← hW]; simp
 have HK1 : Hid (Blk W w.heap.size (.cells (enB e A c Bi d) 26)) := by rw [← hW]; exact Blk.new _ _
 clear hW; refine (fine_any e A c Bi d W (HE.out.below HB0.out)).mono ?_; rintro r w1 ⟨rfl, hB1⟩; have HBZ := Lib.hid hB1; clear hB1; obtain ⟨bg, hbg⟩ : ∃ b, Hid (goodB e = b) := ⟨_, rfl⟩; rw [hbg.out]; cases bg with
 | false =>
  have HAG : Hid (tickA e = ([], 2)) := by show _ = _; unfold tickA; rw [if_pos hbg.out]
  go_wp2; go_ret2
  rw [HAG.out]; exact ⟨_, rfl, World.ownsRow_nil _ _ _ _, HB0.out.trans (HBZ.out.mono (by omega))⟩
 | true =>
  have HG : Hid (GoodP e) := good_iff.1 hbg.out; have h1 := HK1.out.below HBZ.out (by omega); obtain ⟨x0, x1, x2, x3, x4, x5, x6, xl⟩ := Blk.d7 h1; clear h1; go_wp2_with fail
  refine (open_any e A c Bi d w1 (HE.out.below (HB0.out.trans (HBZ.out.mono (by omega)))) HG.out hA0).mono ?_; rintro r w3 ⟨bx, bm, A1, c1, rfl, hX3, ho3, hbx, hbm, hB3⟩; clear x0 x1 x2 x3 x4 x5 x6 xl; have HX := Lib.hid hX3; have HB3 : Hid (Below w.heap.size w w3) := HB0.out.trans ((below_in HBZ.out hB3).mono (by omega)); have HA1 : Hid (A1 = none → e.out.length = 0) := fun hn => by
   have h2 := own_cap ho3; have h3 := own_nil ho3 hn; omega
  have hlen := HG.out.len; have hs3 := HB3.out.size; have c2 := hX3.box.cell 2 (v := .int .i64 e.phase) rfl; have lb := hX3.box.lt; obtain ⟨vi, hvi⟩ : ∃ vi, Value.slice Bi e.inn.length d = vi := ⟨_, rfl⟩; rw [hvi] at HX; clear hX3 ho3 hB3 hvi; by_cases hp : e.phase = 3
  ·have q0 : (e.phase != 3) = false := by simpa using hp
   obtain ⟨F, HF⟩ : ∃ F, Hid (flyN e = F) := ⟨_, rfl⟩; have HAG : Hid (tickA e = ((freeIx 0 (e.out.take F)).map (dataA e) ++ [reportA e], 0)) := by show _ = _; unfold tickA; rw [if_neg (by rw [hbg.out]; decide), if_neg (by simpa using hp), HF.out]
   clear hp; have hfl := fly_le e; rw [HF.out] at hfl; go_wp2_with (first
    | (go_at_call 41; go_must (refine (sent_any bx bm e A1 c1 vi w3 HX.out HA1.out (by omega)).mono ?_); rintro r w4 ⟨⟨A', rfl, hC'⟩, rfl⟩; rw [HF.out]; rw [HF.out] at hC')
    | fail)
   have HC := Lib.hid hC'; clear hC'; have HTL : Hid ((e.out.take F).length = F) := by show _ = _; rw [List.length_take]; omega
   go_wp2; go_loopw [25, 5] (fun i vo wr => ∃ k : Nat, k ≤ F ∧ i = .int .i64 k ∧ wr.ownsRow w3.heap.size 3 1 vo (freeIx 0 ((e.out.take F).take k)).length (ints (nats (freeIx 0 ((e.out.take F).take k)))) ∧ Below w3.heap.size w3 wr) (fun i _ _ => F - (intOf i).toNat)
   case atStart => exact ⟨0, Nat.zero_le _, rfl, World.ownsRow_nil _ _ _ _, Below.refl _ _⟩
   case round =>
    obtain ⟨k, hk, rfl, hown, hB⟩ := hrel; have HO := Lib.hid hown; have HB := Lib.hid hB; have hsr := hB.size; clear hown hB; by_cases hlt : k < F
    ·obtain ⟨x, b, o, hx, hb, hix, hc0, hc1⟩ := ou_at (c := F) (k := k) (HC.out.below HB.out (Nat.le_refl _)) (by rw [HTL.out]; exact hlt); rw [HTL.out] at hix; have HXK := Lib.hid hx; clear hx; have hql : Hid ((freeIx 0 ((e.out.take F).take k)).length ≤ k) := Nat.le_trans (freeIx_len _ _) (by rw [List.length_take]; omega); cases hh : x.h with
     | true =>
      have HST := Lib.hid (freeIx_held HXK.out hh); rw [hh] at hc1; obtain ⟨Q, HQ⟩ : ∃ Q, Hid (freeIx 0 ((e.out.take F).take k) = Q) := ⟨_, rfl⟩; rw [HQ.out] at HO HST hql; go_wp2; go_roundw
      case rel => exact ⟨k + 1, by omega, by go_num, by rw [HST.out]; exact HO.out.alloc _, HB.out.alloc (by omega) _⟩
      case measure => simp [intOf]; omega
     | false =>
      have HST := Lib.hid (freeIx_free HXK.out hh); rw [hh] at hc1; obtain ⟨Q, HQ⟩ : ∃ Q, Hid (freeIx 0 ((e.out.take F).take k) = Q) := ⟨_, rfl⟩; rw [HQ.out] at HO HST hql; have HOX := Lib.hid (HO.out.alloc (.cells #[.string x.t, .bool false] 71)); have HBX : Hid (Below w3.heap.size w3 (wr.alloc (.cells #[.string x.t, .bool false] 71))) := HB.out.alloc (by omega) _; have hql2 := hql.out; go_wp2_with (at_builtin; go_must (refine wpList_app1' rInt _ rfl _ _ rfl HOX.out rfl [_] 1 (by rw [World.size_alloc]; rfl) rfl (by simp [Value.oneCell']) (by omega) (by simp; omega) ?_); intro v' w2 hown2 hB2 hg2 hloc2)
      go_roundw
      case rel =>
       refine ⟨k + 1, by omega, by go_num, ?_, HBX.out.trans hB2⟩; rw [HST.out, ints_nats_snoc, List.length_append]; exact hown2
      case measure => simp [intOf]; omega
    ·obtain rfl : k = F := by omega
     have HTT : Hid ((e.out.take k).take k = e.out.take k) := by show _ = _; rw [List.take_take, Nat.min_self]
     rw [HTT.out] at HO; obtain ⟨Q, HQ⟩ : ∃ Q, Hid (freeIx 0 (e.out.take k) = Q) := ⟨_, rfl⟩; have hql : Q.length ≤ k := by rw [← HQ.out]; exact Nat.le_trans (freeIx_len _ _) (by rw [List.length_take]; omega)
     have HQI : Hid (∀ i ∈ Q, i < e.out.length) := by
      show ∀ i ∈ Q, _; intro i hi; rw [← HQ.out] at hi; have := freeIx_in _ _ _ hi; rw [List.length_take] at this; omega
     rw [HQ.out] at HO HAG; obtain ⟨vA, vc, rfl⟩ := own_fits HO.out; have HCS : Hid (Cells wr vA (ints (nats Q))) := (Cells.of_own HO.out (by simp [ints, nats]; omega)).1; go_wp2_with fail
     refine (each_data bx bm e A1 c1 vi vA vc Q wr (HX.out.below HB.out) HCS.out HG.out HQI.out (by omega)).mono ?_; rintro r w5 ⟨v5, rfl, ho5, hB5⟩; have HO5 := Lib.hid ho5; have HB5 : Hid (Below w3.heap.size w3 w5) := below_in HB.out hB5; have hs5 := HB5.out.size; have hs5r := hB5.size; clear ho5 hB5; go_wp2_with fail
     refine (report_any bx bm e A1 c1 vi w5 (HX.out.below HB5.out) HG.out.want).mono ?_; rintro r w6 ⟨rfl, hB6⟩; unfold pkV; have HB6 := Lib.hid hB6; have HO6 := Lib.hid (own_frame HO5.out (Frame.of_all (S := fun _ => False) hB6) (fun _ _ h => h)); have hs6 := HB6.out.size; clear hB6; go_wp2_with (at_builtin; go_must (refine wpList_app1' rPk _ rfl _ _ rfl HO6.out rfl [_, _, _, _, _, _, _] 1 rfl rfl (by simp [Value.oneCell']) (by omega) (by omega) ?_); intro v' w7 hown7 hB7 hg7 hloc7)
     go_ret2
     rw [HAG.out]; refine ⟨_, rfl, ?_, ((HB3.out.trans (HB5.out.mono (by omega))).trans (HB6.out.mono (by omega))).trans (hB7.mono (by omega))⟩; rw [List.length_append, List.length_map, pks_snoc]; exact own_mono hown7 (by omega)
  ·have q0 : (e.phase != 3) = true := by simpa using hp
   have HAG : Hid (tickA e = ([helloA e], 0)) := by show _ = _; unfold tickA; rw [if_neg (by rw [hbg.out]; decide), if_pos hp]
   clear hp; go_wp2_with fail
   refine (hello_any bx bm e A1 c1 vi w3 HX.out).mono ?_; rintro r w5 ⟨rfl, hB5⟩; unfold pkV; have HB5 := Lib.hid hB5; have hs5 := HB5.out.size; clear hB5; go_wp2; go_ret2
   rw [HAG.out]; refine ⟨_, rfl, ?_, (HB3.out.trans (HB5.out.mono (by omega))).alloc (by omega) _⟩; exact ⟨rfl, .inr ⟨w5.heap.size, 1, _, rfl, by omega, Blk.new _ _, Nat.le_refl _, by unfold maxLen; omega, rfl, rfl⟩⟩
def SendPost (e : En) (t : ByteArray) (w : World) (r : Ending) (w' : World) : Prop := ∃ A c D d v, r = .returned (.tuple #[enV (sendA e t).1 A c D d, v, .int .i64 (sendA e t).2.2]) ∧ EnAt w' (sendA e t).1 A D ∧ RowAt w' w.heap.size A (sendA e t).1.out ∧ ImAt w' D (sendA e t).1.inn ∧ (A = none → c = 0) ∧
 (sendA e t).1.out.length ≤ c ∧ w'.ownsRow w.heap.size 44 7 v (sendA e t).2.1.length (pks (sendA e t).2.1) ∧ Below w.heap.size w w'
theorem row_of_own' {w : World} {B c : Nat} {A : Option Addr} {l : List Ou} (h : w.ownsRow B 71 2 (.slice A l.length c) l.length (ous l)) : RowAt w B A l := fun hn => by
 rcases h.2 with ⟨_, h0⟩ | ⟨g, cap, cur, hv, hb, hh, _⟩
 ·exact absurd (List.eq_nil_of_length_eq_zero h0) hn
 ·injection hv with h1; exact ⟨g, 0, cur, h1, hb, hh⟩
theorem send_any (e : En) (A : Option Addr) (c : Nat) (Bi : Option Addr) (d : Nat) (t : ByteArray) (w : World) (h : EnAt w e A Bi) (hA0 : A = none → e.out.length = 0 ∧ c = 0) :
  Calls Try.prog 15 #[enV e A c Bi d, .string t] w (SendPost e t w) := by
 have HE := Lib.hid h; clear h; unfold enV; go_enter Try.func15, Try.ntmps15
 go_wp2_with fail
 obtain ⟨W, hW⟩ : ∃ W, (w.alloc (.cells #[.int .i64 e.life, .int .i64 e.peer, .int .i64 e.phase, .int .i64 e.base, .slice A e.out.length c, .int .i64 e.want, .slice Bi e.inn.length d] 26)).alloc (.cells #[.int .i64 0, .int .i64 0, .int .i64 0, .int .i64 0, .slice none 0 0, .int .i64 0, .slice none 0 0] 26) = W := ⟨_, rfl⟩; rw [hW]; have HB0 : Hid (Below w.heap.size w W) := by rw [← hW]; exact (((Below.refl _ w).alloc (Nat.le_refl _) _).alloc (by simp) _)
 have hsW : W.heap.size = w.heap.size + 2 := by rw [← hW]; simp
 have HK1 : Hid (Blk W w.heap.size (.cells (enB e A c Bi d) 26)) := by rw [← hW]; exact (Blk.new _ _).alloc _
 have HK2 : Hid (Blk W (w.heap.size + 1) (.cells (enB noEn none 0 none 0) 26)) := by
  rw [← hW]; have e1 := Blk.new (w.alloc (.cells #[.int .i64 e.life, .int .i64 e.peer, .int .i64 e.phase, .int .i64 e.base, .slice A e.out.length c, .int .i64 e.want, .slice Bi e.inn.length d] 26)) (.cells #[.int .i64 0, .int .i64 0, .int .i64 0, .int .i64 0, .slice none 0 0, .int .i64 0, .slice none 0 0] 26); rw [World.size_alloc] at e1; exact e1
 clear hW; refine (fine_any e A c Bi d W (HE.out.below HB0.out)).mono ?_; rintro r w1 ⟨rfl, hB1⟩; have HBZ := Lib.hid hB1; clear hB1; obtain ⟨bg, hbg⟩ : ∃ b, Hid (goodB e = b) := ⟨_, rfl⟩; rw [hbg.out]; cases bg with
 | false =>
  have HAG : Hid (sendA e t = (noEn, [], 2)) := by show _ = _; unfold sendA; rw [if_pos hbg.out]
  have h2z := HK2.out.below HBZ.out (by omega); have H2Z := Lib.hid h2z; obtain ⟨z0, z1, z2, z3, z4, z5, z6⟩ := Blk.c7 h2z; obtain ⟨y0, y1, y2, y3, y4, y5, y6, yl⟩ := Blk.g7 h2z; clear h2z; go_wp2; have q1 := setEn_blk (e := noEn) (A := none) (c := 0) (B := none) (d := 0) H2Z.out; have q9 := setEn_below (e := noEn) (A := none) (c := 0) (B := none) (d := 0) (HB0.out.trans (HBZ.out.mono (by omega))) (show w.heap.size ≤ w.heap.size + 1 by omega); have hl1 := load26 q1; refine bodyPost_ret (v := .tuple #[enV noEn none 0 none 0, .slice none 0 0, .int .i64 2]) (results_ctt rfl rfl rfl rfl hl1) rfl ?_; exact ⟨none, 0, none, 0, .slice none 0 0, by rw [HAG.out], by rw [HAG.out]; exact enAt_noEn _, by rw [HAG.out]; exact fun h0 => absurd rfl h0, by rw [HAG.out]; exact fun h0 => absurd rfl h0, fun _ => rfl, by rw [HAG.out]; exact Nat.le_refl _, by rw [HAG.out]; exact World.ownsRow_nil _ _ _ _, q9⟩
 | true =>
  have HG : Hid (GoodP e) := good_iff.1 hbg.out; have h1 := HK1.out.below HBZ.out (by omega); obtain ⟨x0, x1, x2, x3, x4, x5, x6, xl⟩ := Blk.d7 h1; clear h1; by_cases a1 : (20 : Int) < (t.size : Int)
  ·have HAG : Hid (sendA e t = (noEn, [], 3)) := by show _ = _; unfold sendA; rw [if_neg (by rw [hbg.out]; decide), if_pos (.inl (by omega))]
   have h2z := HK2.out.below HBZ.out (by omega); have H2Z := Lib.hid h2z; obtain ⟨z0, z1, z2, z3, z4, z5, z6⟩ := Blk.c7 h2z; obtain ⟨y0, y1, y2, y3, y4, y5, y6, yl⟩ := Blk.g7 h2z; clear h2z; go_wp2; have q1 := setEn_blk (e := noEn) (A := none) (c := 0) (B := none) (d := 0) H2Z.out; have q9 := setEn_below (e := noEn) (A := none) (c := 0) (B := none) (d := 0) (HB0.out.trans (HBZ.out.mono (by omega))) (show w.heap.size ≤ w.heap.size + 1 by omega); have hl1 := load26 q1; refine bodyPost_ret (v := .tuple #[enV noEn none 0 none 0, .slice none 0 0, .int .i64 3]) (results_ctt rfl rfl rfl rfl hl1) rfl ?_; exact ⟨none, 0, none, 0, .slice none 0 0, by rw [HAG.out], by rw [HAG.out]; exact enAt_noEn _, by rw [HAG.out]; exact fun h0 => absurd rfl h0, by rw [HAG.out]; exact fun h0 => absurd rfl h0, fun _ => rfl, by rw [HAG.out]; exact Nat.le_refl _, by rw [HAG.out]; exact World.ownsRow_nil _ _ _ _, q9⟩
  have p1 : decide ((20 : Int) < (t.size : Int)) = false := decide_eq_false a1; by_cases a2 : (e.out.length : Int) = 12
  ·have HAG : Hid (sendA e t = (noEn, [], 3)) := by show _ = _; unfold sendA; rw [if_neg (by rw [hbg.out]; decide), if_pos (.inr (.inl (by omega)))]
   have p2 : ((e.out.length : Int) == 12) = true := beq_iff_eq.2 a2; clear a2; have h2z := HK2.out.below HBZ.out (by omega); have H2Z := Lib.hid h2z; obtain ⟨z0, z1, z2, z3, z4, z5, z6⟩ := Blk.c7 h2z; obtain ⟨y0, y1, y2, y3, y4, y5, y6, yl⟩ := Blk.g7 h2z; clear h2z; go_wp2; have q1 := setEn_blk (e := noEn) (A := none) (c := 0) (B := none) (d := 0) H2Z.out; have q9 := setEn_below (e := noEn) (A := none) (c := 0) (B := none) (d := 0) (HB0.out.trans (HBZ.out.mono (by omega))) (show w.heap.size ≤ w.heap.size + 1 by omega); have hl1 := load26 q1; refine bodyPost_ret (v := .tuple #[enV noEn none 0 none 0, .slice none 0 0, .int .i64 3]) (results_ctt rfl rfl rfl rfl hl1) rfl ?_; exact ⟨none, 0, none, 0, .slice none 0 0, by rw [HAG.out], by rw [HAG.out]; exact enAt_noEn _, by rw [HAG.out]; exact fun h0 => absurd rfl h0, by rw [HAG.out]; exact fun h0 => absurd rfl h0, fun _ => rfl, by rw [HAG.out]; exact Nat.le_refl _, by rw [HAG.out]; exact World.ownsRow_nil _ _ _ _, q9⟩
  have p2 : ((e.out.length : Int) == 12) = false := beq_eq_false_iff_ne.2 a2; have hbl : 0 ≤ e.base := HG.out.base; have hrm : e.base + e.out.length ≤ 1000000000 := HG.out.room; have hw1 : IntKind.i64.wrap (e.base + (e.out.length : Int)) = e.base + (e.out.length : Int) := wrap_ok ⟨by omega, by omega⟩; by_cases a3 : e.base + (e.out.length : Int) = 1000000000
  ·have HAG : Hid (sendA e t = (noEn, [], 3)) := by show _ = _; unfold sendA; rw [if_neg (by rw [hbg.out]; decide), if_pos (.inr (.inr a3))]
   have p3 : (e.base + (e.out.length : Int) == 1000000000) = true := beq_iff_eq.2 a3; clear a3; have h2z := HK2.out.below HBZ.out (by omega); have H2Z := Lib.hid h2z; obtain ⟨z0, z1, z2, z3, z4, z5, z6⟩ := Blk.c7 h2z; obtain ⟨y0, y1, y2, y3, y4, y5, y6, yl⟩ := Blk.g7 h2z; clear h2z; go_wp2; have q1 := setEn_blk (e := noEn) (A := none) (c := 0) (B := none) (d := 0) H2Z.out; have q9 := setEn_below (e := noEn) (A := none) (c := 0) (B := none) (d := 0) (HB0.out.trans (HBZ.out.mono (by omega))) (show w.heap.size ≤ w.heap.size + 1 by omega); have hl1 := load26 q1; refine bodyPost_ret (v := .tuple #[enV noEn none 0 none 0, .slice none 0 0, .int .i64 3]) (results_ctt rfl rfl rfl rfl hl1) rfl ?_; exact ⟨none, 0, none, 0, .slice none 0 0, by rw [HAG.out], by rw [HAG.out]; exact enAt_noEn _, by rw [HAG.out]; exact fun h0 => absurd rfl h0, by rw [HAG.out]; exact fun h0 => absurd rfl h0, fun _ => rfl, by rw [HAG.out]; exact Nat.le_refl _, by rw [HAG.out]; exact World.ownsRow_nil _ _ _ _, q9⟩
  have p3 : (e.base + (e.out.length : Int) == 1000000000) = false := beq_eq_false_iff_ne.2 a3; have HAG : Hid (sendA e t = ({ e with out := e.out ++ [⟨t, false⟩] }, fromA { e with out := e.out ++ [⟨t, false⟩] } (flyN e), 0)) := by show _ = _; unfold sendA; rw [if_neg (by rw [hbg.out]; decide), if_neg (fun h0 => by rcases h0 with h0 | h0 | h0; omega; omega; exact a3 h0)]
  have hlen : e.out.length ≤ 11 := by have := HG.out.len; omega
  clear a2 a3; go_wp2_with fail
  refine (open_any e A c Bi d w1 (HE.out.below (HB0.out.trans (HBZ.out.mono (by omega)))) HG.out hA0).mono ?_; rintro r w3 ⟨bx, bm, A1, c1, rfl, hX3, ho3, hbx, hbm, hB3⟩; clear x0 x1 x2 x3 x4 x5 x6 xl p1 p2 p3 hw1; have hsw1 := HBZ.out.size; have HBZ3 : Hid (Below W.heap.size W w3) := below_in HBZ.out hB3; have HX := Lib.hid hX3; have HO3 := Lib.hid ho3; have HA1 : Hid (A1 = none → e.out.length = 0) := fun hn => by
   have h2 := own_cap ho3; have h3 := own_nil ho3 hn; omega
  have hs3 := HBZ3.out.size; have c4 := hX3.box.cell 4 (v := .slice A1 e.out.length c1) rfl; have lb := hX3.box.lt; obtain ⟨vi, hvi⟩ : ∃ vi, Value.slice Bi e.inn.length d = vi := ⟨_, rfl⟩; rw [hvi] at HX; clear HBZ; have HBZ := HBZ3; clear hX3 ho3 hB3 hvi HBZ3; obtain ⟨F, HF⟩ : ∃ F, Hid (flyN e = F) := ⟨_, rfl⟩; rw [HF.out] at HAG; have hfl := fly_le e; rw [HF.out] at hfl; go_wp2_with (first
   | (go_at_call 41; go_must (refine (sent_any bx bm e A1 c1 vi w3 HX.out HA1.out (by omega)).mono ?_); rintro r w4 ⟨⟨A', rfl, hC'⟩, rfl⟩; rw [HF.out]; clear hC')
   | (at_builtin; go_must (refine wpList_app1' rOu _ rfl _ _ rfl HO3.out rfl [_, _] 1 rfl rfl (by simp [Value.oneCell']) (by omega) (by omega) ?_); intro v6 w6 ho6 hB6 hg6 hloc6; obtain ⟨A6, c6, rfl⟩ := own_fits ho6; have HBX6 : Hid (Blk w6 bx _) := HX.out.box.grown hg6 (own_ne HO3.out HX.out.box (by decide)); have k4 := HBX6.out.cell 4 (v := .slice A1 e.out.length c1) rfl; have k5 := HBX6.out.free 4; have k6 := HBX6.out.lt; have HG6 := Lib.hid hg6; have HO6 := Lib.hid ho6; have HB6 := Lib.hid hB6; clear hg6 ho6 hB6 hloc6))
  clear c4 lb k4 k5 k6; obtain ⟨E, HEE⟩ : ∃ E : En, Hid (({ e with out := e.out ++ [⟨t, false⟩] } : En) = E) := ⟨_, rfl⟩; obtain ⟨w7, hw7⟩ : ∃ w7, w6.setCell ⟨bx, 4, none⟩ (.slice A6 (e.out.length + 1) c6) = w7 := ⟨_, rfl⟩; have HGE : Hid (GoodP E) := by
   have h1 := (send_ok (t := t) hbg.out (by rw [HAG.out])).2.1; rw [HAG.out] at h1; rw [← HEE.out]; exact good_iff.1 h1
  have HL1 : Hid (E.out.length = e.out.length + 1) := by show _ = _; rw [← HEE.out]; simp
  have HOU : Hid (ous E.out = ous e.out ++ [.string t, .bool false]) := by show _ = _; rw [← HEE.out]; exact ous_snoc e.out ⟨t, false⟩
  rw [HEE.out] at HAG; have hlE := HGE.out.len; have HF7 : Hid (Frame (fun b => b = bx) w6 w7) := by rw [← hw7]; exact (Frame.refl (fun b => b = bx) w6).setCell (p := ⟨bx, 4, none⟩) (.inl rfl) _
  have HO7 : Hid (w7.ownsRow w1.heap.size 71 2 (.slice A6 E.out.length c6) E.out.length (ous E.out)) := by
   rw [HL1.out, HOU.out]; exact own_frame HO6.out HF7.out (fun g hg e2 => own_ne HO6.out HBX6.out (by decide) (by rw [hg, e2]))
  have HW3 : Hid (w3.heap.size ≤ w6.heap.size ∧ w6.heap.size ≤ w7.heap.size) := ⟨HG6.out.size, HF7.out.size⟩; have HMB : Hid (bm ≠ bx) := HX.out.map.not_blk HX.out.box; have HXE : Hid (Xs w7 bx bm E A6 c6 vi) := by
   refine ⟨?_, (Cells.of_own HO7.out (by rw [ous_len]; omega)).1, ?_, own_cap HO7.out, own_nil HO7.out⟩
   ·rw [HL1.out, ← hw7, ← HEE.out]; exact HBX6.out.set 4 _
   ·have h2 := (HX.out.map.frame (Frame.of_grown HG6.out) (fun e2 => HX.out.map.not_own HO3.out e2)).frame HF7.out HMB.out; rw [← HEE.out]; exact h2
  have HNE : Hid (∀ a, A6 = some a → a.block ≠ bx) := fun a ha e2 => own_ne HO6.out HBX6.out (by decide) (by rw [ha]; show some a.block = _; rw [e2]); have hsz : w1.heap.size ≥ w.heap.size := by have := HB0.out.size; have := HBZ.out.size; omega
  rw [hw7]; clear hw7; refine (shut_full bx bm E A6 c6 vi w.heap.size w7 HXE.out HGE.out (by omega) (by have := HW3.out; omega) (fun _ => HNE.out)).mono ?_; rintro r w8 ⟨D, dd, rfl, hE8, hB8, hF8, hD8, hI8, hbx8⟩; have HE8 := Lib.hid hE8; have HD8 := Lib.hid hD8; have HI8 := Lib.hid hI8; have HF8 := Lib.hid hF8; have HX8 : Hid (Xs w8 bx bm E A6 c6 (.slice D E.inn.length dd)) := ⟨hbx8, hE8.out, HXE.out.map.frame hF8 HMB.out, HXE.out.cap, HXE.out.nil⟩; have hs8 := hF8.size; clear hE8 hB8 hF8 hD8 hI8 hbx8; unfold enV; go_wp2_with fail
  refine (from_any bx bm E A6 c6 (.slice D E.inn.length dd) F w8 HX8.out (fun hn => by have h1 := HX8.out.cap; have h2 := HX8.out.nil hn; omega) HGE.out (by omega)).mono ?_; rintro r w9 ⟨v9, rfl, ho9, hB9⟩; have HO9 := Lib.hid ho9; have HB9 := Lib.hid hB9; have HBZ9 : Hid (Below W.heap.size W w9) := by
   have h3 := HW3.out; have h1 : Below W.heap.size W w6 := HBZ.out.trans (HB6.out.mono (by omega)); have h2 : Below W.heap.size w6 w8 := (HF7.out.trans HF8.out (fun _ _ h => h)).below (fun b e2 => by omega) (by omega); exact (h1.trans h2).trans (hB9.mono (by omega))
  clear HBZ ho9 hB9; have HBZ := HBZ9; clear HBZ9; have hs9 := HBZ.out.size; have h2z := HK2.out.below HBZ.out (by omega); have H2Z := Lib.hid h2z; obtain ⟨z0, z1, z2, z3, z4, z5, z6⟩ := Blk.c7 h2z; obtain ⟨y0, y1, y2, y3, y4, y5, y6, yl⟩ := Blk.g7 h2z; clear h2z; go_wp2; have q1 := setEn_blk (e := E) (A := A6) (c := c6) (B := D) (d := dd) H2Z.out; have q8 := setEn_frame (e := E) (A := A6) (c := c6) (B := D) (d := dd) (Frame.refl (fun b => b = w.heap.size + 1) w9) (.inl rfl); have q9 := setEn_below (e := E) (A := A6) (c := c6) (B := D) (d := dd) (HB0.out.trans (HBZ.out.mono (by omega))) (show w.heap.size ≤ w.heap.size + 1 by omega); have hl1 := load26 q1; refine bodyPost_ret (v := .tuple #[enV E A6 c6 D dd, v9, .int .i64 0]) (results_ctt rfl rfl rfl rfl hl1) rfl ?_; have hro : RowAt w9 w.heap.size A6 E.out := by
   have h1 : RowAt w7 w.heap.size A6 E.out := row_of_own' (own_mono HO7.out (by omega)); exact (h1.frame HF8.out (fun b cur hb e2 => blk_ne hb HXE.out.box (by decide) e2)).frame (Frame.of_all (S := fun _ => False) HB9.out) (fun _ _ _ h => h)
  have hn71 : ∀ b cur, Blk w9 b (.cells cur 71) → ¬ b = w.heap.size + 1 := fun b cur hb e2 => blk_ne hb H2Z.out (by decide) e2; have hn73 : ∀ b cur, Blk w9 b (.cells cur 73) → ¬ b = w.heap.size + 1 := fun b cur hb e2 => blk_ne hb H2Z.out (by decide) e2; have hE9 := HE8.out.below HB9.out; refine ⟨A6, c6, D, dd, v9, by rw [HAG.out], by rw [HAG.out]; exact ⟨hro.cells hE9.out q8 hn71, hE9.inn.frame q8 (fun _ a ha e2 => by have h1 := HD8.out a ha; have := HW3.out; omega)⟩, by rw [HAG.out]; exact hro.frame q8 hn71, ?_, HX8.out.nil, by rw [HAG.out]; exact HX8.out.cap, ?_, q9⟩
  ·rw [HAG.out]; exact (HI8.out.frame (Frame.of_all (S := fun _ => False) HB9.out) (fun _ _ _ h => h)).frame q8 hn73
  ·rw [HAG.out]; exact own_mono (own_frame HO9.out q8 (fun g hg e2 => own_ne HO9.out H2Z.out (by decide) (by rw [hg, e2]))) (by have := HW3.out; omega)
def tpC (x : Tp) : List Value := [.int .i64 x.to, .int .i64 x.p.kind, .int .i64 x.p.frm, .int .i64 x.p.to, .int .i64 x.p.num, .string x.p.t, .int .i64 x.p.ack, .int .i64 x.p.held]
theorem tpC_len : ∀ x, (tpC x).length = 8 := fun _ => rfl
def tps (l : List Tp) : List Value := l.flatMap tpC
theorem tps_len (l : List Tp) : (tps l).length = l.length * 8 := flat_len tpC_len l
theorem tps_snoc (l : List Tp) (x : Tp) : tps (l ++ [x]) = tps l ++ tpC x := by simp [tps]
structure Tz where
 v : Ta
 S : Option Addr
 cs : Nat
 L : Option Addr
 cl : Nat
 K : Option Addr
 ck : Nat
def tzC (z : Tz) : List Value := [.int .i64 z.v.end_, .int .i64 z.v.life, .int .i64 z.v.peer, .slice z.S z.v.sent.length z.cs, .slice z.L z.v.lost.length z.cl, .slice z.K z.v.taken.length z.ck]
theorem tzC_len : ∀ x, (tzC x).length = 6 := fun _ => rfl
def tzs (l : List Tz) : List Value := l.flatMap tzC
theorem tzs_len (l : List Tz) : (tzs l).length = l.length * 6 := flat_len tzC_len l
theorem tzs_snoc (l : List Tz) (x : Tz) : tzs (l ++ [x]) = tzs l ++ tzC x := by simp [tzs]
theorem rTp : ElemRow Try.prog 56 116 8 72 := ElemRow.mk' (z := .agg #[.int .i64 0, .int .i64 0, .int .i64 0, .int .i64 0, .int .i64 0, .string ByteArray.empty, .int .i64 0, .int .i64 0]) Try.underlying56 (by kernel_rfl) rfl (by decide) (by decide)
theorem rTz : ElemRow Try.prog 57 120 6 96 := ElemRow.mk' (z := .agg #[.int .i64 0, .int .i64 0, .int .i64 0, .slice none 0 0, .slice none 0 0, .slice none 0 0]) Try.underlying57 (by kernel_rfl) rfl (by decide) (by decide)
/-! ### rows of texts -/
structure Rows (w : World) (B : Nat) (xs : List (Value × List ByteArray)) : Prop where
 own : ∀ x ∈ xs, w.ownsRow B 9 1 x.1 x.2.length (strs x.2)
 apart : ∀ (i j : Nat) (x y : Value × List ByteArray), xs[i]? = some x → xs[j]? = some y → i ≠ j → ∀ g, x.1.ownBlock = some g → y.1.ownBlock ≠ some g
section
variable {w w' : World} {B : Nat} {xs : List (Value × List ByteArray)} {S : Nat → Prop}
theorem Rows.frame (h : Rows w B xs) (hF : Frame S w w') (hS : ∀ x ∈ xs, ∀ g, x.1.ownBlock = some g → ¬ S g) : Rows w' B xs := ⟨fun x hx => own_frame (h.own x hx) hF (hS x hx), h.apart⟩
theorem Rows.set (h : Rows w B xs) {i : Nat} {x : Value × List ByteArray} {v' : Value} {t' : List ByteArray} (hi : xs[i]? = some x) (hF : Frame (fun b => x.1.ownBlock = some b) w w') (ho : w'.ownsRow B 9 1 v' t'.length (strs t')) (hl : ∀ g, v'.ownBlock = some g → x.1.ownBlock = some g ∨ w.heap.size ≤ g) :
  Rows w' B (xs.set i (v', t')) := by
 refine ⟨fun y hy => ?_, fun a b y z ha hb hab g hy hz => ?_⟩
 ·obtain ⟨j, hj⟩ := List.getElem?_of_mem hy; rw [List.getElem?_set] at hj; split at hj
  ·split at hj
   ·injection hj with hj; subst hj; exact ho
   ·cases hj
  ·rename_i hne; exact own_frame (h.own y (List.mem_of_getElem? hj)) hF (fun g hg e => h.apart j i y x hj hi (fun e2 => hne e2.symm) g hg e)
 ·rw [List.getElem?_set] at ha hb; have key : ∀ (q : Value × List ByteArray) (n : Nat), xs[n]? = some q → n ≠ i → q.1.ownBlock = some g → v'.ownBlock = some g → False := fun q n hq hn h1 h2 => by
   rcases hl g h2 with h3 | h3
   ·exact h.apart n i q x hq hi hn g h1 h3
   ·have := ((h.own q (List.mem_of_getElem? hq)).lt g h1).2; omega
  by_cases e1 : i = a
  ·rw [if_pos e1] at ha; rw [if_neg (by omega)] at hb; split at ha
   ·injection ha with ha; subst ha; exact key z b hb (by omega) hz hy
   ·cases ha
  ·rw [if_neg e1] at ha; by_cases e2 : i = b
   ·rw [if_pos e2] at hb; split at hb
    ·injection hb with hb; subst hb; exact key y a ha (fun e3 => e1 e3.symm) hy hz
    ·cases hb
   ·rw [if_neg e2] at hb; exact h.apart a b y z ha hb hab g hy hz
theorem Rows.app (h : Rows w B xs) {ys : List (Value × List ByteArray)} (hy : ∀ y ∈ ys, y = (.slice none 0 0, [])) : Rows w B (xs ++ ys) := by
 refine ⟨fun x hx => ?_, fun i j x y hi hj hij g hx hg => ?_⟩
 ·rcases List.mem_append.1 hx with hx | hx
  ·exact h.own x hx
  ·rw [hy x hx]; exact World.ownsRow_nil _ _ _ _
 ·rw [List.getElem?_append] at hi hj; split at hi
  ·split at hj
   ·exact h.apart i j x y hi hj hij g hx hg
   ·rw [hy y (List.mem_of_getElem? hj)] at hg; cases hg
  ·rw [hy x (List.mem_of_getElem? hi)] at hx; cases hx
end
def tx (z : Tz) : List (Value × List ByteArray) := [(.slice z.S z.v.sent.length z.cs, z.v.sent), (.slice z.L z.v.lost.length z.cl, z.v.lost), (.slice z.K z.v.taken.length z.ck, z.v.taken)]
def txs (l : List Tz) : List (Value × List ByteArray) := l.flatMap tx
section
variable {α β : Type} {f : α → List β} {size : Nat}
theorem flatg_get (hf : ∀ x, (f x).length = size) : ∀ (xs : List α) (k j : Nat), j < size → (xs.flatMap f)[k * size + j]? = (xs[k]?).bind fun x => (f x)[j]?
 | [], k, j, _ => by simp
 | x :: xs, 0, j, hj => by
  rw [List.flatMap_cons, Nat.zero_mul, Nat.zero_add, List.getElem?_append_left (by rw [hf]; exact hj)]; rfl
 | x :: xs, k + 1, j, hj => by
  rw [List.flatMap_cons, List.getElem?_append_right (by rw [hf, Nat.succ_mul]; omega), hf, Nat.succ_mul, show k * size + size + j - size = k * size + j by omega, flatg_get hf xs k j hj]; rfl
theorem flatg_set (hf : ∀ x, (f x).length = size) : ∀ (xs : List α) (k j : Nat) (x y : α) (v : β), j < size → xs[k]? = some x → f y = (f x).set j v → (xs.flatMap f).set (k * size + j) v = (xs.set k y).flatMap f
 | [], k, j, x, y, v, _, h, _ => by simp at h
 | z :: xs, 0, j, x, y, v, hj, h, hy => by
  have e : z = x := by simpa using h
  subst e; rw [List.flatMap_cons, Nat.zero_mul, Nat.zero_add, List.set_cons_zero, List.flatMap_cons, hy, List.set_append_left _ _ (by rw [hf]; exact hj)]
 | z :: xs, k + 1, j, x, y, v, hj, h, hy => by
  have ih := flatg_set hf xs k j x y v hj (by simpa using h) hy; rw [List.flatMap_cons, List.set_cons_succ, List.flatMap_cons, ← ih, List.set_append_right _ _ (by rw [hf, Nat.succ_mul]; omega), hf, Nat.succ_mul, show k * size + size + j - size = k * size + j by omega]
end
theorem own_set {w : World} {B : Nat} {e : TypeId} {size n g i c : Nat} {m : Nat} {xs : List Value} (h : w.ownsRow B e size (.slice (some ⟨g, 0, none⟩) m c) n xs) (_hi : i < xs.length) (v : Value) :
  (w.setCell ⟨g, i, none⟩ v).ownsRow B e size (.slice (some ⟨g, 0, none⟩) m c) n (xs.set i v) := by
 refine ⟨by rw [List.length_set]; exact h.1, ?_⟩; rcases h.2 with ⟨hv, _⟩ | ⟨g', cap, cur, hv, hb, hh, h1, h2, h3, h4⟩
 ·cases hv
 ·injection hv with e1 e2 e3; injection e1 with e1; injection e1 with e1; subst e1; refine .inr ⟨g, cap, cur.setIfInBounds i v, by rw [e2, e3], hb, (Blk.set hh i v), h1, h2, by simpa using h3, ?_⟩; rw [← h4, Array.toList_setIfInBounds, List.take_set]
theorem own_some {w : World} {B : Nat} {e : TypeId} {size n c : Nat} {A : Option Addr} {m : Nat} {xs : List Value} (h : w.ownsRow B e size (.slice A m c) n xs) (hn : 0 < n) : ∃ g cur, A = some ⟨g, 0, none⟩ ∧ m = n ∧ Blk w g (.cells cur e) := by
 rcases h.2 with ⟨_, h0⟩ | ⟨g, cap, cur, hv, hb, hh, _⟩
 ·omega
 ·injection hv with e1 e2 e3; exact ⟨g, cur, e1, e2, hh⟩
end Go.Proofs.Ytejabnoidhlfaaa
