/- Contracts and lemmas that the claim uses. -/
import Derived.Test.YtejabnoidhlfaaaV24
set_option maxRecDepth 100000
set_option maxHeartbeats 16000000
namespace Go.Proofs.Ytejabnoidhlfaaa
open Go.RowKit Go.Maps
def ddC (d : Dd) : List Value := [.int .i64 d.do_, .int .i64 d.end_, .int .i64 d.at_, .string d.t]
theorem ddC_len : ∀ x, (ddC x).length = 4 := fun _ => rfl
def dds (l : List Dd) : List Value := l.flatMap ddC
theorem dds_len (l : List Dd) : (dds l).length = l.length * 4 := flat_len ddC_len l
theorem rDd : ElemRow Try.prog 52 77 4 40 := ElemRow.mk' (z := .agg #[.int .i64 0, .int .i64 0, .int .i64 0, .string ByteArray.empty]) Try.underlying52 (by kernel_rfl) rfl (by decide) (by decide)
theorem dd_at {w : World} {A : Option Addr} {l : List Dd} {c k : Nat} (h : Cells w A (dds l)) (hk : k < l.length) : ∃ x b o, l[k]? = some x ∧ b < w.heap.size ∧ (∀ w', (Instr.indexAt 52 (.slice A l.length c) (.int .i64 (k : Int))).run Try.prog w' = .ok (.pointer (some ⟨b, o, none⟩)) w') ∧
  w.cell? ⟨b, o, none⟩ = some (.int .i64 x.do_) ∧ w.cell? ⟨b, o + 1, none⟩ = some (.int .i64 x.end_) ∧ w.cell? ⟨b, o + 2, none⟩ = some (.int .i64 x.at_) ∧ w.cell? ⟨b, o + 3, none⟩ = some (.string x.t) := by
 obtain ⟨x, b, o, hx, hb, hix, hc⟩ := flat_at (c := c) h ddC_len Try.underlying52 rDd.size_eq (by decide) hk; exact ⟨x, b, o, hx, hb, hix, hc 0 _ rfl, hc 1 _ rfl, hc 2 _ rfl, hc 3 _ rfl⟩
theorem all_take {l : List Dd} {k : Nat} {x : Dd} (h : ∀ d ∈ l.take k, deedB d = true) (hx : l[k]? = some x) (hd : deedB x = true) : ∀ d ∈ l.take (k + 1), deedB d = true := by
 intro d hm; rw [take_succ_of hx] at hm; rcases List.mem_append.1 hm with hm | hm
 ·exact h d hm
 ·have : d = x := by simpa using hm
  subst this; exact hd
theorem foldl_take {l : List Dd} {k : Nat} {x : Dd} (hx : l[k]? = some x) (a : Lp) : (l.take (k + 1)).foldl doesA a = doesA ((l.take k).foldl doesA a) x := by
 rw [take_succ_of hx, List.foldl_append]; rfl
def PlPost (ds : List Dd) (w : World) (r : Ending) (w' : World) : Prop := ∃ v, r = .returned (.tuple #[v, .int .i64 (playedA ds).2]) ∧ ((playedA ds).2 = 0 → ∃ bl m, v = .pointer (some ⟨bl, 0, none⟩) ∧ Lo w' w.heap.size bl (playedA ds).1 m) ∧ Below w.heap.size w w'
theorem played_any (A : Option Addr) (c : Nat) (ds : List Dd) (w : World) (h : Cells w A (dds ds)) : Calls Try.prog 63 #[.slice A ds.length c] w (PlPost ds w) := by
 have HC := Lib.hid h; clear h; go_enter Try.func63, Try.ntmps63
 go_wp2_with fail
 refine (first_any w).mono ?_; rintro r w1 ⟨bl, m, rfl, hl, hB⟩; have HL := Lib.hid hl; have HB := Lib.hid hB; clear hl hB; by_cases h2 : (200 : Int) < (ds.length : Int)
 ·have HP : Hid (playedA ds = (firstA, 3)) := by show _ = _; unfold playedA; rw [if_pos (by omega)]
  go_wp2; go_ret2
  exact ⟨.pointer none, by rw [HP.out]; rfl, fun h0 => (by rw [HP.out] at h0; cases h0), HB.out⟩
 have q2 : decide ((200 : Int) < (ds.length : Int)) = false := decide_eq_false h2; have HLN : Hid (ds.length ≤ 200) := by show _ ≤ _; omega
 clear h2; go_wp2_with fail
 go_loopg [15] ds.length (fun g iv wr => ∃ k : Nat, k + g = ds.length ∧ iv = .int .i64 (k : Int) ∧ (∀ d ∈ ds.take k, deedB d = true) ∧ Below w1.heap.size w1 wr)
 case atStart => exact ⟨0, Nat.zero_add _, rfl, fun d hd => by simp at hd, Below.refl _ _⟩
 case round =>
  obtain ⟨k, hk, rfl, hall, hBr⟩ := hrel; have HK := Lib.hid hk; have HA := Lib.hid hall; have HBR := Lib.hid hBr; clear hk hall hBr; by_cases hlt : (k : Int) < (ds.length : Int)
  ·obtain ⟨x, b, o, hx, hb, hix, hc0, hc1, hc2, hc3⟩ := dd_at (c := c) (k := k) ((HC.out.below HB.out (Nat.le_refl _)).below HBR.out (Nat.le_refl _)) (by omega); have HX := Lib.hid hx; have hw1 : IntKind.i64.wrap ((k : Int) + 1) = (k : Int) + 1 := wrap_ok ⟨by omega, by have := HLN.out; omega⟩; clear hx; go_wp2_with fail
   obtain ⟨X, hX⟩ : ∃ X, wr.alloc (.cells #[.int .i64 x.do_, .int .i64 x.end_, .int .i64 x.at_, .string x.t] 77) = X := ⟨_, rfl⟩; have HBX : Hid (Below w1.heap.size w1 X) := by rw [← hX]; exact HBR.out.alloc HBR.out.size _
   rw [hX]; clear hX hc0 hc1 hc2 hc3 hix hb; refine (proves_any x X).mono ?_; rintro r w3 ⟨rfl, hB3⟩; have HB3 : Hid (Below w1.heap.size w1 w3) := below_in HBX.out hB3; clear hB3; obtain ⟨pv, HPV⟩ : ∃ pv, Hid (deedB x = pv) := ⟨_, rfl⟩; rw [HPV.out]; cases pv with
   | true =>
    go_wp2_with fail
    go_roundg (ds.length - (k + 1))
    case measure => have := HK.out; omega
    case rel => exact ⟨k + 1, by omega, rfl, all_take HA.out HX.out HPV.out, HB3.out⟩
   | false =>
    have HP : Hid (playedA ds = (firstA, 2)) := by
     show _ = _; unfold playedA; have hl := HLN.out; have h9 : ds.all deedB = false := by
      cases hq : ds.all deedB with
      | false => rfl
      | true =>
       have := List.all_eq_true.1 hq x (List.mem_of_getElem? HX.out); rw [HPV.out] at this; cases this
     rw [if_neg (by omega), if_pos h9]
    go_wp2; go_ret2
    exact ⟨.pointer none, by rw [HP.out]; rfl, fun h0 => (by rw [HP.out] at h0; cases h0), HB.out.trans (HB3.out.mono HB.out.size)⟩
  ·have hke : k = ds.length := by have := HK.out; omega
   have HALL : Hid (∀ d ∈ ds, deedB d = true) := fun d hd => HA.out d (by rw [hke, List.take_length]; exact hd); have HBL : Hid (Lo wr w.heap.size bl firstA m) := HL.out.below HBR.out; have HBW : Hid (Below w.heap.size w wr) := HB.out.trans (HBR.out.mono HB.out.size); have HP : Hid (playedA ds = (ds.foldl doesA firstA, 0)) := by
    show _ = _; unfold playedA; have hl := HLN.out; have h9 : ¬ ds.all deedB = false := by
     rw [List.all_eq_true.2 HALL.out]; decide
    rw [if_neg (by omega), if_neg h9]
   clear hke HK HA HBR HL; obtain ⟨w2, rfl⟩ : ∃ w2, w2 = wr := ⟨wr, rfl⟩; go_wp2_with fail
   go_loopg [25] ds.length (fun g iv wr => ∃ (k : Nat) (M : Lm), k + g = ds.length ∧ iv = .int .i64 (k : Int) ∧ Lo wr w.heap.size bl ((ds.take k).foldl doesA firstA) M ∧ Below w.heap.size w wr)
   case atStart => exact ⟨0, m, Nat.zero_add _, rfl, HBL.out, HBW.out⟩
   case round =>
    obtain ⟨k, M, hk, rfl, hl, hBr⟩ := hrel; have HK := Lib.hid hk; have HLR := Lib.hid hl; have HBR := Lib.hid hBr; clear hk hl hBr hlt; by_cases hlt : (k : Int) < (ds.length : Int)
    ·obtain ⟨x, b, o, hx, hb, hix, hc0, hc1, hc2, hc3⟩ := dd_at (c := c) (k := k) (HC.out.below HBR.out (Nat.le_refl _)) (by omega); have HX := Lib.hid hx; have hw1 : IntKind.i64.wrap ((k : Int) + 1) = (k : Int) + 1 := wrap_ok ⟨by omega, by have := HLN.out; omega⟩; have HKL : Hid (k < ds.length) := by show _ < _; omega
     clear hx; go_wp2_with fail
     obtain ⟨X, hX⟩ : ∃ X, wr.alloc (.cells #[.int .i64 x.do_, .int .i64 x.end_, .int .i64 x.at_, .string x.t] 77) = X := ⟨_, rfl⟩; have hBX : Below wr.heap.size wr X := by rw [← hX]; exact (Below.refl _ wr).alloc (Nat.le_refl _) _
     have HBX := Lib.hid hBX; rw [hX]; clear hX hc0 hc1 hc2 hc3 hix hb hBX; have HLK : Hid (LineK ((ds.take k).foldl doesA firstA) (0 + 20 * (ds.take k).length)) := folds_k (ds.take k) firstA 0 (fun d hd => HALL.out d (List.mem_of_mem_take hd)) first_k; refine (does_any w.heap.size bl ((ds.take k).foldl doesA firstA) M x X (0 + 20 * (ds.take k).length) (HLR.out.below HBX.out) HLK.out (by rw [List.length_take]; have := HLN.out; omega) (HALL.out x (List.mem_of_getElem? HX.out))).mono ?_; rintro r w3 ⟨rfl, M3, hl3, hs3⟩; have HL3 := Lib.hid hl3; have HB3 : Hid (Below w.heap.size w w3) := (HBR.out.trans (HBX.out.mono HBR.out.size)).trans (hs3.below (HLR.out.below HBX.out)); clear hl3 hs3; go_wp2_with fail
     go_roundg (ds.length - (k + 1))
     case measure => have := HK.out; have := HKL.out; omega
     case rel => exact ⟨k + 1, M3, by have := HKL.out; omega, rfl, by rw [foldl_take HX.out]; exact HL3.out, HB3.out⟩
    ·have hke : k = ds.length := by have := HK.out; omega
     have HLE : Hid (Lo wr w.heap.size bl (ds.foldl doesA firstA) M) := by
      have h9 := HLR.out; rw [hke, List.take_length] at h9; exact h9
     clear hke; go_wp2; go_ret2
     exact ⟨.pointer (some ⟨bl, 0, none⟩), by rw [HP.out]; rfl, fun _ => ⟨bl, M, rfl, by rw [HP.out]; exact HLE.out⟩, HBR.out⟩
end Go.Proofs.Ytejabnoidhlfaaa
namespace Go.Proofs.Ytejabnoidhlfaaa
theorem end_life0 {l : Lp} {i : Int} (hi : i = 0 ∨ i = 1) {e : En} {n : Int} (h : e.life ≤ (l.end_ i).life + n) (h0 : 0 ≤ n) : (l.setEnd i e).e0.life ≤ l.e0.life + n ∧ (l.setEnd i e).e1.life ≤ l.e1.life + n := by
 rcases hi with rfl | rfl
 ·exact ⟨h, by show l.e1.life ≤ _; omega⟩
 ·exact ⟨by show l.e0.life ≤ _; omega, h⟩
theorem does_life {l : Lp} (h : LineOk l) {d : Dd} (hd : deedB d = true) : (doesA l d).e0.life ≤ l.e0.life + 1 ∧ (doesA l d).e1.life ≤ l.e1.life + 1 := by
 have hi := deed_end hd; have hg := h.good d.end_; have hself : l.e0.life ≤ l.e0.life + 1 ∧ l.e1.life ≤ l.e1.life + 1 := by omega
 have hw : ∀ (L : Lp) (i : Int) (ps : List Pk), (wayA L i ps).e0 = L.e0 ∧ (wayA L i ps).e1 = L.e1 := fun L i ps => by rw [way_eq]; exact ⟨rfl, rfl⟩
 unfold doesA; simp only; split
 ·split
  ·rename_i hs; have hb := becomes_e l d.end_ (sendA (l.end_ d.end_) d.t).1; rw [(hw _ _ _).1, (hw _ _ _).2, hb.1, hb.2.1]; refine end_life0 hi ?_ (by omega); rw [(send_ok hg hs).1]; show (l.end_ d.end_).life ≤ _; omega
  ·exact hself
 ·split
  ·rw [(hw _ _ _).1, (hw _ _ _).2]; exact hself
  ·split
   ·split
    ·rename_i hs; have hb := becomes_e l d.end_ (againA (l.end_ d.end_)).1; rw [hb.1, hb.2.1]; refine end_life0 hi ?_ (by omega); rw [(again_ok hg hs).1]; exact Int.le_refl _
    ·exact hself
   ·split
    ·exact hself
    ·rename_i hwn; have hklt : (d.at_ % (l.wire.length : Int)).toNat < l.wire.length := by
      have h2 := Int.emod_lt_of_pos d.at_ (show (0 : Int) < (l.wire.length : Int) by omega); have h1 := Int.emod_nonneg d.at_ (show (l.wire.length : Int) ≠ 0 by omega); omega
     split
     ·obtain ⟨_, _, _, h4, h5⟩ := carry_less h hklt; rw [h4, h5]; exact hself
     ·split
      ·exact hself
      ·split
       ·exact hself
       ·rw [(hw _ _ _).1, (hw _ _ _).2]; exact hself
theorem folds_life : ∀ (m : List Dd) (x : Lp), (∀ d ∈ m, deedB d = true) → LineOk x → (m.foldl doesA x).e0.life ≤ x.e0.life + m.length ∧ (m.foldl doesA x).e1.life ≤ x.e1.life + m.length
 | [], x, _, _ => by simp
 | d :: m, x, hm, hx => by
  have h1 := folds_life m (doesA x d) (fun y hy => hm y (List.mem_cons_of_mem _ hy)) (does_ok hx (hm d List.mem_cons_self)); have h2 := does_life hx (hm d List.mem_cons_self); rw [List.foldl_cons, List.length_cons]; omega
theorem quiet0_k {l : Lp} {n : Nat} (h : LineK l n) : LineK (quiet0 l) (n + 10) := by
 have hf : LineK { l with free := true } n := ⟨⟨h.ok.g0, h.ok.g1, h.ok.p0, h.ok.p1, h.ok.wire⟩, h.now, ⟨h.bulk.wire, h.bulk.tales, h.bulk.txt⟩⟩; have t0 := tick_ok h.ok.g0; have t1 := tick_ok h.ok.g1; have p0 := tick_packets l.e0; have p1 := tick_packets l.e1; have k1 : LineK (wayA { l with free := true } 0 (tickA l.e0).1) (n + 5) := ⟨way_ok hf.ok (.inl rfl) (fun q hq => t0.2 q hq), hf.now.way _ _, (hf.bulk.way _ _).mono (by omega)⟩; have he : (wayA { l with free := true } 0 (tickA l.e0).1).e1 = l.e1 := by rw [way_eq]
 unfold quiet0; simp only; rw [he]; exact ⟨way_ok k1.ok (.inr rfl) (fun q hq => by
  have := t1.2 q hq; refine ⟨this.1, ?_⟩; show q.frm = (wayA { l with free := true } 0 (tickA l.e0).1).e1.life; rw [he]; exact this.2), k1.now.way _ _, (k1.bulk.way _ _).mono (by omega)⟩
theorem quiet0_e (l : Lp) : (quiet0 l).e0 = l.e0 ∧ (quiet0 l).e1 = l.e1 := by
 unfold quiet0; simp only; rw [way_eq, way_eq]; exact ⟨rfl, rfl⟩
theorem pw_le (L L' : Int) (p : Pk) : pw L L' p ≤ 4 := by
 unfold pw wgt; split <;> split <;> split <;> omega
theorem tws_le (L0 L1 : Int) : ∀ l : List Tp, tws L0 L1 l ≤ 4 * l.length
 | [] => by simp [tws]
 | x :: l => by
  have h1 := tws_le L0 L1 l; have h2 : tw L0 L1 x ≤ 4 := by unfold tw; split <;> exact pw_le _ _ _
  have h3 : tws L0 L1 (x :: l) = tw L0 L1 x + tws L0 L1 l := rfl; rw [List.length_cons]; omega
theorem pot_le {L' : Int} {e : En} (h : GoodP e) {k : Nat} (hL : L' ≤ k) : pot L' e ≤ 39 + 6 * k := by
 have h1 := h.len; have h2 := h.peer.1; unfold pot; split <;> omega
theorem mes_le {l : Lp} {n k : Nat} (h : LineK l n) (h0 : l.e0.life ≤ k) (h1 : l.e1.life ≤ k) : mes l ≤ 4 * n + 78 + 12 * k := by
 have a := tws_le l.e0.life l.e1.life l.wire; have b := pot_le (good_iff.1 h.ok.g0) h1; have c := pot_le (good_iff.1 h.ok.g1) h0; have d := h.bulk.wire; unfold mes; omega
def quietA (ds : List Dd) (order : List Int) : Ln × Int × Int :=
 if 200 < order.length then (noLn, 0, 3) else if (playedA ds).2 ≠ 0 then (noLn, 0, (playedA ds).2) else
  match quietN order (mes (quiet0 (playedA ds).1)) 0 (quiet0 (playedA ds).1) with
  | none => (noLn, 0, 0)
  | some r => (showA r.1, r.2, 0)
theorem played_k {ds : List Dd} (h : (playedA ds).2 = 0) : ds.length ≤ 200 ∧ LineK (playedA ds).1 4000 ∧ (playedA ds).1.e0.life ≤ 201 ∧ (playedA ds).1.e1.life ≤ 201 ∧ (∀ d ∈ ds, deedB d = true) ∧ (playedA ds).1 = ds.foldl doesA firstA := by
 unfold playedA at h ⊢; split
 ·rename_i h1; rw [if_pos h1] at h; cases h
 ·rename_i h1; rw [if_neg h1] at h; split
  ·rename_i h2; rw [if_pos h2] at h; cases h
  ·rename_i h2; have hall : ∀ d ∈ ds, deedB d = true := by
    have : ds.all deedB = true := by
     cases hq : ds.all deedB with
     | true => rfl
     | false => exact absurd hq h2
    exact List.all_eq_true.1 this
   have hk := folds_k ds firstA 0 hall first_k; have hl := folds_life ds firstA hall first_ok; have e0 : firstA.e0.life = 1 := rfl; have e1 : firstA.e1.life = 1 := rfl; exact ⟨by omega, ⟨hk.ok, hk.now, hk.bulk.mono (by omega)⟩, by show (ds.foldl doesA firstA).e0.life ≤ _; omega, by show (ds.foldl doesA firstA).e1.life ≤ _; omega, hall, rfl⟩
theorem quiet_mes {ds : List Dd} (h : (playedA ds).2 = 0) : mes (quiet0 (playedA ds).1) ≤ 20000 := by
 obtain ⟨_, hk, h0, h1, _⟩ := played_k h; have hq := quiet0_k hk; have he := quiet0_e (playedA ds).1; have := mes_le hq (k := 201) (by rw [he.1]; omega) (by rw [he.2]; omega); omega
theorem next_lt (order : List Int) (n : Nat) {len : Nat} (h0 : 0 < len) : nextK order n len < len := by
 unfold nextK; split
 ·omega
 ·rename_i o _; have h1 := Int.emod_nonneg (o % 18446744073709551616) (show (len : Int) ≠ 0 by omega); have h2 := Int.emod_lt_of_pos (o % 18446744073709551616) (show (0 : Int) < (len : Int) by omega); omega
theorem quietN_step (order : List Int) {f n : Nat} {l : Lp} (h0 : ¬ l.wire.length = 0) : quietN order (f + 1) n l = quietN order f (n + 1) (carryA l (nextK order n l.wire.length)) := by
 rw [quietN, if_neg h0]
theorem quietN_end (order : List Int) {f n : Nat} {l : Lp} (h0 : l.wire.length = 0) : quietN order f n l = some (l, n) := by
 unfold quietN; rw [if_pos h0]
end Go.Proofs.Ytejabnoidhlfaaa
namespace Go.Proofs.Ytejabnoidhlfaaa
open Go.RowKit Go.Maps
theorem lnAt_no (w : World) (B : Nat) : LnAt w B noLn none none none [] [] :=
 ⟨Cells.nil _ _, rfl, fun z hz => (by cases hz), Cells.nil _ _, Cells.nil _ _, rfl, fun z hz => (by cases hz), ⟨fun a ha => (by cases ha), fun a ha => (by cases ha), fun a ha => (by cases ha), fun z hz => (by cases hz)⟩, fun z hz => (by cases hz)⟩
def PyPost (ds : List Dd) (w : World) (r : Ending) (w' : World) : Prop := ∃ EA ce WA cw TA ct es zs, r = .returned (.tuple #[lnV (playA ds).1 EA ce WA cw TA ct, .int .i64 (playA ds).2]) ∧ LnAt w' w.heap.size (playA ds).1 EA WA TA es zs ∧ Below w.heap.size w w' ∧ (playA ds).1.tales.length ≤ ct
theorem play_any (A : Option Addr) (c : Nat) (ds : List Dd) (w : World) (h : Cells w A (dds ds)) : Calls Try.prog 25 #[.slice A ds.length c] w (PyPost ds w) := by
 have HC := Lib.hid h; clear h; go_enter Try.func25, Try.ntmps25
 go_wp2_with fail
 obtain ⟨W, hW⟩ : ∃ W, w.alloc (.cells #[.slice none 0 0, .slice none 0 0, .slice none 0 0] 59) = W := ⟨_, rfl⟩; have HBW : Hid (Below w.heap.size w W) := by rw [← hW]; exact (Below.refl _ w).alloc (Nat.le_refl _) _
 have HKW : Hid (Blk W w.heap.size (.cells #[.slice none 0 0, .slice none 0 0, .slice none 0 0] 59)) := by rw [← hW]; exact Blk.new _ _
 rw [hW]; clear hW; refine (played_any A c ds W (HC.out.below HBW.out (Nat.le_refl _))).mono ?_; rintro r w1 ⟨v, rfl, hok, hB1⟩; have HOK := Lib.hid hok; have HB1 := Lib.hid hB1; have hk1 := HKW.out.below hB1 HKW.out.lt; have HK1 := Lib.hid hk1; have hsw := HKW.out.lt; obtain ⟨z0, z1, z2⟩ := Blk.c3 hk1; obtain ⟨y0, y1, y2, yl⟩ := Blk.g3 hk1; clear hok hB1 hk1; obtain ⟨e, HE⟩ : ∃ e, Hid ((playedA ds).2 = e) := ⟨_, rfl⟩; rw [HE.out]; have HBW1 : Hid (Below w.heap.size w w1) := HBW.out.trans (HB1.out.mono (by omega)); cases q : (e != 0) with
 | true =>
  have HP : Hid (playA ds = (noLn, e)) := by
   show _ = _; unfold playA; rw [HE.out, if_neg (by simpa using q)]
  go_wp2; obtain ⟨W3, hW3⟩ : ∃ W3, ((w1.setCell ⟨w.heap.size, 0, none⟩ (.slice none 0 0)).setCell ⟨w.heap.size, 1, none⟩ (.slice none 0 0)).setCell ⟨w.heap.size, 2, none⟩ (.slice none 0 0) = W3 := ⟨_, rfl⟩; have HK3 : Hid (Blk W3 w.heap.size (.cells #[.slice none 0 0, .slice none 0 0, .slice none 0 0] 59)) := by rw [← hW3]; exact ((HK1.out.set 0 _).set 1 _).set 2 _
  have HB3 : Hid (Below w.heap.size w W3) := by rw [← hW3]; exact ((HBW1.out.setCell (Nat.le_refl _) _).setCell (Nat.le_refl _) _).setCell (Nat.le_refl _) _
  rw [hW3]; obtain ⟨c0, c1, c2⟩ := Blk.c3 HK3.out; clear hW3 z0 z1 z2 y0 y1 y2 yl; have hl : (loadVar 59 ⟨w.heap.size, 0, none⟩).run Try.prog W3 = .ok (.agg #[.slice none 0 0, .slice none 0 0, .slice none 0 0]) W3 := by go_simp
  refine bodyPost_ret (v := .tuple #[.agg #[.slice none 0 0, .slice none 0 0, .slice none 0 0], .int .i64 e]) (results_ct rfl rfl rfl hl) rfl ⟨none, 0, none, 0, none, 0, [], [], by rw [HP.out]; rfl, by rw [HP.out]; exact lnAt_no _ _, HB3.out, by rw [HP.out]; exact Nat.zero_le _⟩
 | false =>
  have he : e = 0 := by simpa using q
  have HE0 : Hid ((playedA ds).2 = 0) := by show _ = _; rw [HE.out]; exact he
  have HP : Hid (playA ds = (showA (playedA ds).1, 0)) := by
   show _ = _; unfold playA; rw [if_pos HE0.out]
  obtain ⟨bl, m, rfl, hl⟩ := HOK.out HE0.out; have HL := Lib.hid hl; clear hl HOK he; go_wp2_with fail
  refine (show_any W.heap.size bl (playedA ds).1 m w1 4000 HL.out (played_k HE0.out).2.1.bulk (by omega)).mono ?_; rintro r w2 ⟨EA, ce, WA, cw, TA, ct, es, zs, rfl, hln, hB2, hct⟩; have HCT := Lib.hid hct; have HLN := Lib.hid hln; have hb1s := HB1.out.size; have HB2 : Hid (Below W.heap.size w1 w2) := hB2.mono hb1s; have hk2 := HK1.out.below HB2.out hsw; have HK2 := Lib.hid hk2; have HBW2 : Hid (Below w.heap.size w w2) := HBW1.out.trans (HB2.out.mono (by omega)); clear z0 z1 z2 y0 y1 y2 yl hln hB2 hct; obtain ⟨z0, z1, z2⟩ := Blk.c3 hk2; obtain ⟨y0, y1, y2, yl⟩ := Blk.g3 hk2; clear hk2; unfold lnV; obtain ⟨x, HX⟩ : ∃ x, Hid (showA (playedA ds).1 = x) := ⟨_, rfl⟩; rw [HX.out] at HLN HP HCT ⊢; go_wp2; obtain ⟨W3, hW3⟩ : ∃ W3, ((w2.setCell ⟨w.heap.size, 0, none⟩ (.slice EA x.ends.length ce)).setCell ⟨w.heap.size, 1, none⟩ (.slice WA x.wire.length cw)).setCell ⟨w.heap.size, 2, none⟩ (.slice TA x.tales.length ct) = W3 := ⟨_, rfl⟩; have HK3 : Hid (Blk W3 w.heap.size (.cells #[.slice EA x.ends.length ce, .slice WA x.wire.length cw, .slice TA x.tales.length ct] 59)) := by rw [← hW3]; exact ((HK2.out.set 0 _).set 1 _).set 2 _
  have HB3 : Hid (Below w.heap.size w W3) := by rw [← hW3]; exact ((HBW2.out.setCell (Nat.le_refl _) _).setCell (Nat.le_refl _) _).setCell (Nat.le_refl _) _
  have HF3 : Hid (Frame (fun b => b = w.heap.size) w2 W3) := by
   rw [← hW3]; exact (((Frame.refl (fun b => b = w.heap.size) w2).setCell (p := ⟨w.heap.size, 0, none⟩) (.inl rfl) _).setCell (p := ⟨w.heap.size, 1, none⟩) (.inl rfl) _).setCell (p := ⟨w.heap.size, 2, none⟩) (.inl rfl) _
  rw [hW3]; obtain ⟨c0, c1, c2⟩ := Blk.c3 HK3.out; clear hW3 z0 z1 z2 y0 y1 y2 yl; have hl : (loadVar 59 ⟨w.heap.size, 0, none⟩).run Try.prog W3 = .ok (.agg #[.slice EA x.ends.length ce, .slice WA x.wire.length cw, .slice TA x.tales.length ct]) W3 := by go_simp
  have hln3 := HLN.out.frame HF3.out (fun b e => by omega) (fun b cur hb e => by rw [e] at hb; exact blk_ne hb HK2.out (by decide) rfl) (fun b cur hb e => by rw [e] at hb; exact blk_ne hb HK2.out (by decide) rfl); refine bodyPost_ret (v := .tuple #[.agg #[.slice EA x.ends.length ce, .slice WA x.wire.length cw, .slice TA x.tales.length ct], .int .i64 0]) (results_ct rfl rfl rfl hl) rfl ⟨EA, ce, WA, cw, TA, ct, es, zs, by rw [HP.out]; rfl, by rw [HP.out]; exact hln3.mono (by omega), HB3.out, by rw [HP.out]; exact HCT.out⟩
end Go.Proofs.Ytejabnoidhlfaaa
