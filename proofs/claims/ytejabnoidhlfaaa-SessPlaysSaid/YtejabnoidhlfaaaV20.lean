/- Contracts and lemmas that the claim uses. -/
import Derived.Test.YtejabnoidhlfaaaV17
import Derived.Test.YtejabnoidhlfaaaV19
set_option maxRecDepth 100000
set_option maxHeartbeats 16000000
namespace Go.Proofs.Ytejabnoidhlfaaa
open Go.RowKit Go.Maps
section
variable {P : Program} {ops : Array Oper} {md : Region.Mode} {I : World → Prop} {Q : Act → World → Prop}
theorem anyI_three' {l : List Oper} (i j k : Nat) {o o' o'' : Oper} {f : Nat} {listed : Array Bool} {a : Act} {w : World} (hi : l[i]? = some o) (hj : l[j]? = some o') (hk : l[k]? = some o'') (hr : Region.ready md l.toArray listed = [i, j, k]) (hI : I w)
  (h1 : ∀ K : Act → World → Prop, (∀ a' w', anyI P md l.toArray I Q f (listed.setIfInBounds i true) a' w' → K a' w') → wpList P l.toArray (fun e a' w' => e = .normal ∧ K a' w') [o] a w)
  (h2 : ∀ K : Act → World → Prop, (∀ a' w', anyI P md l.toArray I Q f (listed.setIfInBounds j true) a' w' → K a' w') → wpList P l.toArray (fun e a' w' => e = .normal ∧ K a' w') [o'] a w)
  (h3 : ∀ K : Act → World → Prop, (∀ a' w', anyI P md l.toArray I Q f (listed.setIfInBounds k true) a' w' → K a' w') → wpList P l.toArray (fun e a' w' => e = .normal ∧ K a' w') [o''] a w) : anyI P md l.toArray I Q (f + 1) listed a w := by
 refine ⟨hI, by rw [hr]; simp, fun n hn => ?_⟩; rw [hr] at hn; simp at hn; rcases hn with rfl | rfl | rfl
 ·exact ⟨o, by simpa using hi, opQ_of_list h1⟩
 ·exact ⟨o', by simpa using hj, opQ_of_list h2⟩
 ·exact ⟨o'', by simpa using hk, opQ_of_list h3⟩
end
theorem proper_size {p : Pk} (h : properB p = true) : p.t.size ≤ 20 := by
 unfold properB at h; simp only [Bool.and_eq_true] at h; obtain ⟨_, h⟩ := h; split at h
 ·simp only [Bool.and_eq_true, decide_eq_true_eq] at h; rw [h.1.1.2]; exact Nat.zero_le _
 ·split at h
  ·simp only [Bool.and_eq_true, decide_eq_true_eq] at h; exact h.1.1.1.1.2
  ·split at h
   ·simp only [Bool.and_eq_true, decide_eq_true_eq] at h; rw [h.1.1.1.1.2]; exact Nat.zero_le _
   ·cases h
def lostT (g : Gn) (t : Ta) : Ta := { t with lost := t.lost ++ g.lost }
def lostA (l : Lp) (i : Int) (g : Gn) : Lp := if 0 ≤ l.now i then { l with tales := setAt (lostT g) (l.now i).toNat l.tales } else l
theorem carry_eq {l : Lp} {k : Nat} {x : Tp} (hx : l.wire[k]? = some x) : carryA l k = tellA (lostA { l with wire := l.wire.eraseIdx k } x.to (takeA (l.end_ x.to) x.p).2.1) x.to (takeA (l.end_ x.to) x.p).1 (takeA (l.end_ x.to) x.p).2.1 := by
 unfold carryA; rw [hx]; rfl
structure Mid (L : Lp) (n : Nat) (i : Int) (E : En) (p : Pk) : Prop where
 toO : i = 0 ∨ i = 1
 good : goodB E = true
 proper : properB p = true
 now : NowOk L
 bulk : Bulk L n
 end_ : L.end_ i = E
 cont : Cont E (takeA E p).1
 p6 : (takeA E p).2.1.packets.length ≤ 6
 t4 : (takeA E p).2.1.taken.length ≤ 4
theorem carry_mid {l : Lp} {n : Nat} (h : LineK l n) {k : Nat} {x : Tp} (hx : l.wire[k]? = some x) : Mid (lostA { l with wire := l.wire.eraseIdx k } x.to (takeA (l.end_ x.to) x.p).2.1) (n + 4) x.to (l.end_ x.to) x.p := by
 have ht := h.ok.wire x (List.mem_of_getElem? hx); have hto : x.to = 0 ∨ x.to = 1 := by
  rcases ht.2 with h | h
  ·exact .inl h.1
  ·exact .inr h.1
 have hg := h.ok.good x.to; have htk := take_packets hg ht.1; have hb1 : Bulk { l with wire := l.wire.eraseIdx k } n := ⟨by have := h.bulk.wire; show (l.wire.eraseIdx k).length ≤ n; rw [List.length_eraseIdx]; split <;> omega, h.bulk.tales, h.bulk.txt⟩
 have hn1 : NowOk { l with wire := l.wire.eraseIdx k } := h.now; have key : NowOk (lostA { l with wire := l.wire.eraseIdx k } x.to (takeA (l.end_ x.to) x.p).2.1) ∧ Bulk (lostA { l with wire := l.wire.eraseIdx k } x.to (takeA (l.end_ x.to) x.p).2.1) (n + 4) ∧ (lostA { l with wire := l.wire.eraseIdx k } x.to (takeA (l.end_ x.to) x.p).2.1).end_ x.to = l.end_ x.to := by
  unfold lostA; split
  ·refine ⟨hn1.upd (lostT (takeA (l.end_ x.to) x.p).2.1) (fun t => ⟨rfl, rfl, rfl, rfl⟩) _, hb1.upd (lostT (takeA (l.end_ x.to) x.p).2.1) 4 (fun t => ⟨Nat.le_add_right _ _, ?_, Nat.le_add_right _ _⟩) _, rfl⟩; show (t.lost ++ _).length ≤ _; rw [List.length_append]; have h3 := htk.2.2; omega
  ·exact ⟨hn1, hb1.mono (by omega), rfl⟩
 exact ⟨hto, hg, ht.1, key.1, key.2.1, key.2.2, take_cont hg ht.1, htk.1, htk.2.1⟩
theorem sz116 : (Try.prog.info? 116).map (·.size) = some 8 := rTp.size_eq
theorem ix56 {b n c k : Nat} (hk : k < n) (w' : World) : (Instr.indexAt 56 (.slice (some ⟨b, 0, none⟩) n c) (.int .i64 (k : Int))).run Try.prog w' = .ok (.pointer (some ⟨b, k * 8, none⟩)) w' := by
 obtain ⟨i, hi, hie⟩ : ∃ i, Try.prog.info? 116 = some i ∧ i.size = 8 := by
  have hs := sz116; cases hx : Try.prog.info? 116 with
  | none => rw [hx] at hs; cases hs
  | some i => rw [hx] at hs; exact ⟨i, rfl, by simpa using hs⟩
 have hin : (0 : Int) ≤ (k : Int) ∧ (k : Int) < (n : Int) := by omega
 simp [Instr.indexAt, run_underlying Try.underlying56, asIntOf, hin, sizeOf, typeInfo, hi, hie, hk]; by_cases h0 : k * 8 = 0
 ·have : k = 0 := by omega
  subst this; simp [Addr.add]
 ·simp [Addr.add, h0]
theorem Lo.trip {w : World} {B bl : Nat} {l : Lp} {m : Lm} (h : Lo w B bl l m) {k : Nat} {x : Tp} (hx : l.wire[k]? = some x) : ∃ g, m.W = some ⟨g, 0, none⟩ ∧ g < w.heap.size ∧ k < l.wire.length ∧ ∀ j v, (tpC x)[j]? = some v → w.cell? ⟨g, k * 8 + j, none⟩ = some v := by
 have hk := (List.getElem?_eq_some_iff.1 hx).1; obtain ⟨g, cur, hW, _, hb⟩ := own_some h.wire (by omega); refine ⟨g, hW, hb.lt, hk, fun j v hv => ?_⟩; have hj : j < 8 := (List.getElem?_eq_some_iff.1 hv).1; have h1 : (tps l.wire)[k * 8 + j]? = some v := by
  unfold tps; rw [flat_get tpC_len l.wire k j hj, hx]; exact hv
 rcases h.wire.2 with ⟨_, h0⟩ | ⟨g2, cap, cur2, hv2, _, hh, _, _, _, h4⟩
 ·omega
 ·injection hv2 with e1 _ _; rw [hW] at e1; injection e1 with e1; injection e1 with e1; subst e1; refine Blk.cell hh (k * 8 + j) ?_; rw [← h4, List.getElem?_take] at h1; split at h1
  ·rw [← Array.getElem?_toList]; exact h1
  ·cases h1
structure Tk (V wx : World) (bl : Nat) (L0 : Lp) (M0 : Lm) (E : En) (p : Pk) (b5 b6 : Nat) (A : Option Addr) (c : Nat) (D : Option Addr) (d : Nat) (P : Option Addr) (cp : Nat) (T : Option Addr) (ct : Nat) (L : Option Addr) (cl : Nat) : Prop where
 below : Below V.heap.size V wx
 k5 : Blk wx b5 (.cells (enB (takeA E p).1 A c D d) 26)
 k6 : Blk wx b6 (.cells (gnB (takeA E p).2.1 P cp T ct L cl) 47)
 en : EnT wx (takeA E p).1 A c D
 pk : Off wx bl L0 M0 P (pks (takeA E p).2.1.packets)
 tk : Off wx bl L0 M0 T (strs (takeA E p).2.1.taken)
 ls : Off wx bl L0 M0 L (strs (takeA E p).2.1.lost)
 t0 : T = none → ct = 0
 l0 : L = none → cl = 0
theorem off_new {V U wx : World} {B bl : Nat} {L0 : Lp} {M0 : Lm} {A : Option Addr} {cs : List Value} (hl : Lo V B bl L0 M0) (hc : Cells wx A cs) (hs : V.heap.size ≤ U.heap.size) (hn : ∀ a, A = some a → U.heap.size ≤ a.block) : Off wx bl L0 M0 A cs :=
 ⟨hc, fun _ a ha hb => by have := hn a ha; have := (hl.lb hb).2; omega⟩
theorem RowAt.mono {w : World} {B B' : Nat} {A : Option Addr} {l : List Ou} (h : RowAt w B A l) (hB : B' ≤ B) : RowAt w B' A l := fun hn => by
 obtain ⟨g, o, cur, h1, h2, h3⟩ := h hn; exact ⟨g, o, cur, h1, by omega, h3⟩
theorem tk_make {V U0 UT U : World} {B bl : Nat} {L0 : Lp} {M0 : Lm} {E : En} {p : Pk} {b5 b6 : Nat} {A : Option Addr} {c : Nat} {D : Option Addr} {d : Nat} {P : Option Addr} {cp : Nat} {T : Option Addr} {ct : Nat} {L : Option Addr} {cl : Nat} {x y z : Value}
  (hl : Lo V B bl L0 M0) (hs : V.heap.size ≤ U0.heap.size) (hB : Below V.heap.size V U) (hU : Below UT.heap.size UT U) (h5 : Blk U b5 (.cells (enB noEn none 0 none 0) 26)) (h6 : Blk U b6 (.cells #[x, y, z] 47)) (g5 : V.heap.size ≤ b5) (g6 : V.heap.size ≤ b6)
  (s5 : b5 < U0.heap.size ∨ UT.heap.size ≤ b5) (s6 : b6 < U0.heap.size ∨ UT.heap.size ≤ b6)
  (he : EnAt UT (takeA E p).1 A D) (hg : GnAt UT (takeA E p).2.1 P T L) (hn : A = none → c = 0) (hc : (takeA E p).1.out.length ≤ c) (hr : RowAt UT U0.heap.size A (takeA E p).1.out) (hi : ImAt UT D (takeA E p).1.inn)
  (hT : ∀ a, T = some a → U0.heap.size ≤ a.block) (hP : ∀ a, P = some a → U0.heap.size ≤ a.block) (hL : ∀ a, L = some a → U0.heap.size ≤ a.block) (hT0 : T = none → ct = 0) (hL0 : L = none → cl = 0) :
  Tk V (setGn (setEn U b5 (takeA E p).1 A c D d) b6 (takeA E p).2.1 P cp T ct L cl) bl L0 M0 E p b5 b6 A c D d P cp T ct L cl := by
 obtain ⟨q1, q2, q3⟩ := tk_end (e' := (takeA E p).1) (A := A) (c := c) (D := D) (d := d) (g := (takeA E p).2.1) (P := P) (cp := cp) (T := T) (ct := ct) (L := L) (cl := cl) h5 h6; have n1 : ∀ {b : Nat} {cs : Array Value} {t : TypeId}, Blk U b (.cells cs t) → t ≠ 26 → t ≠ 47 → ¬ (b = b5 ∨ b = b6) := fun hb t1 t2 e => by
  rcases e with e | e
  ·exact blk_ne hb h5 t1 e
  ·exact blk_ne hb h6 t2 e
 have hsU := hB.size; have hcell : ∀ {a : Option Addr} {cs : List Value}, Cells UT a cs → (∀ q, a = some q → U0.heap.size ≤ q.block) → Cells (setGn (setEn U b5 (takeA E p).1 A c D d) b6 (takeA E p).2.1 P cp T ct L cl) a cs := fun hh hn => (hh.below hU (Nat.le_refl _)).frame q3 fun h0 q hq e => by
  have h1 := hn q hq; have h2 := hh.lt h0 hq; rcases e with e | e <;> omega
 have hfU : Frame (fun _ => False) UT U := Frame.of_all hU; have hr2 := hr.frame hfU (fun _ _ _ h => h); have hi2 := hi.frame hfU (fun _ _ _ h => h); have f71 : ∀ b cur, Blk U b (.cells cur 71) → ¬ (b = b5 ∨ b = b6) := fun b cur hb => n1 hb (by decide) (by decide); have f73 : ∀ b cur, Blk U b (.cells cur 73) → ¬ (b = b5 ∨ b = b6) := fun b cur hb => n1 hb (by decide) (by decide); refine ⟨hB.trans (q3.below (B := V.heap.size) (fun b e => by rcases e with e | e <;> omega) hsU), q1, q2, ⟨⟨hr2.cells (he.out.below hU (Nat.le_refl _)) q3 f71, ?_⟩, (hr2.frame q3 f71).mono (Nat.zero_le _), hi2.frame q3 f73, hn, hc⟩, off_new hl (hcell hg.p hP) hs hP, off_new hl (hcell hg.t hT) hs hT, off_new hl (hcell hg.l hL) hs hL, hT0, hL0⟩
 refine (he.inn.below hU (Nat.le_refl _)).frame q3 fun h0 a ha => ?_; obtain ⟨b, off, cur, e1, e2⟩ := hi2 (by rintro h1; exact h0 (by rw [h1]; rfl)); rw [e1] at ha; injection ha with ha; rw [← ha]; exact f73 b cur e2
def zl (j : Nat) : Lp := ⟨if 0 < j then startE else noEn, if 1 < j then startE else noEn, [], [], -1, -1, false⟩
def zm : Lm := ⟨none, 0, none, 0, none, 0, none, 0, none, 0, none, 0, []⟩
theorem enT_nil (w : World) {e : En} (h1 : e.out = []) (h2 : e.inn = []) : EnT w e none 0 none :=
 ⟨⟨by rw [h1]; exact Cells.nil _ _, by rw [h2]; exact Cells.nil _ _⟩, fun hn => absurd h1 hn, fun hn => absurd h2 hn, fun _ => rfl, by rw [h1]; exact Nat.le_refl _⟩
theorem zl_one : zl 1 = (zl 0).setEnd 0 startE := rfl
theorem zl_two : zl 2 = (zl 1).setEnd 1 startE := rfl
theorem zl_step {j : Nat} (hj : j < 2) : zl (j + 1) = (zl j).setEnd (j : Int) startE := by
 have h : j = 0 ∨ j = 1 := by omega
 rcases h with rfl | rfl
 ·exact zl_one
 ·exact zl_two
theorem zm_step (i : Int) : zm.setE i none 0 none 0 = zm := by unfold Lm.setE; split <;> rfl
theorem first_any (w : World) : Calls Try.prog 79 #[] w fun r w' => ∃ bl m, r = .returned (.pointer (some ⟨bl, 0, none⟩)) ∧ Lo w' w.heap.size bl firstA m ∧ Below w.heap.size w w' := by
 go_enter Try.func79, Try.ntmps79
 go_wp2_with fail
 obtain ⟨W, hW⟩ : ∃ W, w.alloc (.cells (loB (zl 0) zm) 110) = W := ⟨_, rfl⟩; have HB : Hid (Below w.heap.size w W) := by rw [← hW]; exact (Below.refl _ w).alloc (Nat.le_refl _) _
 have HK : Hid (Blk W w.heap.size (.cells (loB (zl 0) zm) 110)) := by rw [← hW]; exact Blk.new _ _
 have HL : Hid (Lo W w.heap.size w.heap.size (zl 0) zm) := ⟨HK.out, enT_nil _ rfl rfl, enT_nil _ rfl rfl, World.ownsRow_nil _ _ _ _, World.ownsRow_nil _ _ _ _, rfl, ⟨fun x hx => (by cases hx), fun i j x y hi => (by cases hi)⟩, Nat.le_refl _⟩; have hW2 : w.alloc (.cells #[.int .i64 0, .int .i64 0, .int .i64 0, .int .i64 0, .slice none 0 0, .int .i64 0, .slice none 0 0, .int .i64 0, .int .i64 0, .int .i64 0, .int .i64 0, .slice none 0 0, .int .i64 0, .slice none 0 0, .slice none 0 0, .slice none 0 0, .int .i64 (-1), .int .i64 (-1), .bool false] 110) = W := hW; rw [hW2]; clear hW hW2; go_loopg [6] 2 (fun g iv wr => ∃ j : Nat, j + g = 2 ∧ iv = .int .i64 (j : Int) ∧ Lo wr w.heap.size w.heap.size (zl j) zm ∧ Below w.heap.size w wr)
 case atStart => exact ⟨0, rfl, rfl, HL.out, HB.out⟩
 case round =>
  obtain ⟨j, hj, rfl, hl, hB⟩ := hrel; have HLR := Lib.hid hl; have HBR := Lib.hid hB; have hJ := Lib.hid hj; have hlt := hl.box.lt; clear hl hB hj; by_cases h2 : (j : Int) < 2
  ·have h01 : (j : Int) = 0 ∨ (j : Int) = 1 := by omega
   have H01 := Lib.hid h01; have HZS := Lib.hid (zl_step (j := j) (by omega)); have hix : ∀ w', (Instr.indexAt 107 (.pointer (some ⟨w.heap.size, 0, none⟩)) (.int .i64 (j : Int))).run Try.prog w' = .ok (.pointer (some ⟨w.heap.size, 7 * (j : Int).toNat, none⟩)) w' := fun w' => ix107 H01.out w'; obtain ⟨o, ho⟩ : ∃ o, Hid (7 * (j : Int).toNat = o) := ⟨_, rfl⟩; rw [ho.out] at hix; have hw1 : IntKind.i64.wrap ((j : Int) + 1) = ((j + 1 : Nat) : Int) := by rw [wrap_ok ⟨by omega, by omega⟩]; omega
   clear h01; go_upto_region 5 with fail
   refine draw (fun w' => Below w.heap.size w w') 10 rfl (by kernel_rfl) (fun Qd hQd => ?_); iterate 4 (first | apply sI 0 (by rfl) rfl (by kernel_rfl) | apply sI 1 (by rfl) rfl (by kernel_rfl) | apply sI 6 (by rfl) rfl (by kernel_rfl) | apply sI 7 (by rfl) rfl (by kernel_rfl)); (focus intro wI hI Kv hKv; go_simp; exact hKv); intro Kd hKd; go_simp; refine hKd _ ?_; clear hKd Kd
   refine anyI_one' 2 rfl (by kernel_rfl) (HBR.out.drew) (fun Kd hKd => ?_); go_wp2_with (go_at_call 10; go_must (refine (start_any 1 _).mono ?_); rintro r w2 ⟨rfl, hB2⟩)
   obtain ⟨E, HE⟩ : ∃ E, Hid ((startA 1).1 = E) := ⟨_, rfl⟩; have HES : Hid (E = startE) := HE.out.symm; rw [HE.out]; unfold enV; have HB2 : Hid (Below wr.heap.size wr w2) := by
    have h9 : Below wr.heap.size wr wr.drew := (Below.refl _ wr).drew; exact h9.trans hB2
   have HBW2 : Hid (Below w.heap.size w w2) := HBR.out.trans (HB2.out.mono HBR.out.size); have HL2 : Hid (Lo w2 w.heap.size w.heap.size (zl j) zm) := HLR.out.below HB2.out; clear hB2; iterate 4 (first | apply sI 3 (by rfl) rfl (by kernel_rfl) | apply sI 4 (by rfl) rfl (by kernel_rfl) | apply sI 5 (by rfl) rfl (by kernel_rfl) | apply sI 8 (by rfl) rfl (by kernel_rfl)); (focus intro wI hI Kv hKv; go_simp; exact hKv); intro Kd hKd; go_simp; refine hKd _ ?_; clear hKd Kd
   have q := HL2.out.endc H01.out; rw [ho.out] at q; obtain ⟨c0, c1, c2, c3, c4, c5, c6⟩ := q; have y0 := HL2.out.box.free o; have y1 := HL2.out.box.free (o + 1); have y2 := HL2.out.box.free (o + 2); have y3 := HL2.out.box.free (o + 3); have y4 := HL2.out.box.free (o + 4); have y5 := HL2.out.box.free (o + 5); have y6 := HL2.out.box.free (o + 6); have yl := HL2.out.box.lt; refine anyI_one' 9 rfl (by kernel_rfl) (HBW2.out) (fun Kd hKd => ?_); go_wp2; have HV : Hid (Lo (setEnO w2 w.heap.size o E none 0 none 0) w.heap.size w.heap.size (zl (j + 1)) zm) := by
    have h9 := (HL2.out.setEnd H01.out 0 (enT_nil w2 (e := E) (by rw [HES.out]; rfl) (by rw [HES.out]; rfl))).1; rw [ho.out, zm_step, HES.out, ← HZS.out] at h9; rw [HES.out]; exact h9
   have HBV : Hid (Below w.heap.size w (setEnO w2 w.heap.size o E none 0 none 0)) := by
    have q := setEnO_frame (w := w2) (b := w.heap.size) (o := o) (e := E) (A := none) (c := 0) (B := none) (d := 0) (Frame.refl (fun b => b = w.heap.size) w2) (.inl rfl); exact HBW2.out.trans (q.below (fun b e => by omega) HBW2.out.size)
   refine anyI_end (by kernel_rfl) ((by have q := HBV.out; exact q)) (hQd _ _ ?_); clear hQd Qd; go_wp2_with fail
   go_roundg (1 - j)
   case measure => have := hJ.out; omega
   case rel => exact ⟨j + 1, by omega, rfl, HV.out, HBV.out⟩
  ·have hj2 : j = 2 := by have := hJ.out; omega
   clear h2; subst hj2; go_wp2; go_ret; exact ⟨w.heap.size, zm, rfl, HLR.out, HBR.out⟩
structure Ez where
 v : En
 A : Option Addr
 c : Nat
 D : Option Addr
 d : Nat
def ezC (z : Ez) : List Value := [.int .i64 z.v.life, .int .i64 z.v.peer, .int .i64 z.v.phase, .int .i64 z.v.base, .slice z.A z.v.out.length z.c, .int .i64 z.v.want, .slice z.D z.v.inn.length z.d]
theorem ezC_len : ∀ x, (ezC x).length = 7 := fun _ => rfl
def ezs (l : List Ez) : List Value := l.flatMap ezC
theorem ezs_len (l : List Ez) : (ezs l).length = l.length * 7 := flat_len ezC_len l
theorem rEn : ElemRow Try.prog 55 26 7 88 := ElemRow.mk' (z := .agg #[.int .i64 0, .int .i64 0, .int .i64 0, .int .i64 0, .slice none 0 0, .int .i64 0, .slice none 0 0]) Try.underlying55 (by kernel_rfl) rfl (by decide) (by decide)
structure LnAt (w : World) (B : Nat) (x : Ln) (EA WA TA : Option Addr) (es : List Ez) (zs : List Tz) : Prop where
 ends : Cells w EA (ezs es)
 ev : es.map Ez.v = x.ends
 en : ∀ z ∈ es, EnT w z.v z.A z.c z.D
 wire : Cells w WA (tps x.wire)
 tales : Cells w TA (tzs zs)
 tv : zs.map Tz.v = x.tales
 txt : ∀ z ∈ zs, Cells w z.S (strs z.v.sent) ∧ Cells w z.L (strs z.v.lost) ∧ Cells w z.K (strs z.v.taken)
 lo : (∀ a, EA = some a → B ≤ a.block) ∧ (∀ a, WA = some a → B ≤ a.block) ∧ (∀ a, TA = some a → B ≤ a.block) ∧ ∀ z ∈ zs, (∀ a, z.S = some a → B ≤ a.block) ∧ (∀ a, z.L = some a → B ≤ a.block) ∧ (∀ a, z.K = some a → B ≤ a.block)
 cap : ∀ z ∈ zs, z.v.sent.length ≤ z.cs ∧ z.v.taken.length ≤ z.ck
def lnV (x : Ln) (EA : Option Addr) (ce : Nat) (WA : Option Addr) (cw : Nat) (TA : Option Addr) (ct : Nat) : Value := .agg #[.slice EA x.ends.length ce, .slice WA x.wire.length cw, .slice TA x.tales.length ct]
theorem LnAt.frame {S : Nat → Prop} {w w' : World} {B : Nat} {x : Ln} {EA WA TA : Option Addr} {es : List Ez} {zs : List Tz} (h : LnAt w B x EA WA TA es zs) (hF : Frame S w w') (hS : ∀ b, S b → b < B)
  (h1 : ∀ b cur, Blk w b (.cells cur 71) → ¬ S b) (h2 : ∀ b cur, Blk w b (.cells cur 73) → ¬ S b) : LnAt w' B x EA WA TA es zs := by
 have key : ∀ {A : Option Addr} {cs : List Value}, Cells w A cs → (∀ a, A = some a → B ≤ a.block) → Cells w' A cs := fun hc hl => hc.frame hF fun _ a ha hs => by
  have e1 := hl a ha; have e2 := hS _ hs; omega
 obtain ⟨l1, l2, l3, l4⟩ := h.lo; exact ⟨key h.ends l1, h.ev, fun z hz => (h.en z hz).frame hF h1 h2, key h.wire l2, key h.tales l3, h.tv, fun z hz => ⟨key (h.txt z hz).1 (l4 z hz).1, key (h.txt z hz).2.1 (l4 z hz).2.1, key (h.txt z hz).2.2 (l4 z hz).2.2⟩, h.lo, h.cap⟩
theorem LnAt.mono {w : World} {B B' : Nat} {x : Ln} {EA WA TA : Option Addr} {es : List Ez} {zs : List Tz} (h : LnAt w B x EA WA TA es zs) (hb : B' ≤ B) : LnAt w B' x EA WA TA es zs := by
 obtain ⟨l1, l2, l3, l4⟩ := h.lo; exact ⟨h.ends, h.ev, h.en, h.wire, h.tales, h.tv, h.txt, ⟨fun a ha => Nat.le_trans hb (l1 a ha), fun a ha => Nat.le_trans hb (l2 a ha), fun a ha => Nat.le_trans hb (l3 a ha), fun z hz => ⟨fun a ha => Nat.le_trans hb ((l4 z hz).1 a ha), fun a ha => Nat.le_trans hb ((l4 z hz).2.1 a ha), fun a ha => Nat.le_trans hb ((l4 z hz).2.2 a ha)⟩⟩, h.cap⟩
theorem LnAt.below {w w' : World} {B : Nat} {x : Ln} {EA WA TA : Option Addr} {es : List Ez} {zs : List Tz} (h : LnAt w B x EA WA TA es zs) (hB : Below w.heap.size w w') : LnAt w' B x EA WA TA es zs :=
 h.frame (Frame.of_all (S := fun _ => False) hB) (fun _ h => h.elim) (fun _ _ _ h => h) (fun _ _ _ h => h)
theorem ezC_one : ∀ l : List Ez, ∀ u ∈ ezs l, u.oneCell' = true := by
 intro l u hu; obtain ⟨x, _, hx⟩ := List.mem_flatMap.1 hu; simp [ezC] at hx; rcases hx with rfl | rfl | rfl | rfl | rfl | rfl | rfl <;> rfl
theorem eql_nil55 (A : Option Addr) (n c : Nat) (w : World) : (binOp .eql 55 (.slice A n c) (.slice none 0 0)).run Try.prog w = .ok (.bool A.isNone) w := Lib.run_eql_slice_nil w _ _ A n c 0 0 Try.underlying55
theorem clone_en (a : Addr) (c : Nat) (l : List Ez) (w : World) (h : Cells w (some a) (ezs l)) (hl : l.length ≤ 1000) :
  Calls Try.prog 82 #[.slice (some a) l.length c] w fun r w' => ∃ v, r = .returned v ∧ w'.ownsRow w.heap.size 26 7 v l.length (ezs l) ∧ Below w.heap.size w w' := by
 have heq : ∀ w : World, (binOp .eql 55 (.slice (some a) l.length c) (.slice none 0 0)).run Try.prog w = .ok (.bool false) w := fun w => eql_nil55 (some a) l.length c w; have HB0 : Hid (Below w.heap.size w (w.alloc (.cells #[] 26))) := (Below.refl _ w).alloc (Nat.le_refl _) _; have HC1 := Lib.hid (h.below HB0.out (Nat.le_refl _)); have HOW : Hid ((w.alloc (.cells #[] 26)).ownsRow w.heap.size 26 7 (.slice (some ⟨w.heap.size, 0, none⟩) 0 0) 0 []) := World.ownsRow_made w #[] 0 (Nat.le_refl _) (Nat.zero_le _) (by simp); clear h; go_enter Try.func82, Try.ntmps82
 go_wp2_with (at_builtin; go_must (refine wpList_appN rEn _ rfl _ _ rfl HOW.out rfl (some a) l.length c (ezs l) rfl (fun h => by cases h) HC1.out (ezs_len l) (ezC_one l) (by omega) (by simp) ?_); intro v' w2 hown2 hB2 hg2 hloc2)
 go_ret; refine ⟨v', rfl, ?_, HB0.out.trans hB2⟩; rw [Nat.zero_add, List.nil_append] at hown2; exact hown2
theorem loB_get (l : Lp) (m : Lm) (j : Nat) (v : Value) (h : (ezs [⟨l.e0, m.A0, m.c0, m.D0, m.d0⟩, ⟨l.e1, m.A1, m.c1, m.D1, m.d1⟩])[j]? = some v) : (loB l m)[j]? = some v := by
 have hj : j < 14 := by
  have := (List.getElem?_eq_some_iff.1 h).1; simpa [ezs, ezC] using this
 have : j = 0 ∨ j = 1 ∨ j = 2 ∨ j = 3 ∨ j = 4 ∨ j = 5 ∨ j = 6 ∨ j = 7 ∨ j = 8 ∨ j = 9 ∨ j = 10 ∨ j = 11 ∨ j = 12 ∨ j = 13 := by omega
 rcases this with rfl | rfl | rfl | rfl | rfl | rfl | rfl | rfl | rfl | rfl | rfl | rfl | rfl | rfl <;> exact h
theorem Lo.ends_at {w : World} {B bl : Nat} {l : Lp} {m : Lm} (h : Lo w B bl l m) : Cells w (some ⟨bl, 0, none⟩) (ezs [⟨l.e0, m.A0, m.c0, m.D0, m.d0⟩, ⟨l.e1, m.A1, m.c1, m.D1, m.d1⟩]) := by
 refine ⟨by rw [ezs_len]; simp, bl, 0, by have := h.box.lt; omega, fun _ => ⟨rfl, h.box.lt⟩, fun k v hv => ?_⟩; rw [Nat.zero_add]; exact h.box.cell k (loB_get l m k v hv)
theorem own_at {w : World} {B : Nat} {e : TypeId} {size n : Nat} {v : Value} {xs : List Value} (h : w.ownsRow B e size v n xs) (hl : xs.length ≤ 17592186043904) : ∃ A c, v = .slice A n c ∧ Cells w A xs := by
 obtain ⟨A, c, rfl⟩ := own_fits h; exact ⟨A, c, rfl, (Cells.of_own h hl).1⟩
theorem show_any (B bl : Nat) (l : Lp) (m : Lm) (w : World) (n : Nat) (h : Lo w B bl l m) (hb : Bulk l n) (hnn : n ≤ 100000000) :
  Calls Try.prog 64 #[.pointer (some ⟨bl, 0, none⟩)] w fun r w' => ∃ EA ce WA cw TA ct es zs, r = .returned (lnV (showA l) EA ce WA cw TA ct) ∧ LnAt w' B (showA l) EA WA TA es zs ∧ Below w.heap.size w w' ∧ (showA l).tales.length ≤ ct := by
 have HLO := Lib.hid h; have HBU := Lib.hid hb; have hlb := h.box.lt; clear h hb; go_enter Try.func64, Try.ntmps64
 obtain ⟨W, hW⟩ : ∃ W, w.alloc (.cells #[.slice none 0 0, .slice none 0 0, .slice none 0 0] 59) = W := ⟨_, rfl⟩; have HB0 : Hid (Below w.heap.size w W) := by rw [← hW]; exact (Below.refl _ w).alloc (Nat.le_refl _) _
 have HK : Hid (Blk W w.heap.size (.cells #[.slice none 0 0, .slice none 0 0, .slice none 0 0] 59)) := by rw [← hW]; exact Blk.new _ _
 have HLW : Hid (Lo W B bl l m) := HLO.out.below HB0.out; have hsl : ∀ w' : World, (Instr.sliceAt 107 (.pointer (some ⟨bl, 0, none⟩)) none none none).run Try.prog w' = .ok (.slice (some ⟨bl, 0, none⟩) 2 2) w' := fun w' => by
  simp [Instr.sliceAt, run_underlying Try.underlying107, Instr.sureAddr, Instr.sliceBounds, Addr.add]
 obtain ⟨es, Hes⟩ : ∃ es, Hid ([(⟨l.e0, m.A0, m.c0, m.D0, m.d0⟩ : Ez), ⟨l.e1, m.A1, m.c1, m.D1, m.d1⟩] = es) := ⟨_, rfl⟩; have HEA : Hid (Cells W (some ⟨bl, 0, none⟩) (ezs es)) := by rw [← Hes.out]; exact HLW.out.ends_at
 have HES2 : Hid (es.length = 2) := by show _ = _; rw [← Hes.out]; rfl
 have HCL : Hid (Calls Try.prog 82 #[.slice (some ⟨bl, 0, none⟩) 2 2] W.drew fun r w' => ∃ v, r = .returned v ∧ w'.ownsRow W.drew.heap.size 26 7 v 2 (ezs es) ∧ Below W.drew.heap.size W.drew w') := by
  have h9 := clone_en ⟨bl, 0, none⟩ 2 es W.drew HEA.out (by rw [HES2.out]; omega); rw [HES2.out] at h9; exact h9
 have HEV : Hid (es.map Ez.v = [l.e0, l.e1]) := by show _ = _; rw [← Hes.out]; rfl
 have HEN : Hid (∀ z ∈ es, EnT W z.v z.A z.c z.D) := fun z hz => by
  rw [← Hes.out] at hz; simp only [List.mem_cons, List.not_mem_nil, or_false] at hz; rcases hz with rfl | rfl
  ·exact HLW.out.e0
  ·exact HLW.out.e1
 have HTL : Hid (m.zs.length = l.tales.length) := by show _ = _; rw [← HLW.out.tz, List.length_map]
 have hwl := HLW.out.box.lt; have hkl := HK.out.lt; go_upto_region 1 with fail
 clear hW; refine drawl (fun w' => Below w.heap.size W w') 14 14 rfl (by kernel_rfl) (fun Qd hQd => ?_); iterate 12 (first | apply sL 0 (by rfl) (by kernel_rfl) rfl (by kernel_rfl) | apply sL 5 (by rfl) (by kernel_rfl) rfl (by kernel_rfl) | apply sL 9 (by rfl) (by kernel_rfl) rfl (by kernel_rfl) | apply sL 1 (by rfl) (by kernel_rfl) rfl (by kernel_rfl) | apply sL 6 (by rfl) (by kernel_rfl) rfl (by kernel_rfl) | apply sL 10 (by rfl) (by kernel_rfl) rfl (by kernel_rfl) | apply sL 2 (by rfl) (by kernel_rfl) rfl (by kernel_rfl) | apply sL 7 (by rfl) (by kernel_rfl) rfl (by kernel_rfl) | apply sL 11 (by rfl) (by kernel_rfl) rfl (by kernel_rfl) | apply sL 3 (by rfl) (by kernel_rfl) rfl (by kernel_rfl) | apply sL 8 (by rfl) (by kernel_rfl) rfl (by kernel_rfl) | apply sL 12 (by rfl) (by kernel_rfl) rfl (by kernel_rfl)); (focus intro wI hI Kv hKv; have q := cell_chain hI hlb (HLW.out.box.cell 14 (v := .slice m.W l.wire.length m.cw) rfl); have q2 := cell_chain hI hlb (HLW.out.box.cell 15 (v := .slice m.T m.zs.length m.ct) rfl); go_simp; exact hKv); intro Kd hKd; go_simp; refine hKd _ ?_; clear hKd Kd
 refine anyL_one 4 rfl (by kernel_rfl) ((Below.refl _ W).drew) (fun Kd hKd => ?_); go_wp2_with (go_at_call 82; go_must (refine HCL.out.mono ?_); rintro r w2 ⟨v, rfl, ho2, hB2⟩)
 obtain ⟨EA, ce, rfl, hce⟩ := own_at ho2 (by rw [ezs_len, HES2.out]; omega); have HCE := Lib.hid hce; have HEB : Hid (∀ a, EA = some a → W.heap.size ≤ a.block) := fun a ha => (ho2.lt a.block (by rw [ha]; rfl)).1; have HB2 : Hid (Below W.heap.size W w2) := by
  have h9 : Below W.heap.size W W.drew := (Below.refl _ W).drew; exact h9.trans hB2
 have HB2w : Hid (Below w.heap.size W w2) := HB2.out.mono (by omega); clear ho2 hB2 hce; apply anyL_step 13 (by kernel_rfl) rfl (by kernel_rfl); (focus intro wI hI Kv hKv; go_simp; exact hKv); intro Kd hKd; go_simp; refine hKd _ ?_; clear hKd Kd
 have hk2 := HK.out.below HB2.out hkl; have HK2 := Lib.hid hk2; obtain ⟨z0, z1, z2⟩ := Blk.c3 hk2; obtain ⟨y0, y1, y2, yl⟩ := Blk.g3 hk2; clear hk2; refine anyL_end rfl (by kernel_rfl) (HB2w.out) (fun Kd hKd => ?_); go_wp2; obtain ⟨W3, hW3⟩ : ∃ W3, ((w2.setCell ⟨w.heap.size, 0, none⟩ (.slice EA 2 ce)).setCell ⟨w.heap.size, 1, none⟩ (.slice m.W l.wire.length m.cw)).setCell ⟨w.heap.size, 2, none⟩ (.slice m.T m.zs.length m.ct) = W3 := ⟨_, rfl⟩; have HK3 : Hid (Blk W3 w.heap.size (.cells #[.slice EA 2 ce, .slice m.W l.wire.length m.cw, .slice m.T m.zs.length m.ct] 59)) := by
  rw [← hW3]; exact ((HK2.out.set 0 _).set 1 _).set 2 _
 have HF3 : Hid (Frame (fun b => b = w.heap.size) w2 W3) := by
  rw [← hW3]; exact (((Frame.refl (fun b => b = w.heap.size) w2).setCell (p := ⟨w.heap.size, 0, none⟩) (.inl rfl) _).setCell (p := ⟨w.heap.size, 1, none⟩) (.inl rfl) _).setCell (p := ⟨w.heap.size, 2, none⟩) (.inl rfl) _
 have HB3 : Hid (Below w.heap.size w W3) := (HB0.out.trans HB2w.out).trans (HF3.out.below (fun b e => by omega) (by have := HB2w.out.size; omega)); obtain ⟨c0, c1, c2⟩ := Blk.c3 HK3.out; have HL3 : Hid (Lo W3 B bl l m) := (HLW.out.below HB2.out).frame HF3.out (fun b hb e => by have := (HLO.out.lb hb).2; omega) (fun b cur hb e => by rw [e] at hb; exact blk_ne hb HK2.out (by decide) rfl) (fun b cur hb e => by rw [e] at hb; exact blk_ne hb HK2.out (by decide) rfl); clear z0 z1 z2 y0 y1 y2 yl; rw [hW3]; clear hW3; have hl : (loadVar 59 ⟨w.heap.size, 0, none⟩).run Try.prog W3 = .ok (.agg #[.slice EA 2 ce, .slice m.W l.wire.length m.cw, .slice m.T m.zs.length m.ct]) W3 := by go_simp
 refine bodyPost_ret (results_c rfl rfl hl) rfl ⟨EA, ce, m.W, m.cw, m.T, m.ct, es, m.zs, by rw [HTL.out]; rfl, ?_, HB3.out, by have h9 := own_cap HL3.out.tal; rw [HTL.out] at h9; exact h9⟩; have hw := HL3.out.wire; have ht := HL3.out.tal; have hbw := HBU.out.wire; have hbt := HBU.out.tales; have hm : ∀ z ∈ m.zs, ∀ x ∈ tx z, x ∈ txs m.zs := fun z hz x hx => List.mem_flatMap.2 ⟨z, hz, hx⟩; have hlo : ∀ {t : TypeId} {size n c : Nat} {A : Option Addr} {xs : List Value}, W3.ownsRow B t size (.slice A n c) n xs → ∀ a, A = some a → B ≤ a.block := fun ho a ha => (ho.lt a.block (by rw [ha]; rfl)).1; refine ⟨HCE.out.frame HF3.out fun hn a ha e => ?_, HEV.out, fun z hz => ?_, (Cells.of_own hw (by rw [tps_len]; omega)).1, (Cells.of_own ht (by rw [tzs_len]; have := HTL.out; omega)).1, HL3.out.tz, fun z hz => ?_, ⟨fun a ha => ?_, hlo hw, hlo ht, fun z hz => ?_⟩, fun z hz => ⟨own_cap (HL3.out.txt.own (.slice z.S z.v.sent.length z.cs, z.v.sent) (hm z hz _ (by simp [tx]))), own_cap (HL3.out.txt.own (.slice z.K z.v.taken.length z.ck, z.v.taken) (hm z hz _ (by simp [tx])))⟩⟩
 ·have h8 := HEB.out a ha; omega
 ·exact ((HEN.out z hz).frame (Frame.of_all (S := fun _ => False) HB2.out) (fun _ _ _ h => h) (fun _ _ _ h => h)).frame HF3.out (fun b cur hb e => by rw [e] at hb; exact blk_ne hb HK2.out (by decide) rfl) (fun b cur hb e => by rw [e] at hb; exact blk_ne hb HK2.out (by decide) rfl)
 ·have hv : z.v ∈ l.tales := by rw [← HL3.out.tz]; exact List.mem_map_of_mem hz
  obtain ⟨b1, b2, b3⟩ := HBU.out.txt z.v hv; exact ⟨(Cells.of_own (HL3.out.txt.own (.slice z.S z.v.sent.length z.cs, z.v.sent) (hm z hz _ (by simp [tx]))) (by rw [strs_len]; show z.v.sent.length ≤ _; omega)).1, (Cells.of_own (HL3.out.txt.own (.slice z.L z.v.lost.length z.cl, z.v.lost) (hm z hz _ (by simp [tx]))) (by rw [strs_len]; show z.v.lost.length ≤ _; omega)).1,
   (Cells.of_own (HL3.out.txt.own (.slice z.K z.v.taken.length z.ck, z.v.taken) (hm z hz _ (by simp [tx]))) (by rw [strs_len]; show z.v.taken.length ≤ _; omega)).1⟩
 ·have h8 := HEB.out a ha; have h9 := HLO.out.lo; have h7 := HB0.out.size; omega
 ·exact ⟨hlo (HL3.out.txt.own (.slice z.S z.v.sent.length z.cs, z.v.sent) (hm z hz _ (by simp [tx]))), hlo (HL3.out.txt.own (.slice z.L z.v.lost.length z.cl, z.v.lost) (hm z hz _ (by simp [tx]))), hlo (HL3.out.txt.own (.slice z.K z.v.taken.length z.ck, z.v.taken) (hm z hz _ (by simp [tx])))⟩
end Go.Proofs.Ytejabnoidhlfaaa
