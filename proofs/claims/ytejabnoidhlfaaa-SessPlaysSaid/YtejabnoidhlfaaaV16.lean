/- Contracts and lemmas that the claim uses. -/
import Derived.Test.YtejabnoidhlfaaaV15
import Derived.Deep.CutRange
import Derived.Deep.LoopGhost
set_option maxRecDepth 100000
set_option maxHeartbeats 16000000
namespace Go.Proofs.Ytejabnoidhlfaaa
open Go.RowKit Go.Maps
theorem EnT.at71 {w : World} {e : En} {A : Option Addr} {c : Nat} {D : Option Addr} (h : EnT w e A c D) {k : Nat} (hk : k < e.out.length) : ∃ x b o cur, e.out[k]? = some x ∧ b < w.heap.size ∧ Blk w b (.cells cur 71) ∧
  (∀ w', (Instr.indexAt 23 (.slice A e.out.length c) (.int .i64 (k : Int))).run Try.prog w' = .ok (.pointer (some ⟨b, o, none⟩)) w') ∧ w.cell? ⟨b, o, none⟩ = some (.string x.t) := by
 have hne : e.out ≠ [] := by rintro h0; rw [h0] at hk; simp at hk
 have hne2 : ous e.out ≠ [] := by
  intro h0; have := ous_len e.out; rw [h0] at this; simp at this; omega
 obtain ⟨b, off, cur, hA, hb, hB⟩ := h.row hne; obtain ⟨hl, b', off', hb0, hA', hc⟩ := h.at_.out; obtain ⟨hA1, _⟩ := hA' hne2; rw [hA] at hA1; injection hA1 with hA1; injection hA1 with e1 e2; subst e1 e2; have hx : e.out[k]? = some e.out[k] := List.getElem?_eq_getElem hk; have hg0 : (ous e.out)[k * 2 + 0]? = some (.string e.out[k].t) := by
  unfold ous; rw [flat_get ouC_len e.out k 0 (by decide), hx]; rfl
 exact ⟨e.out[k], b, off + k * 2, cur, hx, hB.lt, hB, fun w' => by rw [hA]; exact ix_off hk w', hc (k * 2 + 0) _ hg0⟩
def newTs (e : En) (n : Nat) : List ByteArray := ((e.out.take (flyN e)).drop (n - e.base.toNat)).map (·.t)
def sentJ (e : En) (t : Ta) (j : Nat) : Ta := { t with sent := t.sent ++ (newTs e t.sent.length).take j }
theorem sentJ_all (e : En) (t : Ta) : sentJ e t (newTs e t.sent.length).length = sentA e t := by
 unfold sentJ sentA; rw [List.take_length]; rfl
theorem newTs_len (e : En) (n : Nat) : (newTs e n).length = flyN e - (n - e.base.toNat) := by
 have := (fly_le e).1; simp only [newTs, List.length_map, List.length_drop, List.length_take]; omega
theorem newTs_at {e : En} {n j : Nat} {x : Ou} (hj : j < (newTs e n).length) (hx : e.out[n - e.base.toNat + j]? = some x) : (newTs e n)[j]? = some x.t := by
 rw [newTs_len] at hj; unfold newTs; rw [List.getElem?_map, List.getElem?_drop, List.getElem?_take, if_pos (by omega), hx]; rfl
theorem list_set_self {α : Type} : ∀ {l : List α} {k : Nat} {x : α}, l[k]? = some x → l.set k x = l
 | [], k, x, h => by simp at h
 | y :: l, 0, x, h => by
  have e : y = x := by simpa using h
  subst e; rfl
 | y :: l, k + 1, x, h => by rw [List.set_cons_succ, list_set_self (by simpa using h)]
structure Bk (w wx : World) (B bl : Nat) (l : Lp) (m : Lm) (i : Int) (e : En) (A : Option Addr) (c : Nat) (D : Option Addr) (d : Nat) (L : Lp) (M : Lm) (k : Nat) (t : Ta) : Prop where
 lo : Lo wx B bl L M
 ls : Ls bl l m w L M wx
 ke : Blk wx w.heap.size (.cells (enB e A c D d) 26)
 tk : L.tales[k]? = some t
 nk : L.now i = (k : Int)
 bt : e.base ≤ (t.sent.length : Int)
 sl : t.sent.length ≤ 1000000000
 b : becomesA l i e = { L with tales := setAt (sentA e) k L.tales }
theorem becomes_any (B bl : Nat) (l : Lp) (m : Lm) (i : Int) (hi : i = 0 ∨ i = 1) (e : En) (A : Option Addr) (c : Nat) (D : Option Addr) (d : Nat) (w : World) (h : Lo w B bl l m) (he : EnT w e A c D) (hg : GoodP e) (hT : l.tales.length ≤ 1000000000)
  (hold : ((l.end_ i).phase = 3 ∧ (l.end_ i).peer = e.peer ∧ (l.end_ i).life = e.life) → e.phase = 3 → ∃ (k : Nat) (t : Ta), l.now i = k ∧ l.tales[k]? = some t ∧ e.base ≤ t.sent.length ∧ t.sent.length ≤ 1000000000)
  (hnew : ¬ ((l.end_ i).phase = 3 ∧ (l.end_ i).peer = e.peer ∧ (l.end_ i).life = e.life) → e.phase = 3 → e.base = 0) :
  Calls Try.prog 88 #[.pointer (some ⟨bl, 0, none⟩), .int .i64 i, enV e A c D d] w fun r w' => r = .returned (.tuple #[]) ∧ ∃ m', Lo w' B bl (becomesA l i e) m' ∧ Ls bl l m w (becomesA l i e) m' w' := by
 have HLO := Lib.hid h; have HE := Lib.hid he; have HG := Lib.hid hg; have HOLD := Lib.hid hold; have HNEW := Lib.hid hnew; have HTL := Lib.hid hT; have HI := Lib.hid hi; have hix0 : ∀ w', (Instr.indexAt 107 (.pointer (some ⟨bl, 0, none⟩)) (.int .i64 i)).run Try.prog w' = .ok (.pointer (some ⟨bl, 7 * i.toNat, none⟩)) w' := fun w' => ix107 hi w'; have hix8 : ∀ w', (Instr.indexAt 108 (.pointer (some ⟨bl, 16, none⟩)) (.int .i64 i)).run Try.prog w' = .ok (.pointer (some ⟨bl, 16 + i.toNat, none⟩)) w' := fun w' => ix108 hi w'; clear h he hg hold hnew hT hi; obtain ⟨o, ho⟩ : ∃ o, Hid (7 * i.toNat = o) := ⟨_, rfl⟩; obtain ⟨p, hp⟩ : ∃ p, Hid (16 + i.toNat = p) := ⟨_, rfl⟩; rw [ho.out] at hix0; rw [hp.out] at hix8; obtain ⟨E0, HE0⟩ : ∃ E0, Hid (l.end_ i = E0) := ⟨_, rfl⟩; obtain ⟨A0, HA0⟩ : ∃ A0, Hid (m.A i = A0) := ⟨_, rfl⟩; obtain ⟨c0, HC0⟩ : ∃ c0, Hid (m.c i = c0) := ⟨_, rfl⟩; obtain ⟨D0, HD0⟩ : ∃ D0, Hid (m.D i = D0) := ⟨_, rfl⟩; obtain ⟨d0, Hd0⟩ : ∃ d0, Hid (m.d i = d0) := ⟨_, rfl⟩; have hlb := HLO.out.box.lt; unfold enV; go_enter Try.func88, Try.ntmps88
 obtain ⟨W, hW⟩ : ∃ W, w.alloc (.cells #[.int .i64 e.life, .int .i64 e.peer, .int .i64 e.phase, .int .i64 e.base, .slice A e.out.length c, .int .i64 e.want, .slice D e.inn.length d] 26) = W := ⟨_, rfl⟩; have HBW : Hid (Below w.heap.size w W) := by rw [← hW]; exact (Below.refl _ w).alloc (Nat.le_refl _) _
 have hsW : w.heap.size < W.heap.size := by rw [← hW]; simp
 have HKE : Hid (Blk W w.heap.size (.cells (enB e A c D d) 26)) := by rw [← hW]; exact Blk.new _ _
 obtain ⟨hc0, hc1, hc2, hc3, hc4, hc5, hc6⟩ := (HLO.out.below HBW.out).endc HI.out; rw [HE0.out, ho.out] at hc0 hc1 hc2 hc3 hc4 hc5 hc6; rw [HA0.out, HC0.out] at hc4; rw [HD0.out, Hd0.out] at hc6; have hlbW := (HLO.out.below HBW.out).box.lt; obtain ⟨X, hX⟩ : ∃ X, W.alloc (.cells #[.int .i64 E0.life, .int .i64 E0.peer, .int .i64 E0.phase, .int .i64 E0.base, .slice A0 E0.out.length c0, .int .i64 E0.want, .slice D0 E0.inn.length d0] 26) = X := ⟨_, rfl⟩; have HBX : Hid (Below w.heap.size w X) := by rw [← hX]; exact HBW.out.alloc (by omega) _
 have HKX : Hid (Blk X W.heap.size (.cells (enB E0 A0 c0 D0 d0) 26)) := by rw [← hX]; exact Blk.new _ _
 have HKEX : Hid (Blk X w.heap.size (.cells (enB e A c D d) 26)) := by rw [← hX]; exact HKE.out.alloc _
 have HLX : Hid (Lo X B bl l m) := HLO.out.below HBX.out; have HV := HLX.out.setEnd HI.out d (HE.out.frame (Frame.of_all (S := fun _ => False) HBX.out) (fun _ _ _ h => h) (fun _ _ _ h => h)); rw [ho.out] at HV; obtain ⟨V, hV⟩ : ∃ V, setEnO X bl o e A c D d = V := ⟨_, rfl⟩; have HFV : Hid (Frame (fun b => b = bl) X V) := by rw [← hV]; exact setEnO_frame (Frame.refl (fun b => b = bl) X) (.inl rfl)
 rw [hV] at HV; obtain ⟨LL, HLL⟩ : ∃ LL, Hid (l.setEnd i e = LL) := ⟨_, rfl⟩; obtain ⟨MM, HMM⟩ : ∃ MM, Hid (m.setE i A c D d = MM) := ⟨_, rfl⟩; rw [HLL.out, HMM.out] at HV; have HLV := Lib.hid HV.1; have HSV : Hid (Ls bl l m w LL MM V) := (Ls.of_below HBX.out).trans HV.2; have HKEV : Hid (Blk V w.heap.size (.cells (enB e A c D d) 26)) := HKEX.out.frame HFV.out (by omega); have HKV : Hid (Blk V W.heap.size (.cells (enB E0 A0 c0 D0 d0) 26)) := HKX.out.frame HFV.out (by have := HLO.out.box.lt; omega); clear HV; unfold setEnO at hV; go_wp2; clear hc0 hc1 hc2 hc3 hc4 hc5 hc6 hlbW hX hW; have hc := HLX.out.endc HI.out; rw [HE0.out, ho.out, HA0.out, HC0.out, HD0.out, Hd0.out] at hc; obtain ⟨k1, k2, k3, k4, k5, k6⟩ := setEnO_chain (.int .i64 e.life) (.int .i64 e.peer) (.int .i64 e.phase) (.int .i64 e.base) (.slice A e.out.length c) (.int .i64 e.want) hc; have hc0 := hc.1; clear hc; obtain ⟨x0, x1, x2, x3, x4, x5, x6, xl⟩ := Blk.d7 HKEX.out; have y0 := HLX.out.box.free o; have y1 := HLX.out.box.free (o + 1); have y2 := HLX.out.box.free (o + 2); have y3 := HLX.out.box.free (o + 3); have y4 := HLX.out.box.free (o + 4); have y5 := HLX.out.box.free (o + 5); have y6 := HLX.out.box.free (o + 6); have yl := HLX.out.box.lt; have v2 := HKEV.out.cell 2 (v := .int .i64 e.phase) rfl; have vl := HKEV.out.lt; have HFX := Lib.hid HBX.out.size; cases hph : (e.phase != 3) with
 | true =>
  have hp3 : e.phase ≠ 3 := by simpa using hph
  have HB : Hid (becomesA l i e = LL.setNow i (-1)) := by show _ = _; unfold becomesA; rw [HLL.out, if_pos hp3]
  clear hp3; have v3 := HLV.out.nowc HI.out; rw [hp.out] at v3; have v4 := HLV.out.box.free p; have v5 := HLV.out.box.lt; refine stail 6 (by kernel_rfl) (by kernel_rfl) (fun Kq hKq => ?_); simp only [List.take_succ_cons, List.take_zero, List.drop_succ_cons, List.drop_zero] at hKq ⊢; repeat still_step
  refine wpStill_nil (hKq _ ?_); clear hKq Kq; go_wp2; obtain ⟨q1, q2⟩ := HLV.out.setNow HI.out (-1); rw [hp.out] at q1 q2; refine bodyPost_ret (v := .tuple #[]) (results_none rfl _ _ _) rfl ⟨rfl, MM, ?_, ?_⟩
  ·rw [HB.out]; exact q1.drew
  ·rw [HB.out]; exact (HSV.out.trans q2).trans (Ls.of_below (Below.refl _ _).drew)
 | false =>
  have HP3 : Hid (e.phase = 3) := by show _ = _; simpa using hph
  clear v2; have v0 := HKEV.out.cell 0 (v := .int .i64 e.life) rfl; have v1 := HKEV.out.cell 1 (v := .int .i64 e.peer) rfl; have v2 := HKEV.out.cell 2 (v := .int .i64 e.phase) rfl; have e0 := HKV.out.cell 0 (v := .int .i64 E0.life) rfl; have e1 := HKV.out.cell 1 (v := .int .i64 E0.peer) rfl; have e2 := HKV.out.cell 2 (v := .int .i64 E0.phase) rfl; have el := HKV.out.lt; obtain ⟨tb, HTB⟩ : ∃ tb : Bool, Hid (tb = (E0.phase != 3 || E0.peer != e.peer || E0.life != e.life)) := ⟨_, rfl⟩; refine stail 6 (by kernel_rfl) (by kernel_rfl) (fun Kq hKq => ?_); simp only [List.take_succ_cons, List.take_zero, List.drop_succ_cons, List.drop_zero] at hKq ⊢; repeat still_step
  refine wpStill_nil (hKq _ ?_); clear hKq Kq; go_upto_region 5 with fail
  go_cut [45] from 9 (fun q wx => q = .bool tb ∧ wx = V.drew)
  case first =>
   cases qa : (E0.phase != 3) with
   | true =>
    obtain rfl : tb = true := by rw [HTB.out, qa]; rfl
    go_wp2_with fail
    go_meet; exact ⟨rfl, rfl⟩
   | false =>
    cases qb : (E0.peer != e.peer) with
    | true =>
     obtain rfl : tb = true := by rw [HTB.out, qa, qb]; rfl
     go_wp2_with fail
     go_meet; exact ⟨rfl, rfl⟩
    | false =>
     obtain ⟨tc, htc⟩ : ∃ tc, (E0.life != e.life) = tc := ⟨_, rfl⟩; obtain rfl : tb = tc := by rw [HTB.out, qa, qb, htc]; rfl
     go_wp2_with fail
     go_meet; exact ⟨rfl, rfl⟩
  case rest =>
   obtain ⟨rfl, rfl⟩ := hcut; have HL6 : Hid (Lo V.drew B bl LL MM) := HLV.out.drew; have HS6 : Hid (Ls bl l m w LL MM V.drew) := HSV.out.trans (Ls.of_below (Below.refl _ _).drew); have HKE6 : Hid (Blk V.drew w.heap.size (.cells (enB e A c D d) 26)) := HKEV.out.drew; clear v0 v1 v2 e0 e1 e2 el k1 k2 k3 k4 k5 k6 hc0 x0 x1 x2 x3 x4 x5 x6 xl y0 y1 y2 y3 y4 y5 y6 yl vl HSV HKV HFV hV; generalize V.drew = V6 at HL6 HS6 HKE6 ⊢; go_upto_if 45 with fail
   go_cut [] from 9 (fun wx => ∃ L M k t, Bk w wx B bl l m i e A c D d L M k t)
   case first =>
    cases tb with
    | true =>
     have HC : Hid (E0.phase ≠ 3 ∨ E0.peer ≠ e.peer ∨ E0.life ≠ e.life) := by
      have h9 := HTB.out.symm; simp only [Bool.or_eq_true, bne_iff_ne, ne_eq] at h9; rcases h9 with (h9 | h9) | h9
      ·exact .inl h9
      ·exact .inr (.inl h9)
      ·exact .inr (.inr h9)
     have HN : Hid (¬ ((l.end_ i).phase = 3 ∧ (l.end_ i).peer = e.peer ∧ (l.end_ i).life = e.life)) := fun hn => by
      rw [HE0.out] at hn; rcases HC.out with h9 | h9 | h9
      ·exact h9 hn.1
      ·exact h9 hn.2.1
      ·exact h9 hn.2.2
     have v3 := HL6.out.nowc HI.out; rw [hp.out] at v3; have v4 := HL6.out.box.free p; have v5 := HL6.out.box.lt; have v6 := HL6.out.box.cell 15 (v := .slice MM.T MM.zs.length MM.ct) rfl; obtain ⟨V5, hV5⟩ : ∃ V5, V6.setCell ⟨bl, p, none⟩ (.int .i64 (MM.zs.length : Int)) = V5 := ⟨_, rfl⟩; have HL5 : Hid (Lo V5 B bl (LL.setNow i (MM.zs.length : Int)) MM ∧ Ls bl LL MM V6 (LL.setNow i (MM.zs.length : Int)) MM V5) := by
      have q := HL6.out.setNow HI.out (MM.zs.length : Int); rw [hp.out, hV5] at q; exact q
     have HF5 : Hid (Frame (fun b => b = bl) V6 V5) := by rw [← hV5]; exact (Frame.refl (fun b => b = bl) V6).setCell (p := ⟨bl, p, none⟩) (.inl rfl) _
     obtain ⟨LN, HLN⟩ : ∃ LN, Hid (LL.setNow i (MM.zs.length : Int) = LN) := ⟨_, rfl⟩; rw [HLN.out] at HL5; go_upto_region 6 with fail
     refine stail 10 (by kernel_rfl) (by kernel_rfl) (fun Kq hKq => ?_); simp only [List.take_succ_cons, List.take_zero, List.drop_succ_cons, List.drop_zero] at hKq ⊢; repeat still_step
     refine wpStill_nil (hKq _ ?_); clear hKq Kq; go_wp2; have HL7 : Hid (Lo V5.drew B bl LN MM) := HL5.out.1.drew; have HS7 : Hid (Ls bl l m w LN MM V5.drew) := (HS6.out.trans HL5.out.2).trans (Ls.of_below (Below.refl _ _).drew); have HKE7 : Hid (Blk V5.drew w.heap.size (.cells (enB e A c D d) 26)) := (HKE6.out.frame HF5.out (fun e9 => by have := HLO.out.box.lt; omega)).drew; clear v3 v4 v5 v6 HL5 HF5 hV5; generalize V5.drew = V7 at HL7 HS7 HKE7 ⊢; have HOD : Hid (V7.drew.ownsRow B 120 6 (.slice MM.T MM.zs.length MM.ct) MM.zs.length (tzs MM.zs)) := HL7.out.tal; have hnb : ∀ b cs t, Blk V7 b (.cells cs t) → t ≠ 120 → ¬ (Value.slice MM.T MM.zs.length MM.ct).ownBlock = some b := fun b cs t hb ht e2 => own_ne HL7.out.tal hb (fun e3 => ht e3.symm) e2; have HNB := Lib.hid hnb; have hke := HKE7.out.lt; have hlb7 := HL7.out.box.lt; have hlo := HL7.out.lo; have hzl : MM.zs.length ≤ 1000000000 := by
      have h1 := congrArg List.length HLV.out.tz; rw [List.length_map] at h1; rw [h1, ← HLL.out]; have h2 : (l.setEnd i e).tales = l.tales := by unfold Lp.setEnd; split <;> rfl
      rw [h2]; exact HTL.out
     clear hnb; refine drawl (fun w' => Frame (fun b => (Value.slice MM.T MM.zs.length MM.ct).ownBlock = some b) V7 w') 15 15 rfl (by kernel_rfl) (fun Qd hQd => ?_); iterate 11 (first | apply sL 0 (by rfl) (by kernel_rfl) rfl (by kernel_rfl) | apply sL 1 (by rfl) (by kernel_rfl) rfl (by kernel_rfl) | apply sL 5 (by rfl) (by kernel_rfl) rfl (by kernel_rfl) | apply sL 6 (by rfl) (by kernel_rfl) rfl (by kernel_rfl) | apply sL 8 (by rfl) (by kernel_rfl) rfl (by kernel_rfl) | apply sL 2 (by rfl) (by kernel_rfl) rfl (by kernel_rfl) | apply sL 7 (by rfl) (by kernel_rfl) rfl (by kernel_rfl) | apply sL 9 (by rfl) (by kernel_rfl) rfl (by kernel_rfl) | apply sL 3 (by rfl) (by kernel_rfl) rfl (by kernel_rfl) | apply sL 10 (by rfl) (by kernel_rfl) rfl (by kernel_rfl) | apply sL 4 (by rfl) (by kernel_rfl) rfl (by kernel_rfl)); (focus intro wI hI Kv hKv; have u0 := (HL7.out.box.frame hI (HNB.out _ _ _ HL7.out.box (by decide))).cell 15 (v := .slice MM.T MM.zs.length MM.ct) rfl; have g0 := HKE7.out.frame hI (HNB.out _ _ _ HKE7.out (by decide)); have v0 := g0.cell 0 (v := .int .i64 e.life) rfl; have v1 := g0.cell 1 (v := .int .i64 e.peer) rfl; clear g0; go_simp; exact hKv); intro Kd hKd; go_simp; refine hKd _ ?_; clear hKd Kd
     refine anyL_one 11 rfl (by kernel_rfl) ((Frame.refl _ V7).drew) (fun Kd hKd => ?_); go_wp2; refine anyL_one 12 rfl (by kernel_rfl) (((Frame.refl _ V7).drew.alloc _)) (fun Kd hKd => ?_); go_wp2_with (at_builtin; go_must (refine wpList_app1' rTz _ rfl _ _ rfl HOD.out rfl [_, _, _, _, _, _] 1 rfl rfl (by simp [Value.oneCell']) (by omega) (by show B ≤ V7.heap.size; omega) ?_); intro v6 w6 ho6 hB6 hg6 hloc6; obtain ⟨T6, c6, rfl⟩ := own_fits ho6)
     have HG6 : Hid (Frame (fun b => (Value.slice MM.T MM.zs.length MM.ct).ownBlock = some b) V7 w6) := (Frame.refl _ V7).drew.trans (Frame.of_grown hg6) (fun _ _ h => h); have bx6 := HL7.out.box.frame HG6.out (HNB.out _ _ _ HL7.out.box (by decide)); have k2 := bx6.cell 15 (v := .slice MM.T MM.zs.length MM.ct) rfl; have k3 := bx6.free 15; have k4 := bx6.lt; have HO6 := Lib.hid ho6; have HL6 := Lib.hid hloc6; clear ho6 hB6 hg6 hloc6 bx6; refine anyL_one 13 rfl (by kernel_rfl) (HG6.out) (fun Kd hKd => ?_); go_wp2; apply anyL_step 14 (by kernel_rfl) rfl (by kernel_rfl); (focus intro wI hI Kv hKv; go_simp; exact hKv); intro Kd hKd; go_simp; refine hKd _ ?_; clear hKd Kd
     refine anyL_end rfl (by kernel_rfl) (HG6.out) (fun Kd hKd => ?_); go_wp2; have HAD := HL7.out.addTale (v := ⟨i, e.life, e.peer, [], [], []⟩) ⟨rfl, rfl, rfl⟩ HG6.out HO6.out HL6.out; obtain ⟨LT, HLT⟩ : ∃ LT, Hid (({ LN with tales := LN.tales ++ [⟨i, e.life, e.peer, [], [], []⟩] } : Lp) = LT) := ⟨_, rfl⟩; obtain ⟨MT, HMT⟩ : ∃ MT, Hid (({ MM with T := T6, ct := c6, zs := MM.zs ++ [⟨⟨i, e.life, e.peer, [], [], []⟩, none, 0, none, 0, none, 0⟩] } : Lm) = MT) := ⟨_, rfl⟩; rw [HLT.out, HMT.out] at HAD; have HL2 := Lib.hid HAD.1; have HS2 := Lib.hid (HS7.out.trans HAD.2); have HKE2 := Lib.hid ((HKE7.out.frame HG6.out (HNB.out _ _ _ HKE7.out (by decide))).far (p := ⟨bl, 15, none⟩) (fun e9 => by have := HLO.out.box.lt; have e10 : w.heap.size = bl := e9; omega) (.slice T6 (MM.zs.length + 1) c6)); have HTK : Hid (LT.tales[MM.zs.length]? = some ⟨i, e.life, e.peer, [], [], []⟩) := by
      show _ = _; have h1 := congrArg List.length HL7.out.tz; rw [List.length_map] at h1; rw [← HLT.out, h1]; exact List.getElem?_concat_length
     have HNK : Hid (LT.now i = (MM.zs.length : Int)) := by
      show _ = _; rw [← HLT.out, ← HLN.out]; rcases HI.out with rfl | rfl <;> rfl
     have HBK : Hid (e.base ≤ (([] : List ByteArray).length : Int)) := by
      show _ ≤ _; rw [HNEW.out HN.out HP3.out]; exact Int.le_refl _
     have HB : Hid (becomesA l i e = { LT with tales := setAt (sentA e) MM.zs.length LT.tales }) := by
      show _ = _; have h1 := congrArg List.length HLV.out.tz; rw [List.length_map] at h1; unfold becomesA; rw [HE0.out, HLL.out, if_neg (fun h9 => h9 HP3.out), if_pos HC.out, ← h1, HLN.out]; have h2 : LL.tales = LN.tales := by rw [← HLN.out]; unfold Lp.setNow; split <;> rfl
      rw [h2, HLT.out]; show ({ LT with tales := setAt (sentA e) (LT.now i).toNat LT.tales } : Lp) = _; rw [HNK.out]; rfl
     obtain ⟨t, HT⟩ : ∃ t : Ta, Hid ((⟨i, e.life, e.peer, [], [], []⟩ : Ta) = t) := ⟨_, rfl⟩; rw [HT.out] at HTK; have HBT : Hid (e.base ≤ (t.sent.length : Int)) := by rw [← HT.out]; exact HBK.out
     clear k2 k3 k4 HAD; generalize w6.setCell ⟨bl, 15, none⟩ (.slice T6 (MM.zs.length + 1) c6) = V2 at HL2 HS2 HKE2 ⊢; go_meet; exact ⟨LT, MT, MM.zs.length, t, HL2.out, HS2.out, HKE2.out, HTK.out, HNK.out, HBT.out, by rw [← HT.out]; exact Nat.zero_le _, HB.out⟩
    | false =>
     have h9 := HTB.out.symm; simp only [Bool.or_eq_false_iff, bne_eq_false_iff_eq] at h9; have HSM : Hid (E0.phase = 3 ∧ E0.peer = e.peer ∧ E0.life = e.life) := ⟨h9.1.1, h9.1.2, h9.2⟩; clear h9; obtain ⟨k, t, hk, ht, hb, hsl⟩ := HOLD.out (by rw [HE0.out]; exact HSM.out) HP3.out; have HNK : Hid (LL.now i = (k : Int)) := by
      show _ = _; rw [← HLL.out, now_setEnd]; exact hk
     have HTK : Hid (LL.tales[k]? = some t) := by
      show _ = _; rw [← HLL.out, tales_setEnd]; exact ht
     have HBT : Hid (e.base ≤ (t.sent.length : Int)) := hb; have HSL : Hid (t.sent.length ≤ 1000000000) := hsl; have HB : Hid (becomesA l i e = { LL with tales := setAt (sentA e) k LL.tales }) := by
      show _ = _; unfold becomesA; rw [HE0.out, HLL.out, if_neg (fun h9 => h9 HP3.out), if_neg (fun h9 => by
       rcases h9 with h9 | h9 | h9
       ·exact h9 HSM.out.1
       ·exact h9 HSM.out.2.1
       ·exact h9 HSM.out.2.2)]
      show ({ LL with tales := setAt (sentA e) (LL.now i).toNat LL.tales } : Lp) = _; rw [HNK.out]; rfl
     clear hk ht hb hsl; go_wp2_with fail
     go_meet; exact ⟨LL, MM, k, t, HL6.out, HS6.out, HKE6.out, HTK.out, HNK.out, HBT.out, HSL.out, HB.out⟩
   case rest =>
    obtain ⟨V2, rfl⟩ : ∃ V2, V2 = wc := ⟨wc, rfl⟩; obtain ⟨LX, MX, k, t, hbk⟩ := hcut; have HL2 := Lib.hid hbk.lo; have HS2 := Lib.hid hbk.ls; have HKE2 := Lib.hid hbk.ke; have HTK := Lib.hid hbk.tk; have HNK := Lib.hid hbk.nk; have HBT := Lib.hid hbk.bt; have HSL := Lib.hid hbk.sl; have HB := Lib.hid hbk.b; clear hbk; clear HL6 HS6 HKE6 HTB; have HE2 : Hid (EnT V2 e A c D) := HE.out.ls HLO.out HS2.out; obtain ⟨Q, HQ⟩ : ∃ Q, Hid ((newTs e t.sent.length).length = Q) := ⟨_, rfl⟩; obtain ⟨F, HF⟩ : ∃ F, Hid (flyN e = F) := ⟨_, rfl⟩; have HQF : Hid (Q = F - (t.sent.length - e.base.toNat)) := by show _ = _; rw [← HQ.out, newTs_len, HF.out]
    have HFM : Hid (F = min e.out.length 4) := by show _ = _; rw [← HF.out]; unfold flyN; rw [if_pos HP3.out]
    have hbs : 0 ≤ e.base ∧ e.base ≤ 1000000000 := ⟨HG.out.base, by have := HG.out.room; unfold most at this; omega⟩; have hel := HG.out.len; obtain ⟨z0, g0, hz0, hzv0, hTg, hkz, hgl0, hgb0, s3, s4, s5, sf⟩ := HL2.out.tale HTK.out; have c15 := HL2.out.box.cell 15 (v := .slice MX.T MX.zs.length MX.ct) rfl; rw [hTg] at c15; have c16 := HL2.out.nowc HI.out; rw [hp.out, HNK.out] at c16; have hix7 : ∀ w', (Instr.indexAt 57 (.slice (some ⟨g0, 0, none⟩) MX.zs.length MX.ct) (.int .i64 (k : Int))).run Try.prog w' = .ok (.pointer (some ⟨g0, k * 6, none⟩)) w' := fun w' => ix57 hkz w'; obtain ⟨q6, Hq6⟩ : ∃ q6, Hid (k * 6 = q6) := ⟨_, rfl⟩; rw [Hq6.out] at hix7 s3 s4 s5; rw [hzv0] at s3; have HTG0 := Lib.hid hTg; have hlb2 := HL2.out.box.lt; clear hz0 hzv0 hTg hkz hgb0 s4 s5 sf; go_upto_region 8 with fail
    refine sall (by kernel_rfl) (by kernel_rfl) (fun Kq hKq => ?_); repeat still_step
    refine wpStill_nil (hKq _ ?_); clear hKq Kq; go_wp2; go_loopg [8] Q (fun g n wr => ∃ (j : Nat) (M : Lm), j + g = Q ∧ n = .int .i64 ((t.sent.length + j : Nat) : Int) ∧ Lo wr B bl { LX with tales := LX.tales.set k (sentJ e t j) } M ∧ Ls bl LX MX V2 { LX with tales := LX.tales.set k (sentJ e t j) } M wr ∧ M.T = some ⟨g0, 0, none⟩)
    case atStart =>
     have e0 : ({ LX with tales := LX.tales.set k (sentJ e t 0) } : Lp) = LX := by
      have e1 : sentJ e t 0 = t := by unfold sentJ; simp
      rw [e1, list_set_self HTK.out]
     refine ⟨0, MX, Nat.zero_add _, rfl, ?_, ?_, HTG0.out⟩
     ·rw [e0]; exact HL2.out.drew
     ·rw [e0]; exact Ls.of_below (Below.refl _ _).drew
    case round =>
     obtain ⟨j, M, hj, rfl, hlo, hls, hT⟩ := hrel; have HER : Hid (EnT wr e A c D) := HE2.out.ls HL2.out hls; have HKER : Hid (Blk wr w.heap.size (.cells (enB e A c D d) 26)) := HKE2.out.frame hls.fr (HL2.out.ne HKE2.out (by decide) (by decide) (by decide) (by decide)); obtain ⟨LJ, HLJ⟩ : ∃ LJ, Hid (({ LX with tales := LX.tales.set k (sentJ e t j) } : Lp) = LJ) := ⟨_, rfl⟩; rw [HLJ.out] at hlo hls; have hkl := (List.getElem?_eq_some_iff.1 HTK.out).1; obtain ⟨z, g2, hz, hzv, hTg, hkz, hgl, ⟨cur2, hgb⟩, t3, t4, t5, tf⟩ := hlo.tale (k := k) (t := sentJ e t j) (by rw [← HLJ.out]; exact List.getElem?_set_self hkl); have eg : g2 = g0 := (congrArg Addr.block (Option.some.inj (hT.symm.trans hTg))).symm; rw [eg] at hTg hgl hgb t3 tf; clear eg t4 t5; have HLR := Lib.hid hlo; have HLSR := Lib.hid hls; have HZ := Lib.hid hz; have HZV := Lib.hid hzv; have HTG := Lib.hid hTg; have HGB := Lib.hid hgb; have HZX : Hid ((txs M.zs)[k * 3 + 0]? = some (.slice z.S z.v.sent.length z.cs, z.v.sent)) := by
      show _ = _; unfold txs; rw [flatg_get tx_len M.zs k 0 (by decide), hz]; rfl
     have HZL : Hid (z.v.sent.length ≤ t.sent.length + j) := by
      show _ ≤ _; rw [hzv]; unfold sentJ; simp only [List.length_append, List.length_take]; omega
     rw [Hq6.out] at t3; have r3 := HKER.out.cell 3 (v := .int .i64 e.base) rfl; have r4 := HKER.out.cell 4 (v := .slice A e.out.length c) rfl; have rl := HKER.out.lt; obtain ⟨nn, HNN⟩ : ∃ nn : Int, Hid (((t.sent.length + j : Nat) : Int) = nn) := ⟨_, rfl⟩; rw [HNN.out]; have HFQ : Hid (nn = (t.sent.length : Int) + j ∧ Q = F - (t.sent.length - e.base.toNat) ∧ F = min e.out.length 4 ∧ e.base ≤ t.sent.length) := ⟨by rw [← HNN.out]; omega, HQF.out, HFM.out, HBT.out⟩; clear hlo hls hz hzv hTg hT hkz hgb tf hkl; obtain ⟨tl, HTL2⟩ : ∃ tl : Bool, Hid (tl = decide (j < Q)) := ⟨_, rfl⟩; have HJG := Lib.hid hj; clear hj; go_upto_region 10 with fail
     go_cut [95] from 87 to 115 (fun q wx => q = .bool tl ∧ wx = wr)
     case first =>
      by_cases h4 : (4 : Int) < (e.out.length : Int)
      ·have hw8 : IntKind.i64.wrap (e.base + 4) = e.base + 4 := wrap_ok ⟨by omega, by omega⟩; have h4' : ¬ ((e.out.length : Int) < 4) := by omega
       have q1 : decide (nn < e.base + 4) = tl := by rw [HTL2.out]; exact decide_eq_decide.2 (by have := HFQ.out; omega)
       go_wp2_with fail
       go_meet; exact ⟨rfl, rfl⟩
      ·have hw8 : IntKind.i64.wrap (e.base + (e.out.length : Int)) = e.base + (e.out.length : Int) := wrap_ok ⟨by omega, by omega⟩; have q1 : decide (nn < e.base + (e.out.length : Int)) = tl := by rw [HTL2.out]; exact decide_eq_decide.2 (by have := HFQ.out; omega)
       go_wp2_with fail
       go_meet; exact ⟨rfl, rfl⟩
     case rest =>
      obtain ⟨rfl, hwc⟩ := hcut; obtain rfl := hwc.symm; clear hwc; cases tl with
      | true =>
       have hlt : j < Q := of_decide_eq_true HTL2.out.symm; obtain ⟨x, bo, oo, cur, hx, hbo, hbb, hix, hcx⟩ := HER.out.at71 (k := t.sent.length - e.base.toNat + j) (by have := HFQ.out; omega); obtain ⟨ix, hixx⟩ : ∃ ix, t.sent.length - e.base.toNat + j = ix := ⟨_, rfl⟩; rw [hixx] at hx hix; have hw9 : IntKind.i64.wrap (nn - e.base) = (ix : Int) := by
        have h1 := HFQ.out; rw [show nn - e.base = (ix : Int) by omega]; exact wrap_ok ⟨by omega, by omega⟩
       have HXT : Hid ((newTs e t.sent.length)[j]? = some x.t) := newTs_at (by rw [HQ.out]; exact hlt) (by rw [hixx]; exact hx); have HXO : Hid (wr.drew.ownsRow B 9 1 (.slice z.S z.v.sent.length z.cs) z.v.sent.length (strs z.v.sent)) := HLR.out.txt.own (.slice z.S z.v.sent.length z.cs, z.v.sent) (List.mem_of_getElem? HZX.out); have hnb : ∀ b cs ty, Blk wr b (.cells cs ty) → ty ≠ 9 → ¬ (Value.slice z.S z.v.sent.length z.cs).ownBlock = some b := fun b cs ty hb ht e2 => own_ne HXO.out hb (fun e3 => ht e3.symm) e2; have HNB := Lib.hid hnb; have ng : ¬ (Value.slice z.S z.v.sent.length z.cs).ownBlock = some g0 := HNB.out _ _ _ HGB.out (by decide); have nbo : ¬ (Value.slice z.S z.v.sent.length z.cs).ownBlock = some bo := HNB.out _ _ _ hbb (by decide); have HZN : Hid (z.v.sent.length ≤ 1000000100) := by show _ ≤ _; have h1 := HFQ.out; have h2 := HZL.out; omega
       have hzn := HZN.out; have hlo := HLR.out.lo; have hlbr := HLR.out.box.lt; have HQJ : Hid (j < Q ∧ t.sent.length + j ≤ 1000000100) := ⟨hlt, by have h1 := HFQ.out; omega⟩; have hw7 : IntKind.i64.wrap (nn + 1) = nn + 1 := wrap_ok (by have h1 := HFQ.out; have h2 := HQJ.out; exact ⟨by omega, by omega⟩); clear hnb hx hbb hixx hlt; go_wp2; clear r3 r4; refine drawl (fun w' => Frame (fun b => (Value.slice z.S z.v.sent.length z.cs).ownBlock = some b) wr w') 18 18 rfl (by kernel_rfl) (fun Qd hQd => ?_)
       iterate 14 (first | apply sL 0 (by rfl) (by kernel_rfl) rfl (by kernel_rfl) | apply sL 1 (by rfl) (by kernel_rfl) rfl (by kernel_rfl) | apply sL 5 (by rfl) (by kernel_rfl) rfl (by kernel_rfl) | apply sL 7 (by rfl) (by kernel_rfl) rfl (by kernel_rfl) | apply sL 8 (by rfl) (by kernel_rfl) rfl (by kernel_rfl) | apply sL 2 (by rfl) (by kernel_rfl) rfl (by kernel_rfl) | apply sL 6 (by rfl) (by kernel_rfl) rfl (by kernel_rfl) | apply sL 9 (by rfl) (by kernel_rfl) rfl (by kernel_rfl) | apply sL 3 (by rfl) (by kernel_rfl) rfl (by kernel_rfl) | apply sL 10 (by rfl) (by kernel_rfl) rfl (by kernel_rfl) | apply sL 4 (by rfl) (by kernel_rfl) rfl (by kernel_rfl) | apply sL 11 (by rfl) (by kernel_rfl) rfl (by kernel_rfl) | apply sL 12 (by rfl) (by kernel_rfl) rfl (by kernel_rfl) | apply sL 13 (by rfl) (by kernel_rfl) rfl (by kernel_rfl)); (focus intro wI hI Kv hKv; have u3 := cell_frame hI hgl ng t3; have g0 := HKER.out.frame hI (HNB.out _ _ _ HKER.out (by decide)); have u4 := g0.cell 3 (v := .int .i64 e.base) rfl; have u5 := g0.cell 4 (v := .slice A e.out.length c) rfl; have u6 := cell_frame hI hbo nbo hcx; clear g0; go_simp; exact hKv); intro Kd hKd; go_simp; refine hKd _ ?_; clear hKd Kd
       refine anyL_one 14 rfl (by kernel_rfl) ((Frame.refl _ wr).drew) (fun Kd hKd => ?_); go_wp2; refine anyL_one 15 rfl (by kernel_rfl) (((Frame.refl _ wr).drew.alloc _)) (fun Kd hKd => ?_); go_wp2_with (at_builtin; go_must (refine wpList_app1' rSt _ rfl _ _ rfl HXO.out rfl [_] 1 rfl rfl (by simp [Value.oneCell']) (by omega) (by show B ≤ wr.heap.size; omega) ?_); intro v6 w6 ho6 hB6 hg6 hloc6; obtain ⟨A6, c6, rfl⟩ := own_fits ho6)
       have HG6 : Hid (Frame (fun b => (Value.slice z.S z.v.sent.length z.cs).ownBlock = some b) wr w6) := (Frame.refl _ wr).drew.trans (Frame.of_grown hg6) (fun _ _ h => h); have k2 := cell_frame HG6.out hgl ng t3; have k3 := (HGB.out.frame HG6.out ng).free (q6 + 3); have k4 := (HGB.out.frame HG6.out ng).lt; have HO6 := Lib.hid ho6; have HL6 := Lib.hid hloc6; clear ho6 hB6 hg6 hloc6; refine anyL_one 16 rfl (by kernel_rfl) (HG6.out) (fun Kd hKd => ?_); go_wp2; apply anyL_step 17 (by kernel_rfl) rfl (by kernel_rfl); (focus intro wI hI Kv hKv; go_simp; exact hKv); intro Kd hKd; go_simp; refine hKd _ ?_; clear hKd Kd
       refine anyL_end rfl (by kernel_rfl) (HG6.out) (fun Kd hKd => ?_); go_wp2; go_roundg (Q - (j + 1))
       case rel =>
        have e1 : (z.v.sent ++ [x.t]).length = z.v.sent.length + 1 := by simp
        have ho : w6.ownsRow B 9 1 (.slice A6 (z.v.sent ++ [x.t]).length c6) (z.v.sent ++ [x.t]).length (strs (z.v.sent ++ [x.t])) := by
         rw [e1, strs_snoc]; exact HO6.out
        have hst := HLR.out.setText (k := k) (j := 0) (g := g0) (z := z) (z' := { z with v := { z.v with sent := z.v.sent ++ [x.t] }, S := A6, cs := c6 }) (x := (.slice z.S z.v.sent.length z.cs, z.v.sent)) HZ.out (by omega) HTG.out rfl rfl rfl HG6.out ho (by rw [e1]; exact HL6.out); rw [e1] at hst; have e2 : ({ LJ with tales := LJ.tales.set k { z.v with sent := z.v.sent ++ [x.t] } } : Lp) = { LX with tales := LX.tales.set k (sentJ e t (j + 1)) } := by
         rw [← HLJ.out]; have e3 : ({ z.v with sent := z.v.sent ++ [x.t] } : Ta) = sentJ e t (j + 1) := by
          rw [HZV.out]; unfold sentJ; rw [take_succ_of HXT.out]; simp
         rw [e3]; simp
        have e4 : k * 6 + (3 + 0) = q6 + 3 := by have := Hq6.out; omega
        simp only [e2, e4] at hst; obtain ⟨hjq, hjn⟩ := HQJ.out; refine ⟨j + 1, _, by omega, by (have h9 := HNN.out; congr 1; omega), hst.1, HLSR.out.trans hst.2, HTG.out⟩
       case measure => have h2 := HQJ.out; have h3 := HJG.out; omega
      | false =>
       have hlt : ¬ j < Q := of_decide_eq_false HTL2.out.symm; obtain rfl : j = Q := by have := HJG.out; omega
       have HEND : Hid (LJ = becomesA l i e) := by
        show _ = _; rw [← HLJ.out, HB.out, setAt_eq HTK.out, ← HQ.out, sentJ_all]
       clear hlt; go_wp2; go_end0
       rw [HEND.out] at HLR HLSR; exact ⟨rfl, M, HLR.out, HS2.out.trans HLSR.out⟩
end Go.Proofs.Ytejabnoidhlfaaa
