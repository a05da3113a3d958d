/- Contracts and lemmas that the claim uses. -/
import Derived.Test.YtejabnoidhlfaaaV05
set_option maxRecDepth 100000
set_option maxHeartbeats 16000000
namespace Go.Proofs.Ytejabnoidhlfaaa
open Go.RowKit Go.Maps
theorem takes_yes (bx bm : Nat) (e : En) (A : Option Addr) (c : Nat) (vi : Value) (p : Pk) (w : World) (h : Xs w bx bm e A c vi) (hg : GoodP e) (hfar : OutFar e A bx bm) (hnum : 0 ≤ p.num ∧ p.num < 1000000000) (_hts : p.t.size ≤ 20) (hn1 : ¬ p.num < e.want) (hn2 : ¬ e.want + 4 ≤ p.num) (hn3 : getN e.inn p.num = none) :
  Calls Try.prog 56 #[.pointer (some ⟨bx, 0, none⟩), pkV p] w fun r w' => ∃ T d, r = .returned (.slice T (cameA e p).2.length d) ∧ w'.ownsRow w.heap.size 9 1 (.slice T (cameA e p).2.length d) (cameA e p).2.length (strs (cameA e p).2) ∧ Xs w' bx bm (cameA e p).1 A c vi ∧ Frame (fun b => b = bx ∨ b = bm) w w' := by
 have HY := Lib.hid (came_yes hn1 hn2 hn3); have HFAR := Lib.hid hfar; have q1 : decide (p.num < e.want) = false := decide_eq_false hn1; have q2 : decide (e.want + 4 ≤ p.num) = false := decide_eq_false hn2; have HX := Lib.hid h; have HG := Lib.hid hg; have hw := hg.want; unfold most at hw; have HB0 : Hid (Below w.heap.size w (w.alloc (.cells #[.int .i64 p.kind, .int .i64 p.frm, .int .i64 p.to, .int .i64 p.num, .string p.t, .int .i64 p.ack, .int .i64 p.held] 44))) := (Below.refl _ w).alloc (Nat.le_refl _) _; have hX1 := h.below HB0.out; have hb4 := Blk.new w (.cells #[.int .i64 p.kind, .int .i64 p.frm, .int .i64 p.to, .int .i64 p.num, .string p.t, .int .i64 p.ack, .int .i64 p.held] 44); obtain ⟨W, hW⟩ : ∃ W, w.alloc (.cells #[.int .i64 p.kind, .int .i64 p.frm, .int .i64 p.to, .int .i64 p.num, .string p.t, .int .i64 p.ack, .int .i64 p.held] 44) = W := ⟨_, rfl⟩; rw [hW] at HB0 hX1 hb4; have HX1 := Lib.hid hX1; have hlook := hX1.drew.map.look (k := p.num) ⟨by omega, by omega⟩; have x5 := hX1.box.cell 5 (v := .int .i64 e.want) rfl; have x7 := hX1.box.cell 7 (v := .map (some bm)) rfl; have xl := hX1.box.lt; have p3 := hb4.cell 3 (v := .int .i64 p.num) rfl; have p4 := hb4.cell 4 (v := .string p.t) rfl; have pl := hb4.lt; have hw4 : IntKind.i64.wrap (e.want + 4) = e.want + 4 := wrap_ok ⟨by omega, by omega⟩; unfold pkV; rw [hn3] at hlook; simp only [Option.getD, Option.isSome] at hlook; have hmx := HX1.out.map.not_blk HX1.out.box; have hins := hg.ins; have hil := hg.ins_len
 have HSR := Lib.hid (putA_srt ⟨p.num, p.t⟩ (hins.1.low (show e.want - 1 ≤ e.want by omega)) hn3 (by show e.want - 1 < p.num; omega)); have HPG := Lib.hid (putA_get ⟨p.num, p.t⟩ hins.1 hn3); have HPL := Lib.hid (putA_len ⟨p.num, p.t⟩ e.inn); have HMX : Hid (∀ x ∈ putA ⟨p.num, p.t⟩ e.inn, x.n < most) := fun x hx => by
  rcases (putA_mem _ _ _).1 hx with e1 | hx
  ·subst e1; show p.num < most; unfold most; omega
  ·exact (hins.2 x hx).2.1
 have hE0 : Early W.drew.drew.drew bm (getN e.inn) := hX1.map.frame (S := fun _ => False) (Frame.refl _ _).drew.drew.drew (fun h => h); obtain ⟨w5, hput, hE5, hg5⟩ := hE0.put (k := p.num) ⟨by omega, by omega⟩ hn3 p.t; have HE5 : Hid (Early w5 bm (getN (putA ⟨p.num, p.t⟩ e.inn))) := by show Early _ _ _; rw [HPG.out]; exact hE5
 have HF5 : Hid (Frame (fun b => b = bm) W w5) := (Frame.refl (fun b => b = bm) W).drew.drew.drew.trans (Frame.of_grown hg5) (fun b _ e => by injection e with e; exact e.symm); have HBX5 : Hid (Blk w5 bx (.cells #[.int .i64 e.life, .int .i64 e.peer, .int .i64 e.phase, .int .i64 e.base, .slice A e.out.length c, .int .i64 e.want, vi, .map (some bm)] 84)) := hX1.box.frame HF5.out (fun e => hmx e.symm); clear h hg hX1 hb4 hins hE0 hE5 hg5 hn1 hn2 hn3 hfar; go_enter Try.func56, Try.ntmps56
 go_wp2; refine sall (by kernel_rfl) (by kernel_rfl) (fun Kq hKq => ?_); repeat still_step
 refine wpStill_nil (hKq _ ?_); clear hKq Kq; go_wp2; refine sall (by kernel_rfl) (by kernel_rfl) (fun Kq hKq => ?_); repeat still_step
 refine wpStill_nil (hKq _ ?_); clear hKq Kq; go_wp2; refine stail 8 (by kernel_rfl) (by kernel_rfl) (fun Kq hKq => ?_); simp only [List.take_succ_cons, List.take_zero, List.drop_succ_cons, List.drop_zero] at hKq ⊢; repeat still_step
 refine wpStill_nil (hKq _ ?_); clear hKq Kq; go_wp2; clear hlook x5 x7 p3 p4 hput q1 q2 hw4; have hs5 := HF5.out.size; go_loopw [7] (fun vo wr => ∃ (want : Int) (l : List Im) (out : List ByteArray), Blk wr bx (.cells #[.int .i64 e.life, .int .i64 e.peer, .int .i64 e.phase, .int .i64 e.base, .slice A e.out.length c, .int .i64 want, vi, .map (some bm)] 84) ∧ Early wr bm (getN l) ∧ wr.ownsRow w5.heap.size 9 1 vo out.length (strs out) ∧
   srt (want - 1) l ∧ 0 ≤ want ∧ want ≤ 1000000000 ∧ (∀ x ∈ l, x.n < most) ∧ slLen vo = out.length ∧ out.length + l.length = e.inn.length + 1 ∧
   takeIn (e.inn.length + 1) e.want (putA ⟨p.num, p.t⟩ e.inn) = ((takeIn l.length want l).1, (takeIn l.length want l).2.1, out ++ (takeIn l.length want l).2.2) ∧ Frame (fun b => b = bx ∨ b = bm) w5 wr) (fun vo _ => 10 - slLen vo)
 case atStart => exact ⟨e.want, _, [], HBX5.out, HE5.out, World.ownsRow_nil _ _ _ _, HSR.out, hw.1, hw.2, HMX.out, rfl, by rw [HPL.out]; simp, by rw [HPL.out]; simp, Frame.refl _ _⟩
 case round =>
  obtain ⟨want, l, out, hbx, hE, hown, hsr, hw0, hw1, hmx2, hsl, hlen, htk, hF⟩ := hrel; have HBX := Lib.hid hbx; have HEr := Lib.hid hE; have HON := Lib.hid hown; have HSRr := Lib.hid hsr; have HMX2 := Lib.hid hmx2; have HTK := Lib.hid htk; have HF := Lib.hid hF; have hsz := hF.size; have hlk := (hE.frame (S := fun _ => False) (Frame.refl _ _).drew (fun h => h)).look (k := want) ⟨by omega, by omega⟩; have x5 := hbx.cell 5 (v := .int .i64 want) rfl; have x7 := hbx.cell 7 (v := .map (some bm)) rfl; have xl := hbx.lt; obtain ⟨Av, cv, rfl⟩ := own_fits hown; clear hbx hE hown hsr hmx2 htk hF; cases hG : getN l want with
  | none =>
   rw [hG] at hlk; simp only [Option.getD, Option.isSome] at hlk; have HT := Lib.hid (takeIn_none (f := l.length) HSRr.out hG); clear hG; go_wp2; refine sall (by kernel_rfl) (by kernel_rfl) (fun Kq hKq => ?_); repeat still_step
   refine wpStill_nil (hKq _ ?_); clear hKq Kq; go_wp2; go_ret; have hFW : Frame (fun b => b = bx ∨ b = bm) w wr.drew := (((Frame.of_all (S := fun b => b = bx ∨ b = bm) HB0.out).trans HF5.out (fun b _ e => .inr e)).trans HF.out (fun _ _ h => h)).drew; refine ⟨Av, cv, ?_, ?_, ?_, hFW⟩
   ·rw [HY.out]; simp only; rw [HTK.out, HT.out]; simp only [List.append_nil]; rfl
   ·rw [HY.out]; simp only; rw [HTK.out, HT.out]; simp only [List.append_nil]; exact own_frame (own_mono HON.out (by have := HB0.out.size; omega)) (Frame.refl (fun _ => False) wr).drew (fun _ _ h => h)
   ·rw [HY.out]; simp only; rw [HTK.out, HT.out]; simp only; exact ⟨HBX.out.drew, HX.out.out.frame hFW (fun hn a ha e => by have := HFAR.out hn a ha; rcases e with e | e; exact this.1 e; exact this.2 e), HEr.out.frame (S := fun _ => False) (Frame.refl _ _).drew (fun h => h), HX.out.cap, HX.out.nil⟩
  | some s =>
   rw [hG] at hlk; simp only [Option.getD, Option.isSome] at hlk; obtain ⟨l', rfl, hs', hupd, _⟩ := takeIn_some (f := l.length) HSRr.out hG (by omega); have HT : Hid (takeIn (l'.length + 1) want (⟨want, s⟩ :: l') = ((takeIn l'.length (want + 1) l').1, (takeIn l'.length (want + 1) l').2.1, s :: (takeIn l'.length (want + 1) l').2.2)) := by
    show _ = _; rw [takeIn, if_pos rfl]
   have hwm : want < most := HMX2.out ⟨want, s⟩ List.mem_cons_self; unfold most at hwm; have HS' := Lib.hid hs'; have hE7 : Early wr.drew.drew bm (getN (⟨want, s⟩ :: l')) := HEr.out.frame (S := fun _ => False) (Frame.refl _ _).drew.drew (fun h => h); obtain ⟨w6, hdel, hE6, hg6⟩ := hE7.del (k := want) ⟨by omega, by omega⟩ 0; rw [hupd] at hE6; have hF6 : Frame (fun b => b = bm) wr w6 := (Frame.refl (fun b => b = bm) wr).drew.drew.trans (Frame.of_grown hg6) (fun b _ e => by injection e with e; exact e.symm); have hne : ∀ g, (Value.slice Av out.length cv).ownBlock = some g → g ≠ bm := fun g hg e => HEr.out.not_own HON.out (by rw [hg, e]); have HO6 := Lib.hid (own_frame HON.out hF6 (fun g hg e => hne g hg e)); have hb6 := HBX.out.frame hF6 (fun e => hmx e.symm); have HB6 := Lib.hid hb6; have HE6 := Lib.hid hE6; have HF6 := Lib.hid hF6; have z5 := hb6.cell 5 (v := .int .i64 want) rfl; have zl := hb6.lt; have hs6 := hF6.size; have hwn : IntKind.i64.wrap (want + 1) = want + 1 := wrap_ok ⟨by omega, by omega⟩; have hol : out.length ≤ 4 := by simp only [List.length_cons] at hlen; omega
   clear hG hs' hupd hE7 hE6 hg6 hF6 hne hb6; go_wp2; refine sall (by kernel_rfl) (by kernel_rfl) (fun Kq hKq => ?_); repeat still_step
   refine wpStill_nil (hKq _ ?_); clear hKq Kq; go_wp2; refine stail 9 (by kernel_rfl) (by kernel_rfl) (fun Kq hKq => ?_); simp only [List.take_succ_cons, List.take_zero, List.drop_succ_cons, List.drop_zero] at hKq ⊢; repeat still_step
   refine wpStill_nil (hKq _ ?_); clear hKq Kq; go_wp2_with (at_builtin; go_must (refine wpList_app1' rSt _ rfl _ _ rfl HO6.out rfl [_] 1 rfl rfl (by simp [Value.oneCell']) (by omega) (by omega) ?_); intro v7 w7 ho7 hB7 hg7 hloc7; have hb7 := HB6.out.grown hg7 (own_ne HO6.out HB6.out (by decide)); have HB7 := Lib.hid hb7; have m5 := hb7.cell 5 (v := .int .i64 want) rfl; have m6 := hb7.free 5; have ml := hb7.lt; clear hb7)
   go_roundw
   case rel =>
    have hset : Frame (fun b => b = bx) w7 (w7.setCell ⟨bx, 5, none⟩ (.int .i64 (want + 1))) := (Frame.refl (fun b => b = bx) w7).setCell (p := ⟨bx, 5, none⟩) (.inl rfl) _; have hE7 : Early w7 bm (getN l') := HE6.out.frame (Frame.of_grown hg7) (fun e => HE6.out.not_own HO6.out e); have ho8 := own_frame ho7 hset (fun g hg e => own_ne ho7 HB7.out (by decide) (by rw [hg, e])); refine ⟨want + 1, l', out ++ [s], HB7.out.set 5 _, hE7.frame hset hmx, ?_, by rw [show want + 1 - 1 = want by omega]; exact HS'.out, by omega, by omega, fun x hx => HMX2.out x (List.mem_cons_of_mem _ hx), ?_, ?_, ?_, ?_⟩
    ·rw [strs_snoc, List.length_append]; exact ho8
    ·obtain ⟨A8, c8, rfl⟩ := own_fits ho7; simp [slLen]
    ·simp only [List.length_cons, List.length_append, List.length_nil] at hlen ⊢; omega
    ·rw [HTK.out]; simp only [List.length_cons]; rw [HT.out]; simp only [List.append_assoc, List.singleton_append]
    ·exact (((HF.out.trans HF6.out (fun b _ e => .inr e)).trans (Frame.of_grown hg7) (fun b hb e => by have := (HO6.out.lt _ e).1; omega)).trans hset (fun b _ e => .inl e))
   case measure =>
    obtain ⟨A8, c8, rfl⟩ := own_fits ho7; simp only [slLen]; omega
theorem takes_any (bx bm : Nat) (e : En) (A : Option Addr) (c : Nat) (vi : Value) (p : Pk) (w : World) (h : Xs w bx bm e A c vi) (hg : GoodP e) (hfar : OutFar e A bx bm) (hnum : 0 ≤ p.num ∧ p.num < 1000000000) (hts : p.t.size ≤ 20) :
  Calls Try.prog 56 #[.pointer (some ⟨bx, 0, none⟩), pkV p] w fun r w' => ∃ T d, r = .returned (.slice T (cameA e p).2.length d) ∧ w'.ownsRow w.heap.size 9 1 (.slice T (cameA e p).2.length d) (cameA e p).2.length (strs (cameA e p).2) ∧ Xs w' bx bm (cameA e p).1 A c vi ∧ Frame (fun b => b = bx ∨ b = bm) w w' := by
 by_cases h1 : p.num < e.want
 ·exact takes_no bx bm e A c vi p w h hg hnum (.inl h1)
 ·by_cases h2 : e.want + 4 ≤ p.num
  ·exact takes_no bx bm e A c vi p w h hg hnum (.inr (.inl h2))
  ·cases h3 : getN e.inn p.num with
   | some s => exact takes_no bx bm e A c vi p w h hg hnum (.inr (.inr (by rw [h3]; rfl)))
   | none => exact takes_yes bx bm e A c vi p w h hg hfar hnum hts h1 h2 h3
def RowAt (w : World) (B : Nat) (A : Option Addr) (l : List Ou) : Prop := l ≠ [] → ∃ b off cur, A = some ⟨b, off, none⟩ ∧ B ≤ b ∧ Blk w b (.cells cur 71)
def cutA (A : Option Addr) (c g : Nat) : Option Addr := if c = g then A else A.map (·.add (g * 2))
theorem cut_run {A : Option Addr} {n c g : Nat} (hg : g ≤ n) (_hc : n ≤ c) (w : World) :
  (Instr.slice 23 (.slice A n c) (some (.int .i64 (g : Int))) none none).run Try.prog w = .ok (.slice (cutA A c g) (n - g) (c - g)) w := by
 have hin : (0 : Int) ≤ (g : Int) ∧ (g : Int) ≤ (n : Int) := by omega
 simp [Instr.slice, Instr.sliceBounds, Instr.sliceBound, run_underlying Try.underlying23, asIntOf, hin, hg, Result.andThen, cutA]
theorem cut_cells {w : World} {A : Option Addr} {l : List Ou} {c g : Nat} (h : Cells w A (ous l)) (hg : g ≤ l.length) (hc : l.length ≤ c) : Cells w (cutA A c g) (ous (l.drop g)) := by
 obtain ⟨hl, b, off, hb0, hA, hcell⟩ := h; have e1 : ous l = ous (l.take g) ++ ous (l.drop g) := by unfold ous; rw [← List.flatMap_append, List.take_append_drop]
 have e2 : (ous (l.take g)).length = g * 2 := by rw [ous_len, List.length_take]; omega
 refine ⟨by rw [e1, List.length_append] at hl; omega, b, off + g * 2, hb0, fun hn => ?_, fun k v hk => ?_⟩
 ·have hn2 : l.drop g ≠ [] := fun h0 => hn (by rw [h0]; rfl); have hlt : g < l.length := by
   rcases Nat.lt_or_ge g l.length with h | h
   ·exact h
   ·exact absurd (List.drop_eq_nil_of_le h) hn2
  have hne : ous l ≠ [] := fun h0 => by rw [e1, List.append_eq_nil_iff] at h0; exact hn h0.2
  obtain ⟨hA1, hb⟩ := hA hne; refine ⟨?_, hb⟩; unfold cutA; rw [if_neg (by omega), hA1]; simp only [Option.map_some, Option.some.injEq]; unfold Addr.add; split <;> simp_all
 ·rw [Nat.add_assoc]; refine hcell (g * 2 + k) v ?_; rw [e1, List.getElem?_append_right (by omega), e2, Nat.add_sub_cancel_left]; exact hk
theorem cut_nil {A : Option Addr} {c g : Nat} (h : A = none → c = 0) : cutA A c g = none → c - g = 0 := by
 intro hc; unfold cutA at hc; split at hc
 ·omega
 ·rw [Option.map_eq_none_iff] at hc; have := h hc; omega
theorem cut_row {w : World} {B : Nat} {A : Option Addr} {l : List Ou} {c g : Nat} (h : RowAt w B A l) (hc : l.length ≤ c) : RowAt w B (cutA A c g) (l.drop g) := by
 intro hn; have hlt : g < l.length := by
  rcases Nat.lt_or_ge g l.length with h | h
  ·exact h
  ·exact absurd (List.drop_eq_nil_of_le h) hn
 obtain ⟨b, off, cur, hA, hb, hk⟩ := h (by rintro rfl; simp at hlt); refine ⟨b, off + g * 2, cur, ?_, hb, hk⟩; unfold cutA; rw [if_neg (by omega), hA]; simp only [Option.map_some, Option.some.injEq]; unfold Addr.add; split <;> simp_all
def setH (l : List Ou) (k : Nat) (v : Bool) : List Ou := l.modify k fun x => ⟨x.t, v⟩
theorem setH_len (l : List Ou) (k : Nat) (v : Bool) : (setH l k v).length = l.length := by simp [setH]
theorem setH_get (l : List Ou) (k : Nat) (v : Bool) (i : Nat) : (setH l k v)[i]? = if i = k then (l[i]?).map (fun x => ⟨x.t, v⟩) else l[i]? := by
 unfold setH; rw [List.getElem?_modify]; by_cases h : k = i
 ·simp [h]
 ·rw [if_neg (fun e => h e.symm)]; simp [h]
theorem ous_setH : ∀ (l : List Ou) (k : Nat) (v : Bool), k < l.length → ous (setH l k v) = (ous l).set (k * 2 + 1) (.bool v)
 | [], k, v, h => by simp at h
 | x :: l, 0, v, _ => by simp [setH, ous, ouC]
 | x :: l, k + 1, v, h => by
  have ih := ous_setH l k v (by simpa using h); have e1 : ous (setH (x :: l) (k + 1) v) = ouC x ++ ous (setH l k v) := by simp [setH, ous]
  have e2 : ous (x :: l) = ouC x ++ ous l := by simp [ous]
  rw [e1, e2, ih, List.set_append_right _ _ (by simp [ouC]; omega)]; congr 2; simp [ouC]; omega
theorem ix_off {b off n c k : Nat} (hk : k < n) (w' : World) : (Instr.indexAt 23 (.slice (some ⟨b, off, none⟩) n c) (.int .i64 (k : Int))).run Try.prog w' = .ok (.pointer (some ⟨b, off + k * 2, none⟩)) w' := by
 obtain ⟨i, hi, hie⟩ : ∃ i, Try.prog.info? 71 = some i ∧ i.size = 2 := by
  have hs := rOu.size_eq; cases hx : Try.prog.info? 71 with
  | none => rw [hx] at hs; cases hs
  | some i => rw [hx] at hs; exact ⟨i, rfl, by simpa using hs⟩
 have hin : (0 : Int) ≤ (k : Int) ∧ (k : Int) < (n : Int) := by omega
 simp [Instr.indexAt, run_underlying Try.underlying23, asIntOf, hin, sizeOf, typeInfo, hi, hie, hk]; by_cases h0 : k * 2 = 0
 ·have : k = 0 := by omega
  subst this; simp [Addr.add]
 ·simp [Addr.add, h0]
theorem ou_store {w : World} {B : Nat} {A : Option Addr} {l : List Ou} {c k : Nat} (h : Cells w A (ous l)) (hr : RowAt w B A l) (hk : k < l.length) (v : Bool) :
  ∃ x b o cur, l[k]? = some x ∧ b < w.heap.size ∧ B ≤ b ∧ Blk w b (.cells cur 71) ∧ (∀ w', (Instr.indexAt 23 (.slice A l.length c) (.int .i64 (k : Int))).run Try.prog w' = .ok (.pointer (some ⟨b, o, none⟩)) w') ∧
   w.cell? ⟨b, o + 1, none⟩ = some (.bool x.h) ∧ w.frozen? ⟨b, o + 1, none⟩ = false ∧ Cells (w.setCell ⟨b, o + 1, none⟩ (.bool v)) A (ous (setH l k v)) ∧ RowAt (w.setCell ⟨b, o + 1, none⟩ (.bool v)) B A (setH l k v) := by
 have hne : l ≠ [] := by rintro rfl; simp at hk
 have hne2 : ous l ≠ [] := by
  intro h0; have := ous_len l; rw [h0] at this; simp at this; omega
 obtain ⟨b, off, cur, hA, hb, hB⟩ := hr hne; obtain ⟨hl, b', off', hb0, hA', hc⟩ := h; obtain ⟨hA1, _⟩ := hA' hne2; rw [hA] at hA1; injection hA1 with hA1; injection hA1 with e1 e2; subst e1 e2; subst hA; have hx : l[k]? = some l[k] := List.getElem?_eq_getElem hk; have hg1 : (ous l)[k * 2 + 1]? = some (.bool l[k].h) := by
  have := flat_get ouC_len l k 1 (by decide); unfold ous; rw [this, hx]; rfl
 have hcell := hc (k * 2 + 1) _ hg1; refine ⟨l[k], b, off + k * 2, cur, hx, hB.lt, hb, hB, fun w' => ix_off hk w', by rw [Nat.add_assoc]; exact hcell, hB.free _, ⟨?_, b, off, ?_, fun _ => ⟨rfl, ?_⟩, fun j u hj => ?_⟩, fun _ => ⟨b, off, _, rfl, hb, hB.set _ _⟩⟩
 ·rw [ous_setH l k v hk, List.length_set]; exact hl
 ·simpa [World.setCell] using hb0
 ·simpa [World.setCell] using hB.lt
 ·rw [ous_setH l k v hk, List.getElem?_set] at hj; by_cases e : k * 2 + 1 = j
  ·rw [if_pos e] at hj; split at hj
   ·injection hj with hj; subst hj e; have hcur : cur[off + k * 2 + 1]? ≠ none := by
     have h2 := hcell; unfold Blk at hB; simp only [World.cell?, hB] at h2; rw [← Nat.add_assoc] at h2; intro h3; simp [h3] at h2
    have h4 := (hB.set (off + k * 2 + 1) (.bool v)).cell (off + k * 2 + 1) (v := .bool v) (by
     rw [Array.getElem?_setIfInBounds]; rw [if_pos rfl, if_pos]; rcases Nat.lt_or_ge (off + k * 2 + 1) cur.size with h | h
     ·exact h
     ·exact absurd (Array.getElem?_eq_none h) hcur)
    rw [Nat.add_assoc] at h4 ⊢; exact h4
   ·cases hj
  ·rw [if_neg e] at hj; have h1 := hc j u hj; have h2 := (hB.set (off + k * 2 + 1) (.bool v)); unfold Blk at hB h2; simp only [World.cell?, hB, Option.isSome_none, Bool.false_eq_true, if_false] at h1; simp only [World.cell?, h2, Option.isSome_none, Bool.false_eq_true, if_false]; rw [Array.getElem?_setIfInBounds, if_neg (by omega)]; exact h1
end Go.Proofs.Ytejabnoidhlfaaa
