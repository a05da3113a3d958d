/- Contract: takes. -/
import Derived.Test.YtejabnoidhlfaaaDoorS1
import Derived.Test.YtejabnoidhlfaaaDoorS8

/- A region of reading operations of which many are off: each step behind a structure, so that no type is unfolded on the way. -/
namespace Go.Proofs.YtejabnoidhlfaaaDoor
open Go.RowKit

structure Boxed (p : Prop) : Prop where
 out : p
section
variable {P : Program} {ops : Array Oper} {w : World} {Q : Act → Prop} {a : Act} {o : Oper} {rest : List Oper}
theorem hs_go (h : Boxed (wpStill P ops w Q rest a)) : wpStill P ops w Q rest a := h.out
theorem hs_nil (h : Q a) : Boxed (wpStill P ops w Q [] a) := ⟨wpStill_nil h⟩
theorem hs_off (h : Region.wanted o (yielded ops a.tmps) = false) (hr : Boxed (wpStill P ops w Q rest (a.put o.dst undef))) : Boxed (wpStill P ops w Q (o :: rest) a) := ⟨still_off h hr.out⟩
theorem hs_on (h : Region.wanted o (yielded ops a.tmps) = true) (hr : ∀ K : Act → Prop, Boxed (∀ a, Boxed (wpStill P ops w Q rest a) → K a) → o.still P a w K) : Boxed (wpStill P ops w Q (o :: rest) a) :=
 ⟨still_on h fun K hK => hr K ⟨fun a ha => hK a ha.out⟩⟩
end
end Go.Proofs.YtejabnoidhlfaaaDoor

/- Contract: takes. -/
namespace Go.Proofs.YtejabnoidhlfaaaDoor
open Go.RowKit Go.Maps

def slLen : Value → Nat
 | .slice _ n _ => n
 | _ => 0
/-- Nothing of an end's messages lies in its box or its map. -/
def OutFar (e : En) (A : Option Addr) (bx bm : Nat) : Prop := ous e.out ≠ [] → ∀ a, A = some a → a.block ≠ bx ∧ a.block ≠ bm
def wantE (e : En) (want : Int) (l : List Im) : En := { e with want := want, inn := l }

set_option maxRecDepth 100000 in
set_option maxHeartbeats 8000000 in
theorem takes_no (bx bm : Nat) (e : En) (A : Option Addr) (c : Nat) (vi : Value) (p : Pk) (w : World) (h : Xs w bx bm e A c vi) (hg : GoodP e) (hnum : 0 ≤ p.num ∧ p.num < 1000000000) (hno : p.num < e.want ∨ e.want + 4 ≤ p.num ∨ (getN e.inn p.num).isSome = true) :
  Calls Tryd.prog 34 #[.pointer (some ⟨bx, 0, none⟩), pkV p] w fun r w' => ∃ T d, r = .returned (.slice T (cameA e p).2.length d) ∧ w'.ownsRow w.heap.size 9 1 (.slice T (cameA e p).2.length d) (cameA e p).2.length (strs (cameA e p).2) ∧ Xs w' bx bm (cameA e p).1 A c vi ∧ Frame (fun b => b = bx ∨ b = bm) w w' := by
 have HX := Lib.hid h
 have HG := Lib.hid hg
 have hw := hg.want
 unfold most at hw
 have HB0 : Hid (Below w.heap.size w (w.alloc (.cells #[.int .i64 p.kind, .int .i64 p.frm, .int .i64 p.to, .int .i64 p.num, .string p.t, .int .i64 p.ack, .int .i64 p.held] 49))) := (Below.refl _ w).alloc (Nat.le_refl _) _
 have hX1 := h.below HB0.out
 have hb4 := Blk.new w (.cells #[.int .i64 p.kind, .int .i64 p.frm, .int .i64 p.to, .int .i64 p.num, .string p.t, .int .i64 p.ack, .int .i64 p.held] 49)
 obtain ⟨W, hW⟩ : ∃ W, w.alloc (.cells #[.int .i64 p.kind, .int .i64 p.frm, .int .i64 p.to, .int .i64 p.num, .string p.t, .int .i64 p.ack, .int .i64 p.held] 49) = W := ⟨_, rfl⟩
 rw [hW] at HB0 hX1 hb4
 have HX1 := Lib.hid hX1
 have hlook := hX1.drew.map.look (k := p.num) ⟨by omega, by omega⟩
 have x5 := hX1.box.cell 5 (v := .int .i64 e.want) rfl
 have x7 := hX1.box.cell 7 (v := .map (some bm)) rfl
 have xl := hX1.box.lt
 have p3 := hb4.cell 3 (v := .int .i64 p.num) rfl
 have p4 := hb4.cell 4 (v := .string p.t) rfl
 have pl := hb4.lt
 have hw4 : IntKind.i64.wrap (e.want + 4) = e.want + 4 := wrap_ok ⟨by omega, by omega⟩
 unfold pkV
 cases hG : getN e.inn p.num with
 | some s =>
  rw [hG] at hlook
  simp only [Option.getD, Option.isSome] at hlook
  clear h hg hX1 hb4 hG
  have HN : Hid (cameA e p = (e, [])) := came_no hno
  go_enter Tryd.func34, Tryd.ntmps34
  go_wp2
  refine sall (by kernel_rfl) (by kernel_rfl) (fun Kq hKq => ?_)
  repeat still_step
  refine wpStill_nil (hKq _ ?_)
  clear hKq Kq
  go_wp2
  refine sall (by kernel_rfl) (by kernel_rfl) (fun Kq hKq => hs_go ?_)
  repeat (first | (refine hs_on rfl (fun K hK => ?_); go_simp; refine hK.out _ ?_; clear hK K) | (refine hs_off rfl ?_; go_simp))
  refine hs_nil (hKq _ ?_)
  clear hKq Kq
  go_wp2
  go_ret
  refine ⟨none, 0, by rw [HN.out]; rfl, by rw [HN.out]; exact World.ownsRow_nil _ _ _ _, by rw [HN.out]; exact (HX1.out.drew).drew, ?_⟩
  exact (Frame.of_all HB0.out).drew.drew
 | none =>
  rw [hG] at hlook
  simp only [Option.getD, Option.isSome] at hlook
  by_cases g1 : p.num < e.want
  ·clear h hg hX1 hb4 hG
   have HN : Hid (cameA e p = (e, [])) := came_no hno
   go_enter Tryd.func34, Tryd.ntmps34
   go_wp2
   refine sall (by kernel_rfl) (by kernel_rfl) (fun Kq hKq => ?_)
   repeat still_step
   refine wpStill_nil (hKq _ ?_)
   clear hKq Kq
   go_wp2
   refine sall (by kernel_rfl) (by kernel_rfl) (fun Kq hKq => hs_go ?_)
   repeat (first | (refine hs_on rfl (fun K hK => ?_); go_simp; refine hK.out _ ?_; clear hK K) | (refine hs_off rfl ?_; go_simp))
   refine hs_nil (hKq _ ?_)
   clear hKq Kq
   go_wp2
   go_ret
   refine ⟨none, 0, by rw [HN.out]; rfl, by rw [HN.out]; exact World.ownsRow_nil _ _ _ _, by rw [HN.out]; exact (HX1.out.drew).drew, ?_⟩
   exact (Frame.of_all HB0.out).drew.drew
  ·have q1 : decide (p.num < e.want) = false := decide_eq_false g1
   have g2 : e.want + 4 ≤ p.num := by
    rcases hno with h | h | h
    ·omega
    ·exact h
    ·rw [hG] at h; cases h
   clear h hg hX1 hb4 hG
   have HN : Hid (cameA e p = (e, [])) := came_no hno
   go_enter Tryd.func34, Tryd.ntmps34
   go_wp2
   refine sall (by kernel_rfl) (by kernel_rfl) (fun Kq hKq => ?_)
   repeat still_step
   refine wpStill_nil (hKq _ ?_)
   clear hKq Kq
   go_wp2
   refine sall (by kernel_rfl) (by kernel_rfl) (fun Kq hKq => hs_go ?_)
   repeat (first | (refine hs_on rfl (fun K hK => ?_); go_simp; refine hK.out _ ?_; clear hK K) | (refine hs_off rfl ?_; go_simp))
   refine hs_nil (hKq _ ?_)
   clear hKq Kq
   go_wp2
   go_ret
   refine ⟨none, 0, by rw [HN.out]; rfl, by rw [HN.out]; exact World.ownsRow_nil _ _ _ _, by rw [HN.out]; exact (HX1.out.drew).drew, ?_⟩
   exact (Frame.of_all HB0.out).drew.drew
end Go.Proofs.YtejabnoidhlfaaaDoor

/- Contract: takes, where the message is taken in. -/
namespace Go.Proofs.YtejabnoidhlfaaaDoor
open Go.RowKit Go.Maps

set_option maxRecDepth 100000 in
set_option maxHeartbeats 16000000 in
theorem takes_yes (bx bm : Nat) (e : En) (A : Option Addr) (c : Nat) (vi : Value) (p : Pk) (w : World) (h : Xs w bx bm e A c vi) (hg : GoodP e) (hfar : OutFar e A bx bm) (hnum : 0 ≤ p.num ∧ p.num < 1000000000) (_hts : p.t.size ≤ 20) (hn1 : ¬ p.num < e.want) (hn2 : ¬ e.want + 4 ≤ p.num) (hn3 : getN e.inn p.num = none) :
  Calls Tryd.prog 34 #[.pointer (some ⟨bx, 0, none⟩), pkV p] w fun r w' => ∃ T d, r = .returned (.slice T (cameA e p).2.length d) ∧ w'.ownsRow w.heap.size 9 1 (.slice T (cameA e p).2.length d) (cameA e p).2.length (strs (cameA e p).2) ∧ Xs w' bx bm (cameA e p).1 A c vi ∧ Frame (fun b => b = bx ∨ b = bm) w w' := by
 have HY := Lib.hid (came_yes hn1 hn2 hn3)
 have HFAR := Lib.hid hfar
 have q1 : decide (p.num < e.want) = false := decide_eq_false hn1
 have q2 : decide (e.want + 4 ≤ p.num) = false := decide_eq_false hn2
 have HX := Lib.hid h
 have HG := Lib.hid hg
 have hw := hg.want
 unfold most at hw
 have HB0 : Hid (Below w.heap.size w (w.alloc (.cells #[.int .i64 p.kind, .int .i64 p.frm, .int .i64 p.to, .int .i64 p.num, .string p.t, .int .i64 p.ack, .int .i64 p.held] 49))) := (Below.refl _ w).alloc (Nat.le_refl _) _
 have hX1 := h.below HB0.out
 have hb4 := Blk.new w (.cells #[.int .i64 p.kind, .int .i64 p.frm, .int .i64 p.to, .int .i64 p.num, .string p.t, .int .i64 p.ack, .int .i64 p.held] 49)
 obtain ⟨W, hW⟩ : ∃ W, w.alloc (.cells #[.int .i64 p.kind, .int .i64 p.frm, .int .i64 p.to, .int .i64 p.num, .string p.t, .int .i64 p.ack, .int .i64 p.held] 49) = W := ⟨_, rfl⟩
 rw [hW] at HB0 hX1 hb4
 have HX1 := Lib.hid hX1
 have hlook := hX1.drew.map.look (k := p.num) ⟨by omega, by omega⟩
 have x5 := hX1.box.cell 5 (v := .int .i64 e.want) rfl
 have x7 := hX1.box.cell 7 (v := .map (some bm)) rfl
 have xl := hX1.box.lt
 have p3 := hb4.cell 3 (v := .int .i64 p.num) rfl
 have p4 := hb4.cell 4 (v := .string p.t) rfl
 have pl := hb4.lt
 have hw4 : IntKind.i64.wrap (e.want + 4) = e.want + 4 := wrap_ok ⟨by omega, by omega⟩
 unfold pkV
 rw [hn3] at hlook
 simp only [Option.getD, Option.isSome] at hlook
 have hmx := HX1.out.map.not_blk HX1.out.box
 have hins := hg.ins
 have hil := hg.ins_len
 have HSR := Lib.hid (putA_srt ⟨p.num, p.t⟩ (hins.1.low (show e.want - 1 ≤ e.want by omega)) hn3 (by show e.want - 1 < p.num; omega))
 have HPG := Lib.hid (putA_get ⟨p.num, p.t⟩ hins.1 hn3)
 have HPL := Lib.hid (putA_len ⟨p.num, p.t⟩ e.inn)
 have HMX : Hid (∀ x ∈ putA ⟨p.num, p.t⟩ e.inn, x.n < most) := fun x hx => by
  rcases (putA_mem _ _ _).1 hx with e1 | hx
  ·subst e1; show p.num < most; unfold most; omega
  ·exact (hins.2 x hx).2.1
 have hE0 : Early W.drew.drew.drew bm (getN e.inn) := hX1.map.frame (S := fun _ => False) (Frame.refl _ _).drew.drew.drew (fun h => h)
 obtain ⟨w5, hput, hE5, hg5⟩ := hE0.put (k := p.num) ⟨by omega, by omega⟩ hn3 p.t
 have HE5 : Hid (Early w5 bm (getN (putA ⟨p.num, p.t⟩ e.inn))) := by show Early _ _ _; rw [HPG.out]; exact hE5
 have HF5 : Hid (Frame (fun b => b = bm) W w5) := (Frame.refl (fun b => b = bm) W).drew.drew.drew.trans (Frame.of_grown hg5) (fun b _ e => by injection e with e; exact e.symm)
 have HBX5 : Hid (Blk w5 bx (.cells #[.int .i64 e.life, .int .i64 e.peer, .int .i64 e.phase, .int .i64 e.base, .slice A e.out.length c, .int .i64 e.want, vi, .map (some bm)] 86)) := hX1.box.frame HF5.out (fun e => hmx e.symm)
 clear h hg hX1 hb4 hins hE0 hE5 hg5 hn1 hn2 hn3 hfar
 go_enter Tryd.func34, Tryd.ntmps34
 go_wp2
 refine sall (by kernel_rfl) (by kernel_rfl) (fun Kq hKq => ?_)
 repeat still_step
 refine wpStill_nil (hKq _ ?_)
 clear hKq Kq
 go_wp2
 refine sall (by kernel_rfl) (by kernel_rfl) (fun Kq hKq => ?_)
 repeat still_step
 refine wpStill_nil (hKq _ ?_)
 clear hKq Kq
 go_wp2
 refine stail 8 (by kernel_rfl) (by kernel_rfl) (fun Kq hKq => ?_)
 simp only [List.take_succ_cons, List.take_zero, List.drop_succ_cons, List.drop_zero] at hKq ⊢
 repeat still_step
 refine wpStill_nil (hKq _ ?_)
 clear hKq Kq
 go_wp2
 clear hlook x5 x7 p3 p4 hput q1 q2 hw4
 have hs5 := HF5.out.size
 go_loopw [7] (fun vo wr => ∃ (want : Int) (l : List Im) (out : List ByteArray), Blk wr bx (.cells #[.int .i64 e.life, .int .i64 e.peer, .int .i64 e.phase, .int .i64 e.base, .slice A e.out.length c, .int .i64 want, vi, .map (some bm)] 86) ∧ Early wr bm (getN l) ∧ wr.ownsRow w5.heap.size 9 1 vo out.length (strs out) ∧
   srt (want - 1) l ∧ 0 ≤ want ∧ want ≤ 1000000000 ∧ (∀ x ∈ l, x.n < most) ∧ slLen vo = out.length ∧ out.length + l.length = e.inn.length + 1 ∧
   takeIn (e.inn.length + 1) e.want (putA ⟨p.num, p.t⟩ e.inn) = ((takeIn l.length want l).1, (takeIn l.length want l).2.1, out ++ (takeIn l.length want l).2.2) ∧ Frame (fun b => b = bx ∨ b = bm) w5 wr) (fun vo _ => 10 - slLen vo)
 case atStart => exact ⟨e.want, _, [], HBX5.out, HE5.out, World.ownsRow_nil _ _ _ _, HSR.out, hw.1, hw.2, HMX.out, rfl, by rw [HPL.out]; simp, by rw [HPL.out]; simp, Frame.refl _ _⟩
 case round =>
  obtain ⟨want, l, out, hbx, hE, hown, hsr, hw0, hw1, hmx2, hsl, hlen, htk, hF⟩ := hrel
  have HBX := Lib.hid hbx
  have HEr := Lib.hid hE
  have HON := Lib.hid hown
  have HSRr := Lib.hid hsr
  have HMX2 := Lib.hid hmx2
  have HTK := Lib.hid htk
  have HF := Lib.hid hF
  have hsz := hF.size
  have hlk := (hE.frame (S := fun _ => False) (Frame.refl _ _).drew (fun h => h)).look (k := want) ⟨by omega, by omega⟩
  have x5 := hbx.cell 5 (v := .int .i64 want) rfl
  have x7 := hbx.cell 7 (v := .map (some bm)) rfl
  have xl := hbx.lt
  obtain ⟨Av, cv, rfl⟩ := own_fits hown
  clear hbx hE hown hsr hmx2 htk hF
  cases hG : getN l want with
  | none =>
   rw [hG] at hlk
   simp only [Option.getD, Option.isSome] at hlk
   have HT := Lib.hid (takeIn_none (f := l.length) HSRr.out hG)
   clear hG
   go_wp2
   refine sall (by kernel_rfl) (by kernel_rfl) (fun Kq hKq => ?_)
   repeat still_step
   refine wpStill_nil (hKq _ ?_)
   clear hKq Kq
   go_wp2
   go_ret
   have hFW : Frame (fun b => b = bx ∨ b = bm) w wr.drew := (((Frame.of_all (S := fun b => b = bx ∨ b = bm) HB0.out).trans HF5.out (fun b _ e => .inr e)).trans HF.out (fun _ _ h => h)).drew
   refine ⟨Av, cv, ?_, ?_, ?_, hFW⟩
   ·rw [HY.out]
    simp only
    rw [HTK.out, HT.out]
    simp only [List.append_nil]
    rfl
   ·rw [HY.out]
    simp only
    rw [HTK.out, HT.out]
    simp only [List.append_nil]
    exact own_frame (own_mono HON.out (by have := HB0.out.size; omega)) (Frame.refl (fun _ => False) wr).drew (fun _ _ h => h)
   ·rw [HY.out]
    simp only
    rw [HTK.out, HT.out]
    simp only
    exact ⟨HBX.out.drew, HX.out.out.frame hFW (fun hn a ha e => by have := HFAR.out hn a ha; rcases e with e | e; exact this.1 e; exact this.2 e), HEr.out.frame (S := fun _ => False) (Frame.refl _ _).drew (fun h => h), HX.out.cap, HX.out.nil⟩
  | some s =>
   rw [hG] at hlk
   simp only [Option.getD, Option.isSome] at hlk
   obtain ⟨l', rfl, hs', hupd, _⟩ := takeIn_some (f := l.length) HSRr.out hG (by omega)
   have HT : Hid (takeIn (l'.length + 1) want (⟨want, s⟩ :: l') = ((takeIn l'.length (want + 1) l').1, (takeIn l'.length (want + 1) l').2.1, s :: (takeIn l'.length (want + 1) l').2.2)) := by
    show _ = _
    rw [takeIn, if_pos rfl]
   have hwm : want < most := HMX2.out ⟨want, s⟩ List.mem_cons_self
   unfold most at hwm
   have HS' := Lib.hid hs'
   have hE7 : Early wr.drew.drew bm (getN (⟨want, s⟩ :: l')) := HEr.out.frame (S := fun _ => False) (Frame.refl _ _).drew.drew (fun h => h)
   obtain ⟨w6, hdel, hE6, hg6⟩ := hE7.del (k := want) ⟨by omega, by omega⟩ 0
   rw [hupd] at hE6
   have hF6 : Frame (fun b => b = bm) wr w6 := (Frame.refl (fun b => b = bm) wr).drew.drew.trans (Frame.of_grown hg6) (fun b _ e => by injection e with e; exact e.symm)
   have hne : ∀ g, (Value.slice Av out.length cv).ownBlock = some g → g ≠ bm := fun g hg e => HEr.out.not_own HON.out (by rw [hg, e])
   have HO6 := Lib.hid (own_frame HON.out hF6 (fun g hg e => hne g hg e))
   have hb6 := HBX.out.frame hF6 (fun e => hmx e.symm)
   have HB6 := Lib.hid hb6
   have HE6 := Lib.hid hE6
   have HF6 := Lib.hid hF6
   have z5 := hb6.cell 5 (v := .int .i64 want) rfl
   have zl := hb6.lt
   have hs6 := hF6.size
   have hwn : IntKind.i64.wrap (want + 1) = want + 1 := wrap_ok ⟨by omega, by omega⟩
   have hol : out.length ≤ 4 := by simp only [List.length_cons] at hlen; omega
   clear hG hs' hupd hE7 hE6 hg6 hF6 hne hb6
   go_wp2
   refine sall (by kernel_rfl) (by kernel_rfl) (fun Kq hKq => ?_)
   repeat still_step
   refine wpStill_nil (hKq _ ?_)
   clear hKq Kq
   go_wp2
   refine stail 9 (by kernel_rfl) (by kernel_rfl) (fun Kq hKq => ?_)
   simp only [List.take_succ_cons, List.take_zero, List.drop_succ_cons, List.drop_zero] at hKq ⊢
   repeat still_step
   refine wpStill_nil (hKq _ ?_)
   clear hKq Kq
   go_wp2_with (at_builtin; go_must (refine wpList_app1' rSt _ rfl _ _ rfl HO6.out rfl [_] 1 rfl rfl (by simp [Value.oneCell']) (by omega) (by omega) ?_); intro v7 w7 ho7 hB7 hg7 hloc7; have hb7 := HB6.out.grown hg7 (own_ne HO6.out HB6.out (by decide)); have HB7 := Lib.hid hb7; have m5 := hb7.cell 5 (v := .int .i64 want) rfl; have m6 := hb7.free 5; have ml := hb7.lt; clear hb7)
   go_roundw
   case rel =>
    have hset : Frame (fun b => b = bx) w7 (w7.setCell ⟨bx, 5, none⟩ (.int .i64 (want + 1))) := (Frame.refl (fun b => b = bx) w7).setCell (p := ⟨bx, 5, none⟩) (.inl rfl) _
    have hE7 : Early w7 bm (getN l') := HE6.out.frame (Frame.of_grown hg7) (fun e => HE6.out.not_own HO6.out e)
    have ho8 := own_frame ho7 hset (fun g hg e => own_ne ho7 HB7.out (by decide) (by rw [hg, e]))
    refine ⟨want + 1, l', out ++ [s], HB7.out.set 5 _, hE7.frame hset hmx, ?_, by rw [show want + 1 - 1 = want by omega]; exact HS'.out, by omega, by omega, fun x hx => HMX2.out x (List.mem_cons_of_mem _ hx), ?_, ?_, ?_, ?_⟩
    ·rw [strs_snoc, List.length_append]
     exact ho8
    ·obtain ⟨A8, c8, rfl⟩ := own_fits ho7
     simp [slLen]
    ·simp only [List.length_cons, List.length_append, List.length_nil] at hlen ⊢
     omega
    ·rw [HTK.out]
     simp only [List.length_cons]
     rw [HT.out]
     simp only [List.append_assoc, List.singleton_append]
    ·exact (((HF.out.trans HF6.out (fun b _ e => .inr e)).trans (Frame.of_grown hg7) (fun b hb e => by have := (HO6.out.lt _ e).1; omega)).trans hset (fun b _ e => .inl e))
   case measure =>
    obtain ⟨A8, c8, rfl⟩ := own_fits ho7
    simp only [slLen]
    omega
theorem takes_any (bx bm : Nat) (e : En) (A : Option Addr) (c : Nat) (vi : Value) (p : Pk) (w : World) (h : Xs w bx bm e A c vi) (hg : GoodP e) (hfar : OutFar e A bx bm) (hnum : 0 ≤ p.num ∧ p.num < 1000000000) (hts : p.t.size ≤ 20) :
  Calls Tryd.prog 34 #[.pointer (some ⟨bx, 0, none⟩), pkV p] w fun r w' => ∃ T d, r = .returned (.slice T (cameA e p).2.length d) ∧ w'.ownsRow w.heap.size 9 1 (.slice T (cameA e p).2.length d) (cameA e p).2.length (strs (cameA e p).2) ∧ Xs w' bx bm (cameA e p).1 A c vi ∧ Frame (fun b => b = bx ∨ b = bm) w w' := by
 by_cases h1 : p.num < e.want
 ·exact takes_no bx bm e A c vi p w h hg hnum (.inl h1)
 ·by_cases h2 : e.want + 4 ≤ p.num
  ·exact takes_no bx bm e A c vi p w h hg hnum (.inr (.inl h2))
  ·cases h3 : getN e.inn p.num with
   | some s => exact takes_no bx bm e A c vi p w h hg hnum (.inr (.inr (by rw [h3]; rfl)))
   | none => exact takes_yes bx bm e A c vi p w h hg hfar hnum hts h1 h2 h3
end Go.Proofs.YtejabnoidhlfaaaDoor
