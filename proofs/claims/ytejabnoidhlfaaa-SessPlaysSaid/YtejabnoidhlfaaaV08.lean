/- Contracts and lemmas that the claim uses. -/
import Derived.Test.YtejabnoidhlfaaaV07
set_option maxRecDepth 100000
set_option maxHeartbeats 16000000
namespace Go.Proofs.Ytejabnoidhlfaaa
open Go.RowKit Go.Maps
theorem take_cells {w : World} {A : Option Addr} {l : List Ou} {k : Nat} (h : Cells w A (ous l)) (hk : k ≤ l.length) : Cells w A (ous (l.take k)) := by
 obtain ⟨hcl, b, off, hb0, hA, hc⟩ := h; have hpre : ous (l.take k) = (ous l).take (k * 2) := by
  have e1 : ous l = ous (l.take k) ++ ous (l.drop k) := by unfold ous; rw [← List.flatMap_append, List.take_append_drop]
  rw [e1, List.take_left' (by rw [ous_len, List.length_take]; omega)]
 refine ⟨by rw [hpre, List.length_take]; omega, b, off, hb0, fun hn => hA (fun h0 => hn (by rw [hpre, h0]; simp)), fun j v hj => hc j v ?_⟩; rw [hpre, List.getElem?_take] at hj; split at hj
 ·exact hj
 ·cases hj
theorem cut0_run {A : Option Addr} {n c m : Nat} (hm : m ≤ c) (w : World) :
  (Instr.slice 23 (.slice A n c) none (some (.int .i64 (m : Int))) (some (.int .i64 (m : Int)))).run Try.prog w = .ok (.slice A m m) w := by
 have hin : (0 : Int) ≤ (m : Int) ∧ (m : Int) ≤ (c : Int) := by omega
 simp [Instr.slice, Instr.sliceBounds, Instr.sliceBound, run_underlying Try.underlying23, asIntOf, hin, hm, Result.andThen]; intro _; cases A with
 | none => rfl
 | some a => simp [Addr.add]
def clrTo (l : List Ou) : Nat → List Ou
 | 0 => l
 | j + 1 => setH (clrTo l j) j false
theorem clrTo_len (l : List Ou) : ∀ j, (clrTo l j).length = l.length
 | 0 => rfl
 | j + 1 => by rw [clrTo, setH_len, clrTo_len l j]
theorem clrTo_get (l : List Ou) : ∀ (j i : Nat), (clrTo l j)[i]? = (l[i]?).map fun x => ⟨x.t, if i < j then false else x.h⟩
 | 0, i => by rw [clrTo]; cases l[i]? <;> simp
 | j + 1, i => by
  rw [clrTo, setH_get, clrTo_get l j i]; by_cases hi : i = j
  ·rw [if_pos hi, Option.map_map]; congr 1; funext x; simp [hi]
  ·rw [if_neg hi]; congr 1; funext x; by_cases h : i < j
   ·rw [if_pos h, if_pos (by omega)]
   ·rw [if_neg h, if_neg (by omega)]
theorem clrTo_all (l : List Ou) : clrTo l l.length = l.map fun x => ⟨x.t, false⟩ := by
 apply List.ext_getElem?; intro i; rw [clrTo_get, List.getElem?_map]; rcases Nat.lt_or_ge i l.length with h | h
 ·simp only [h, if_true]
 ·rw [List.getElem?_eq_none h]; rfl
theorem RowAt.frame {w w' : World} {B : Nat} {A : Option Addr} {l : List Ou} {S : Nat → Prop} (h : RowAt w B A l) (hF : Frame S w w') (hS : ∀ b cur, Blk w b (.cells cur 71) → ¬ S b) : RowAt w' B A l := fun hn => by
 obtain ⟨b, off, cur, h1, h2, h3⟩ := h hn; exact ⟨b, off, cur, h1, h2, h3.frame hF (hS b cur h3)⟩
theorem RowAt.cells {w w' : World} {B : Nat} {A : Option Addr} {l : List Ou} {S : Nat → Prop} (h : RowAt w B A l) (hc : Cells w A (ous l)) (hF : Frame S w w') (hS : ∀ b cur, Blk w b (.cells cur 71) → ¬ S b) : Cells w' A (ous l) :=
 hc.frame hF (fun hn a ha => by
  obtain ⟨b, off, cur, h1, h2, h3⟩ := h (by rintro rfl; exact hn rfl); rw [h1] at ha; injection ha with ha; subst ha; exact hS b cur h3)
theorem begin_any (B bx bm : Nat) (e : En) (A : Option Addr) (c : Nat) (vi : Value) (life : Int) (w : World) (h : Xs w bx bm e A c vi) (hr : RowAt w B A e.out) (hA0 : A = none → e.out.length = 0) (hg : GoodP e) (hb1 : B ≤ bx) (hb2 : B ≤ bm) (hBw : B ≤ w.heap.size) :
  Calls Try.prog 54 #[.pointer (some ⟨bx, 0, none⟩), .int .i64 life] w fun r w' => (∃ T d, r = .returned (.slice T (overA e life).2.length d) ∧ w'.ownsRow w.heap.size 9 1 (.slice T (overA e life).2.length d) (overA e life).2.length (strs (overA e life).2)) ∧ (∃ A' c', Xs w' bx bm (overA e life).1 A' c' vi ∧ RowAt w' B A' (overA e life).1.out) ∧ Below B w w' ∧
   Frame (fun b => b = bx ∨ b = bm ∨ ∃ cur, Blk w b (.cells cur 71)) w w' := by
 have hlen := hg.len; have hfl := fly_le e; obtain ⟨F, HF⟩ : ∃ F, Hid (flyN e = F) := ⟨_, rfl⟩; rw [HF.out] at hfl; have HX := Lib.hid h; have HR := Lib.hid hr; have hcap := h.cap; have hmx := h.map.not_blk h.box; have x4 := h.box.cell 4 (v := .slice A e.out.length c) rfl; have xl := h.box.lt; have hc0 := cut0_run (A := A) (n := e.out.length) (c := c) (m := F) (by omega); have hcut := cut_run (A := A) (n := e.out.length) (c := c) (g := F) hfl.1 hcap; have HTK : Hid (Cells w A (ous (e.out.take F))) := take_cells h.out hfl.1; have htl : (e.out.take F).length = F := by rw [List.length_take]; omega
 have hET := each_text A F (e.out.take F) w HTK.out (by omega); rw [htl] at hET; have HET := Lib.hid hET; clear h hr hET hg htl; go_enter Try.func54, Try.ntmps54
 go_wp2_with fail
 refine (sent_any bx bm e A c vi w HX.out hA0 (by omega)).mono ?_; rintro r w1 ⟨⟨A1, rfl, _⟩, rfl⟩; rw [HF.out]; go_wp2_with fail
 refine HET.out.mono ?_; rintro r w1 ⟨v1, rfl, ho1, hB1⟩; have HB1 := Lib.hid hB1; have HO1 := Lib.hid ho1; have hbx1 := HX.out.box.below hB1 xl; have HBX1 := Lib.hid hbx1; have z1 := hbx1.cell 1 (v := .int .i64 e.peer) rfl; have z2 := hbx1.cell 2 (v := .int .i64 e.phase) rfl; have z3 := hbx1.cell 3 (v := .int .i64 e.base) rfl; have z4 := hbx1.cell 4 (v := .slice A e.out.length c) rfl; have z5 := hbx1.cell 5 (v := .int .i64 e.want) rfl; have z7 := hbx1.cell 7 (v := .map (some bm)) rfl; have y1 := hbx1.free 1; have y2 := hbx1.free 2; have y3 := hbx1.free 3; have y4 := hbx1.free 4; have y5 := hbx1.free 5; have zl := hbx1.lt; obtain ⟨l0, hl0⟩ : ∃ l0, e.out.drop F = l0 := ⟨_, rfl⟩; have hl0n : l0.length = e.out.length - F := by rw [← hl0]; simp
 clear hB1 ho1 hbx1 x4; obtain ⟨V, hV⟩ : ∃ V, ((((w1.setCell ⟨bx, 4, none⟩ (.slice (cutA A c F) (e.out.length - F) (c - F))).setCell ⟨bx, 1, none⟩ (.int .i64 life)).setCell ⟨bx, 2, none⟩ (.int .i64 2)).setCell ⟨bx, 3, none⟩ (.int .i64 0)).setCell ⟨bx, 5, none⟩ (.int .i64 0) = V := ⟨_, rfl⟩; have hFV : Frame (fun b => b = bx) w1 V := by
  rw [← hV]; exact (((((Frame.refl (fun b => b = bx) w1).setCell (p := ⟨bx, 4, none⟩) (.inl rfl) _).setCell (p := ⟨bx, 1, none⟩) (.inl rfl) _).setCell (p := ⟨bx, 2, none⟩) (.inl rfl) _).setCell (p := ⟨bx, 3, none⟩) (.inl rfl) _).setCell (p := ⟨bx, 5, none⟩) (.inl rfl) _
 have hbV : Blk V bx (.cells #[.int .i64 e.life, .int .i64 life, .int .i64 2, .int .i64 0, .slice (cutA A c F) l0.length (c - F), .int .i64 0, vi, .map (some bm)] 84) := by
  rw [← hV, hl0n]; exact ((((HBX1.out.set 4 _).set 1 _).set 2 _).set 3 _).set 5 _
 have hmV : Early V bm (getN e.inn) := (HX.out.map.frame (S := fun _ => False) (Frame.of_all HB1.out) (fun h => h)).frame hFV hmx; obtain ⟨wC, hclr, hE, hgC⟩ := hmV.wipe 0; have hF1C : Frame (fun b => b = bx ∨ b = bm) w wC := ((Frame.of_all (S := fun b => b = bx ∨ b = bm) HB1.out).trans hFV (fun b _ e => .inl e)).trans (Frame.of_grown hgC) (fun b _ e => .inr (by injection e with e; exact e.symm)); have hnS : ∀ b cur, Blk w b (.cells cur 71) → ¬ (b = bx ∨ b = bm) := fun b cur hk e2 => by
  rcases e2 with e2 | e2
  ·exact blk_ne hk HX.out.box (by decide) e2
  ·exact HX.out.map.not_blk hk e2.symm
 have HRC : Hid (RowAt wC B (cutA A c F) l0) := by
  show RowAt _ _ _ _; rw [← hl0]; exact cut_row (HR.out.frame hF1C hnS) hcap
 have HOC : Hid (Cells wC (cutA A c F) (ous l0)) := by
  show Cells _ _ _; rw [← hl0]; exact cut_cells (HR.out.cells HX.out.out hF1C hnS) hfl.1 hcap
 have hbC := hbV.grown hgC (fun e2 => by injection e2 with e2; exact hmx e2); have HBC := Lib.hid hbC; have HEC := Lib.hid hE; have HF1C := Lib.hid hF1C; have hOVER : Hid ((overA e life).1 = { e with peer := life, phase := 2, base := 0, out := l0.map (fun x => ⟨x.t, false⟩), want := 0, inn := [] }) := by
  show _ = _; unfold overA; rw [HF.out, hl0]
 have HLOST : Hid ((overA e life).2 = (e.out.take F).map (·.t)) := by show _ = _; unfold overA; rw [HF.out]
 have hv4 := hbV.cell 4 (v := .slice (cutA A c F) l0.length (c - F)) rfl; have hv7 := hbV.cell 7 (v := .map (some bm)) rfl; have hvl := hbV.lt; have hw4 := hbC.cell 4 (v := .slice (cutA A c F) l0.length (c - F)) rfl; have hwl := hbC.lt; have hO1C : Hid (wC.ownsRow w.heap.size 9 1 v1 F (strs ((e.out.take F).map (·.t)))) := own_frame HO1.out ((hFV.mono (T := fun b => b = bx ∨ b = bm) (fun b _ e => .inl e)).trans (Frame.of_grown hgC) (fun b _ e => .inr (by injection e with e; exact e.symm))) (fun g hg e2 => by
  have h1 := (HO1.out.lt _ hg).1; have h2 := HX.out.map.lt; rcases e2 with e2 | e2 <;> omega)
 rw [← hl0n] at hV hcut; have hl0s : l0.length + F = e.out.length := by omega
 have hszC := hF1C.size; clear hFV hbV hmV hE hgC hF1C hbC hl0 hl0n hnS; obtain ⟨Av1, cv1, rfl⟩ := own_fits hO1C.out; go_wp2; go_loopw [60] (fun i wr => ∃ k : Nat, k ≤ l0.length ∧ i = .int .i64 k ∧ Blk wr bx (.cells #[.int .i64 e.life, .int .i64 life, .int .i64 2, .int .i64 0, .slice (cutA A c F) l0.length (c - F), .int .i64 0, vi, .map (some bm)] 84) ∧
   Cells wr (cutA A c F) (ous (clrTo l0 k)) ∧ RowAt wr B (cutA A c F) (clrTo l0 k) ∧ Frame (fun b => B ≤ b ∧ ∃ cur, Blk wC b (.cells cur 71)) wC wr) (fun i _ => l0.length - (intOf i).toNat)
 case atStart => exact ⟨0, Nat.zero_le _, rfl, HBC.out, HOC.out, HRC.out, Frame.refl _ _⟩
 case round =>
  obtain ⟨k, hk, rfl, hbx, hou, hro, hF2⟩ := hrel; have HBX := Lib.hid hbx; have HOU := Lib.hid hou; have HRO := Lib.hid hro; have HF2 := Lib.hid hF2; have hsz := hF2.size; have hal := clrTo_len l0 k; have x4 := hbx.cell 4 (v := .slice (cutA A c F) l0.length (c - F)) rfl; have xl2 := hbx.lt; clear hbx hou hro hF2 hclr z1 z2 z3 z4 z5 z7 y1 y2 y3 y4 y5 hV hv4 hv7 hcut hc0; by_cases hlt : k < l0.length
  ·have hk1 : k < (clrTo l0 k).length := by rw [hal]; exact hlt
   obtain ⟨x, b, o, cur, hx, hb, hBb, hbk, hix, hcx, hfx, hcs, hrs⟩ := ou_store (c := c - F) HOU.out HRO.out hk1 false; rw [hal] at hix; have HCS := Lib.hid hcs; have HRS := Lib.hid hrs; have HBK := Lib.hid hbk; have hnx : bx ≠ b := fun e2 => by
    rw [← e2] at hbk; exact blk_ne hbk HBX.out (by decide) rfl
   clear hx hcs hrs hbk hk1; go_wp2; go_roundw
   case rel =>
    refine ⟨k + 1, by omega, by go_num, HBX.out.far hnx _, HCS.out, HRS.out, HF2.out.setCell (p := ⟨b, o + 1, none⟩) ?_ _⟩; rcases Nat.lt_or_ge b wC.heap.size with hlt2 | hge
    ·refine .inl ⟨hBb, ?_⟩; by_cases hs : ∃ cur, Blk wC b (.cells cur 71)
     ·exact hs
     ·have h1 := HF2.out.block b hlt2 (fun h => hs h.2); exact ⟨cur, h1.symm.trans HBK.out⟩
    ·exact .inr hge
   case measure => simp [intOf]; omega
  ·obtain rfl : k = l0.length := by omega
   have hall := clrTo_all l0; go_wp2; go_ret; have hml : (l0.map fun x => (⟨x.t, false⟩ : Ou)).length = l0.length := by simp
   have hLl : ((e.out.take F).map (·.t)).length = F := by rw [List.length_map, List.length_take]; omega
   have hFrow := own_frame hO1C.out HF2.out (fun g hg ⟨_, cur, hcur⟩ => own_ne hO1C.out hcur (by decide) hg); refine ⟨⟨Av1, cv1, by rw [HLOST.out, hLl]; rfl, by rw [HLOST.out, hLl]; exact hFrow⟩, ⟨cutA A c F, c - F, ?_, ?_⟩, ?_, ?_⟩
   ·rw [hOVER.out]; refine ⟨?_, ?_, HEC.out.frame HF2.out (fun ⟨_, cur, hcur⟩ => HEC.out.not_blk hcur rfl), ?_, cut_nil HX.out.nil⟩
    ·show Blk _ _ _; simp only [hml]; exact HBX.out
    ·show Cells _ _ _; simp only; rw [← hall]; exact HOU.out
    ·show (l0.map _).length ≤ _; rw [hml]; omega
   ·rw [hOVER.out]; show RowAt _ _ _ _; simp only; rw [← hall]; exact HRO.out
   ·exact (HF1C.out.below (B := B) (fun b e2 => by rcases e2 with e2 | e2 <;> omega) hBw).trans (HF2.out.below (B := B) (fun b e2 => e2.1) (by omega))
   ·exact (HF1C.out.mono (T := fun b => b = bx ∨ b = bm ∨ ∃ cur, Blk w b (.cells cur 71)) (fun b _ e2 => by rcases e2 with e2 | e2; exact .inl e2; exact .inr (.inl e2))).trans HF2.out (fun b hb ⟨_, cur, hc⟩ => by
     by_cases hbb : b = bx ∨ b = bm
     ·rcases hbb with hbb | hbb
      ·exact .inl hbb
      ·exact .inr (.inl hbb)
     ·exact .inr (.inr ⟨cur, (HF1C.out.block b hb hbb).symm.trans hc⟩))
theorem bempty : ByteArray.empty = ⟨#[]⟩ := rfl
def setPk (w : World) (b : Nat) (p : Pk) : World := (((((((w.setCell ⟨b, 0, none⟩ (.int .i64 p.kind)).setCell ⟨b, 1, none⟩ (.int .i64 p.frm)).setCell ⟨b, 2, none⟩ (.int .i64 p.to)).setCell ⟨b, 3, none⟩ (.int .i64 p.num)).setCell ⟨b, 4, none⟩ (.string p.t)).setCell ⟨b, 5, none⟩ (.int .i64 p.ack)).setCell ⟨b, 6, none⟩ (.int .i64 p.held))
theorem setPk_blk {w : World} {b : Nat} {q : Pk} (h : Blk w b (.cells (pkB q) 44)) (p : Pk) : Blk (setPk w b p) b (.cells (pkB p) 44) :=
 ((((((h.set 0 (.int .i64 p.kind)).set 1 (.int .i64 p.frm)).set 2 (.int .i64 p.to)).set 3 (.int .i64 p.num)).set 4 (.string p.t)).set 5 (.int .i64 p.ack)).set 6 (.int .i64 p.held)
theorem setPk_below {B : Nat} {w0 w : World} {b : Nat} (h : Below B w0 w) (hb : B ≤ b) (p : Pk) : Below B w0 (setPk w b p) :=
 ((((((h.setCell hb _).setCell hb _).setCell hb _).setCell hb _).setCell hb _).setCell hb _).setCell hb _
def pkZ : Pk := ⟨0, 0, 0, 0, ⟨#[]⟩, 0, 0⟩
theorem hello_any (bx bm : Nat) (e : En) (A : Option Addr) (c : Nat) (vi : Value) (w : World) (h : Xs w bx bm e A c vi) :
  Calls Try.prog 47 #[.pointer (some ⟨bx, 0, none⟩)] w fun r w' => r = .returned (pkV (helloA e)) ∧ Below w.heap.size w w' := by
 have HX := Lib.hid h; clear h; go_enter Try.func47, Try.ntmps47
 go_wp2; obtain ⟨W, hW⟩ : ∃ W, w.alloc (.cells #[.int .i64 0, .int .i64 0, .int .i64 0, .int .i64 0, .string ⟨#[]⟩, .int .i64 0, .int .i64 0] 44) = W := ⟨_, rfl⟩; rw [hW]; have HB0 : Hid (Below w.heap.size w W) := by rw [← hW]; exact (Below.refl _ w).alloc (Nat.le_refl _) _
 have hbn : Blk W w.heap.size (.cells pk0 44) := by rw [← hW]; exact Blk.new _ _
 have HBN := Lib.hid hbn; have hX1 := HX.out.below HB0.out; have HX1 := Lib.hid hX1; have hbx1 : bx ≠ w.heap.size := by have := HX.out.box.lt; omega
 have hsW := HB0.out.size; have hlW := hbn.lt; have lbx := hX1.box.lt; have lbxw := HX.out.box.lt; have c0 := hX1.box.cell 0 (v := .int .i64 e.life) rfl; have c1 := hX1.box.cell 1 (v := .int .i64 e.peer) rfl; have hbz : Blk W w.heap.size (.cells (pkB pkZ) 44) := HBN.out; unfold pkB pkZ at hbz; clear hW hbn hX1; refine draw (fun w' => Below w.heap.size W w') 12 rfl (by kernel_rfl) (fun Qd hQd => ?_); iterate 11 (first | apply sI 0 (by rfl) rfl (by kernel_rfl) | apply sI 5 (by rfl) rfl (by kernel_rfl) | apply sI 1 (by rfl) rfl (by kernel_rfl) | apply sI 6 (by rfl) rfl (by kernel_rfl) | apply sI 2 (by rfl) rfl (by kernel_rfl) | apply sI 7 (by rfl) rfl (by kernel_rfl) | apply sI 3 (by rfl) rfl (by kernel_rfl) | apply sI 8 (by rfl) rfl (by kernel_rfl) | apply sI 4 (by rfl) rfl (by kernel_rfl) | apply sI 9 (by rfl) rfl (by kernel_rfl) | apply sI 10 (by rfl) rfl (by kernel_rfl)); (focus intro wI hI Kv hKv; have t0 := cell_chain hI lbxw c0; have t1 := cell_chain hI lbxw c1; go_simp; exact hKv); intro Kd hKd; go_simp; refine hKd _ ?_; clear hKd Kd
 refine anyI_one' 11 rfl (by kernel_rfl) ((Below.refl _ _).drew) (fun Kd hKd => ?_)
 obtain ⟨z0, z1, z2, z3, z4, z5, z6⟩ := Blk.c7 hbz; obtain ⟨y0, y1, y2, y3, y4, y5, y6, yl⟩ := Blk.g7 hbz; go_wp2; have hWF := setPk_below (p := helloA e) (Below.refl w.heap.size W) (Nat.le_refl w.heap.size); have hWB := setPk_blk (p := helloA e) (q := pkZ) (HBN.out); obtain ⟨WF, hWE⟩ : ∃ WF, setPk W w.heap.size (helloA e) = WF := ⟨_, rfl⟩; rw [hWE] at hWF hWB; simp only [setPk, helloA, emptyT, bempty] at hWE; rw [hWE]; refine anyI_end (by kernel_rfl) (hWF.drew) (hQd _ _ ?_); clear hQd Qd; go_wp2; have hl := load44 hWB.drew; exact bodyPost_ret (v := pkV (helloA e)) (results_c rfl rfl hl) rfl ⟨rfl, HB0.out.trans hWF.drew⟩
theorem data_any (bx bm : Nat) (e : En) (A : Option Addr) (c : Nat) (vi : Value) (i : Nat) (w : World) (h : Xs w bx bm e A c vi) (hw : 0 ≤ e.want ∧ e.want ≤ most) (hb : 0 ≤ e.base ∧ e.base ≤ most) (hi : i < e.out.length) (hl : e.out.length ≤ 1000) :
  Calls Try.prog 49 #[.pointer (some ⟨bx, 0, none⟩), .int .i64 i] w fun r w' => r = .returned (pkV (dataA e i)) ∧ Below w.heap.size w w' := by
 have hb' := hb; unfold most at hb'; have HX := Lib.hid h; clear h; go_enter Try.func49, Try.ntmps49
 go_wp2_with fail
 obtain ⟨W, hW⟩ : ∃ W, w.alloc (.cells #[.int .i64 0, .int .i64 0, .int .i64 0, .int .i64 0, .string ⟨#[]⟩, .int .i64 0, .int .i64 0] 44) = W := ⟨_, rfl⟩; rw [hW]; have HB0 : Hid (Below w.heap.size w W) := by rw [← hW]; exact (Below.refl _ w).alloc (Nat.le_refl _) _
 have hbn : Blk W w.heap.size (.cells pk0 44) := by rw [← hW]; exact Blk.new _ _
 have HBN := Lib.hid hbn; have hX1 := HX.out.below HB0.out; have HX1 := Lib.hid hX1; have hbx1 : bx ≠ w.heap.size := by have := HX.out.box.lt; omega
 have hsW := HB0.out.size; have hlW := hbn.lt; have lbx := hX1.box.lt; have lbxw := HX.out.box.lt; clear hW hbn; refine (report_any bx bm e A c vi W HX1.out hw).mono ?_; rintro r w2 ⟨rfl, hB2⟩; have HB2 := Lib.hid hB2; unfold pkV; have hs2 := HB2.out.size; obtain ⟨bq, hbq⟩ : ∃ bq, w2.heap.size = bq := ⟨_, rfl⟩; go_wp2_with fail
 obtain ⟨W3, hW3⟩ : ∃ W3, w2.alloc (.cells #[.int .i64 (reportA e).kind, .int .i64 (reportA e).frm, .int .i64 (reportA e).to, .int .i64 (reportA e).num, .string (reportA e).t, .int .i64 (reportA e).ack, .int .i64 (reportA e).held] 44) = W3 := ⟨_, rfl⟩; rw [hW3]; have hb5 : Blk W3 bq (.cells (pkB (reportA e)) 44) := by rw [← hW3, ← hbq]; exact Blk.new _ _
 have HB23 : Hid (Below w2.heap.size w2 W3) := by rw [← hW3]; exact (Below.refl _ w2).alloc (Nat.le_refl _) _
 have HB3 : Hid (Below W.heap.size W W3) := below_in HB2.out HB23.out; have hX3 := HX1.out.below HB3.out; have hb4 : Blk W3 w.heap.size (.cells (pkB pkZ) 44) := HBN.out.below HB3.out hlW; have c3 := hX3.box.cell 3 (v := .int .i64 e.base) rfl; have c4 := hX3.box.cell 4 (v := .slice A e.out.length c) rfl; obtain ⟨x, bo, oo, hx, hbo, hix, hc0, hc1⟩ := ou_at (c := c) HX1.out.out hi; have q0 := cell_chain HB3.out hbo hc0; have hs3 := HB23.out.size; have l0 : bx < W3.heap.size := hX3.box.lt; have l1 : bo < W3.heap.size := by omega
 have n0 : ¬ bx = bq := by omega
 have n1 : ¬ bo = bq := by omega
 have n2 : ¬ w.heap.size = bq := by omega
 have HXX : Hid (dataA e i = { reportA e with kind := 2, num := e.base + i, t := x.t }) := by
  show _ = _; unfold dataA reportA; simp [List.getD, hx]
 have hw4 : IntKind.i64.wrap (e.base + (i : Int)) = e.base + i := wrap_ok ⟨by omega, by omega⟩; have z0 := hb5.cell 0 (v := .int .i64 (reportA e).kind) rfl; have z3 := hb5.cell 3 (v := .int .i64 (reportA e).num) rfl; have z4 := hb5.cell 4 (v := .string (reportA e).t) rfl; have y0 := hb5.free 0; have y3 := hb5.free 3; have y4 := hb5.free 4; have yl := hb5.lt; have HB5 := Lib.hid hb5; have HB4 := Lib.hid hb4; clear hX1 hX3 hb5 hb4 hc0 hc1 hx hW3; refine draw (fun w' => Frame (fun b => b = bq) W3 w') 22 rfl (by kernel_rfl) (fun Qd hQd => ?_); iterate 17 (first | apply sI 0 (by rfl) rfl (by kernel_rfl) | apply sI 5 (by rfl) rfl (by kernel_rfl) | apply sI 7 (by rfl) rfl (by kernel_rfl) | apply sI 12 (by rfl) rfl (by kernel_rfl) | apply sI 16 (by rfl) rfl (by kernel_rfl) | apply sI 1 (by rfl) rfl (by kernel_rfl) | apply sI 8 (by rfl) rfl (by kernel_rfl) | apply sI 2 (by rfl) rfl (by kernel_rfl) | apply sI 9 (by rfl) rfl (by kernel_rfl) | apply sI 3 (by rfl) rfl (by kernel_rfl) | apply sI 10 (by rfl) rfl (by kernel_rfl) | apply sI 4 (by rfl) rfl (by kernel_rfl) | apply sI 11 (by rfl) rfl (by kernel_rfl) | apply sI 6 (by rfl) rfl (by kernel_rfl) | apply sI 13 (by rfl) rfl (by kernel_rfl) | apply sI 14 (by rfl) rfl (by kernel_rfl) | apply sI 15 (by rfl) rfl (by kernel_rfl)); (focus intro wI hI Kv hKv; have t3 := cell_frame hI l0 n0 c3; have t4 := cell_frame hI l0 n0 c4; have t5 := cell_frame hI l1 n1 q0; go_simp; exact hKv); intro Kd hKd; go_simp; refine hKd _ ?_; clear hKd Kd
 refine anyI_one' 17 rfl (by kernel_rfl) ((Frame.refl _ _).drew) (fun Kd hKd => ?_); go_wp2; have F1 := ((Frame.refl (fun b => b = bq) W3).setCell (p := ⟨bq, 0, none⟩) (.inl rfl) (.int .i64 2)); apply anyI_step 18 rfl (by kernel_rfl); (focus intro wI hI Kv hKv; go_simp; exact hKv); intro Kd hKd; go_simp; refine hKd _ ?_; clear hKd Kd
 refine anyI_one' 19 rfl (by kernel_rfl) (F1.drew) (fun Kd hKd => ?_); go_wp2; have F2 := F1.setCell (p := ⟨bq, 3, none⟩) (.inl rfl) (.int .i64 (e.base + i)); apply anyI_step 20 rfl (by kernel_rfl); (focus intro wI hI Kv hKv; go_simp; exact hKv); intro Kd hKd; go_simp; refine hKd _ ?_; clear hKd Kd
 refine anyI_one' 21 rfl (by kernel_rfl) (F2.drew) (fun Kd hKd => ?_); go_wp2; have F3 := F2.setCell (p := ⟨bq, 4, none⟩) (.inl rfl) (.string x.t); refine anyI_end (by kernel_rfl) (F3.drew) (hQd _ _ ?_); clear hQd Qd; obtain ⟨W4, hW4⟩ : ∃ W4, (((W3.setCell ⟨bq, 0, none⟩ (.int .i64 2)).setCell ⟨bq, 3, none⟩ (.int .i64 (e.base + (i : Int)))).setCell ⟨bq, 4, none⟩ (.string x.t)).drew = W4 := ⟨_, rfl⟩; have F3 := F3.drew; rw [hW4] at F3 ⊢; have hb5 : Blk W4 bq (.cells (pkB (dataA e i)) 44) := by
  rw [← hW4, HXX.out]; exact (((HB5.out.set 0 _).set 3 _).set 4 _).drew
 have hbz : Blk W4 w.heap.size (.cells (pkB pkZ) 44) := by
  rw [← hW4]; exact (((HB4.out.far (by exact n2) _).far (by exact n2) _).far (by exact n2) _).drew
 have HBZ := Lib.hid hbz; have hB4 : Below w.heap.size w W4 := (HB0.out.trans (HB3.out.mono hsW)).trans (F3.below (B := w.heap.size) (fun b e => by omega) (by omega)); obtain ⟨d0, d1, d2, d3, d4, d5, d6, dl⟩ := Blk.d7 hb5; unfold pkB pkZ at hbz; clear z0 z3 z4 y0 y3 y4 yl hb5 c3 c4 q0 F1 F2 F3 hW4; obtain ⟨z0, z1, z2, z3, z4, z5, z6⟩ := Blk.c7 hbz; obtain ⟨y0, y1, y2, y3, y4, y5, y6, yl⟩ := Blk.g7 hbz; go_wp2; have hl := load44 (setPk_blk HBZ.out (dataA e i)); exact bodyPost_ret (v := pkV (dataA e i)) (results_c rfl rfl hl) rfl ⟨rfl, setPk_below hB4 (Nat.le_refl _) _⟩
def nats (l : List Nat) : List Int := l.map fun (i : Nat) => (i : Int)
theorem nats_len (l : List Nat) : (nats l).length = l.length := by simp [nats]
theorem each_data (bx bm : Nat) (e : En) (A : Option Addr) (c : Nat) (vi : Value) (L : Option Addr) (d : Nat) (l : List Nat) (w : World) (h : Xs w bx bm e A c vi) (hL : Cells w L (ints (nats l))) (hg : GoodP e) (hi : ∀ i ∈ l, i < e.out.length) (hl : l.length ≤ 1000) :
  Calls Try.prog 48 #[.slice L l.length d, .func (.func 49) #[.pointer (some ⟨bx, 0, none⟩)] #[]] w fun r w' => ∃ v, r = .returned v ∧ w'.ownsRow w.heap.size 44 7 v l.length (pks (l.map (dataA e))) ∧ Below w.heap.size w w' := by
 have HX := Lib.hid h; have HL := Lib.hid hL; have HI := Lib.hid hi; have hw := hg.want; have hb : 0 ≤ e.base ∧ e.base ≤ most := ⟨hg.base, by have := hg.room; omega⟩; have hlen := hg.len; have HG := Lib.hid hg; clear h hL hi hg; go_enter Try.func48, Try.ntmps48
 go_wp2; go_loopw [5, 10] (fun vo i wr => ∃ k : Nat, k ≤ l.length ∧ i = .int .i64 k ∧ wr.ownsRow w.heap.size 44 7 vo k (pks ((l.take k).map (dataA e))) ∧ Below w.heap.size w wr) (fun _ i _ => l.length - (intOf i).toNat)
 case atStart => exact ⟨0, Nat.zero_le _, rfl, World.ownsRow_nil _ _ _ _, Below.refl _ _⟩
 case round =>
  obtain ⟨k, hk, rfl, hown, hB⟩ := hrel; have HO := Lib.hid hown; have HB := Lib.hid hB; have hsr := hB.size; clear hown hB; by_cases hlt : k < l.length
  ·have hnl := nats_len l; obtain ⟨x, b, o, hr, hbx, hix, hcx⟩ := ints_at (c := d) (HL.out.below HB.out (Nat.le_refl _)) Try.underlying53 szInt (k := k) (by rw [hnl]; exact hlt); rw [hnl] at hix; have hy : l[k]? = some l[k] := List.getElem?_eq_getElem hlt; obtain ⟨y, hyl⟩ : ∃ y, l[k] = y := ⟨_, rfl⟩; rw [hyl] at hy; have hxy : x = (y : Int) := by
    unfold nats at hr; rw [List.getElem?_map, hy] at hr; simpa using hr.symm
   subst hxy; have hyo := HI.out y (List.mem_of_getElem? hy); have HT : Hid (pks ((l.take (k + 1)).map (dataA e)) = pks ((l.take k).map (dataA e)) ++ [.int .i64 (dataA e y).kind, .int .i64 (dataA e y).frm, .int .i64 (dataA e y).to, .int .i64 (dataA e y).num, .string (dataA e y).t, .int .i64 (dataA e y).ack, .int .i64 (dataA e y).held]) := by
    show _ = _; rw [take_succ_of hy, List.map_append, List.map_cons, List.map_nil, pks_snoc]
   clear hr hy hyl; go_wp2_with (first
    | (go_at_call 49; go_must (refine (data_any bx bm e A c vi y wr (HX.out.below HB.out) hw hb hyo (by omega)).mono ?_); rintro r w1 ⟨rfl, hB1⟩; unfold pkV; have HB1 := Lib.hid hB1; have HO1 := Lib.hid (own_frame HO.out (Frame.of_all (S := fun _ => False) hB1) (fun _ _ h => h)); have hs1 := hB1.size; clear hB1)
    | (at_builtin; go_must (refine wpList_app1' rPk _ rfl _ _ rfl HO1.out rfl [_, _, _, _, _, _, _] 1 rfl rfl (by simp [Value.oneCell']) (by omega) (by omega) ?_); intro v' w2 hown2 hB2 hg2 hloc2))
   go_roundw
   case rel =>
    refine ⟨k + 1, by omega, by go_num, by rw [HT.out]; exact hown2, (HB.out.trans (HB1.out.mono (by omega))).trans hB2⟩
   case measure => simp [intOf]; omega
  ·obtain rfl : k = l.length := by omega
   go_wp2; go_ret; have ho := HO.out; rw [List.take_length] at ho; exact ⟨_, rfl, ho, HB.out⟩
theorem range_drop (n k : Nat) : (List.range n).drop k = List.range' k (n - k) := by
 apply List.ext_getElem
 ·simp
 ·intro i h1 h2; simp
theorem from_any (bx bm : Nat) (e : En) (A : Option Addr) (c : Nat) (vi : Value) (i0 : Nat) (w : World) (h : Xs w bx bm e A c vi) (hA0 : A = none → e.out.length = 0) (hg : GoodP e) (hi0 : i0 ≤ 100) :
  Calls Try.prog 43 #[.pointer (some ⟨bx, 0, none⟩), .int .i64 i0] w fun r w' => ∃ v, r = .returned v ∧ w'.ownsRow w.heap.size 44 7 v (fromA e i0).length (pks (fromA e i0)) ∧ Below w.heap.size w w' := by
 have HX := Lib.hid h; have hlen := hg.len; have HG := Lib.hid hg; have hf := fly_le e; clear h hg; go_enter Try.func43, Try.ntmps43
 go_wp2; go_loopw [1, 5] (fun i vo wr => ∃ m : Nat, (m = 0 ∨ i0 + m ≤ flyN e) ∧ i = .int .i64 (i0 + m : Nat) ∧ wr.ownsRow w.heap.size 3 1 vo m (ints (nats (List.range' i0 m))) ∧ Below w.heap.size w wr) (fun i _ _ => flyN e - (intOf i).toNat)
 case atStart => exact ⟨0, .inl rfl, rfl, World.ownsRow_nil _ _ _ _, Below.refl _ _⟩
 case round =>
  obtain ⟨m, hm, rfl, hown, hB⟩ := hrel; have HO := Lib.hid hown; have HB := Lib.hid hB; have hsr := hB.size; have hmb : m ≤ 12 := by omega
  clear hown hB; obtain ⟨F, HF⟩ : ∃ F, Hid (flyN e = F) := ⟨_, rfl⟩; obtain ⟨j, hj⟩ : ∃ j, i0 + m = j := ⟨_, rfl⟩; rw [HF.out] at hf hm; rw [HF.out, hj]; have hj100 : j ≤ 112 := by omega
  by_cases hlt : j < F
  ·go_wp2_with (first
    | (go_at_call 41; go_must (refine (sent_any bx bm e A c vi wr (HX.out.below HB.out) hA0 (by omega)).mono ?_); rintro r w1 ⟨⟨A', rfl, hC'⟩, rfl⟩; rw [HF.out])
    | (at_builtin; go_must (refine wpList_app1' rInt _ rfl _ _ rfl HO.out rfl [_] 1 rfl rfl (by simp [Value.oneCell']) (by omega) (by omega) ?_); intro v' w2 hown2 hB2 hg2 hloc2))
   go_roundw
   case rel =>
    refine ⟨m + 1, .inr (by omega), by (rw [show i0 + (m + 1) = j + 1 by omega]; go_num), ?_, HB.out.trans hB2⟩; have e1 : nats (List.range' i0 (m + 1)) = nats (List.range' i0 m) ++ [(j : Int)] := by
     unfold nats; rw [List.range'_concat, List.map_append]; simp [← hj]
    rw [e1]; have e2 : ints (nats (List.range' i0 m) ++ [(j : Int)]) = ints (nats (List.range' i0 m)) ++ [.int .i64 (j : Int)] := by simp [ints]
    rw [e2]; exact hown2
   case measure => simp [intOf]; omega
  ·have hnl : (List.range' i0 m).length = m := by simp
   have hfr : Hid (fromA e i0 = (List.range' i0 m).map (dataA e)) := by
    show _ = _; unfold fromA; rw [range_drop, HF.out]; congr 1; congr 1; omega
   obtain ⟨vA, vc, rfl⟩ := own_fits HO.out; have hcs := (Cells.of_own HO.out (by simp [ints, nats]; omega)).1; have HCS := Lib.hid hcs; clear hcs; go_wp2_with (first
    | (go_at_call 41; go_must (refine (sent_any bx bm e A c vi wr (HX.out.below HB.out) hA0 (by omega)).mono ?_); rintro r w1 ⟨⟨A', rfl, hC'⟩, rfl⟩; rw [HF.out])
    | fail)
   have hE := each_data bx bm e A c vi vA vc (List.range' i0 m) wr (HX.out.below HB.out) HCS.out HG.out (fun i hi => by rw [List.mem_range'_1] at hi; omega) (by rw [hnl]; omega); rw [hnl] at hE; refine hE.mono ?_; rintro r w2 ⟨v2, rfl, ho2, hB2⟩; have HO2 := Lib.hid ho2; have HB2 := Lib.hid hB2; clear ho2 hB2 hE; go_wp2; go_ret; refine ⟨v2, rfl, ?_, HB.out.trans (HB2.out.mono (by omega))⟩; rw [hfr.out, List.length_map, hnl]; exact own_mono HO2.out (by omega)
def enB (e : En) (A : Option Addr) (c : Nat) (B : Option Addr) (d : Nat) : Array Value := #[.int .i64 e.life, .int .i64 e.peer, .int .i64 e.phase, .int .i64 e.base, .slice A e.out.length c, .int .i64 e.want, .slice B e.inn.length d]
theorem load26 {w : World} {b : Nat} {e : En} {A B : Option Addr} {c d : Nat} (h : Blk w b (.cells (enB e A c B d) 26)) : (loadVar 26 ⟨b, 0, none⟩).run Try.prog w = .ok (enV e A c B d) w := by
 obtain ⟨h0, h1, h2, h3, h4, h5, h6⟩ := Blk.c7 h; unfold enV; go_simp
def setEn (w : World) (b : Nat) (e : En) (A : Option Addr) (c : Nat) (B : Option Addr) (d : Nat) : World := (((((((w.setCell ⟨b, 0, none⟩ (.int .i64 e.life)).setCell ⟨b, 1, none⟩ (.int .i64 e.peer)).setCell ⟨b, 2, none⟩ (.int .i64 e.phase)).setCell ⟨b, 3, none⟩ (.int .i64 e.base)).setCell ⟨b, 4, none⟩ (.slice A e.out.length c)).setCell ⟨b, 5, none⟩ (.int .i64 e.want)).setCell ⟨b, 6, none⟩ (.slice B e.inn.length d))
theorem setEn_blk {w : World} {b : Nat} {e0 e : En} {A0 B0 A B : Option Addr} {c0 d0 c d : Nat} (h : Blk w b (.cells (enB e0 A0 c0 B0 d0) 26)) : Blk (setEn w b e A c B d) b (.cells (enB e A c B d) 26) :=
 ((((((h.set 0 (.int .i64 e.life)).set 1 (.int .i64 e.peer)).set 2 (.int .i64 e.phase)).set 3 (.int .i64 e.base)).set 4 (.slice A e.out.length c)).set 5 (.int .i64 e.want)).set 6 (.slice B e.inn.length d)
theorem setEn_below {N : Nat} {w0 w : World} {b : Nat} {e : En} {A B : Option Addr} {c d : Nat} (h : Below N w0 w) (hb : N ≤ b) : Below N w0 (setEn w b e A c B d) :=
 ((((((h.setCell hb _).setCell hb _).setCell hb _).setCell hb _).setCell hb _).setCell hb _).setCell hb _
theorem setEn_frame {S : Nat → Prop} {w0 w : World} {b : Nat} {e : En} {A B : Option Addr} {c d : Nat} (h : Frame S w0 w) (hb : S b ∨ w0.heap.size ≤ b) : Frame S w0 (setEn w b e A c B d) :=
 ((((((h.setCell hb _).setCell hb _).setCell hb _).setCell hb _).setCell hb _).setCell hb _).setCell hb _
end Go.Proofs.Ytejabnoidhlfaaa
