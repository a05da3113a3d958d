/- Contract: begin. -/
import Derived.Test.YtejabnoidhlfaaaDoorS10
import Derived.Test.YtejabnoidhlfaaaDoorS11

/- Contract: begin. -/
namespace Go.Proofs.YtejabnoidhlfaaaDoor
open Go.RowKit Go.Maps

theorem take_cells {w : World} {A : Option Addr} {l : List Ou} {k : Nat} (h : Cells w A (ous l)) (hk : k ≤ l.length) : Cells w A (ous (l.take k)) := by
 obtain ⟨hcl, b, off, hb0, hA, hc⟩ := h
 have hpre : ous (l.take k) = (ous l).take (k * 2) := by
  have e1 : ous l = ous (l.take k) ++ ous (l.drop k) := by unfold ous; rw [← List.flatMap_append, List.take_append_drop]
  rw [e1, List.take_left' (by rw [ous_len, List.length_take]; omega)]
 refine ⟨by rw [hpre, List.length_take]; omega, b, off, hb0, fun hn => hA (fun h0 => hn (by rw [hpre, h0]; simp)), fun j v hj => hc j v ?_⟩
 rw [hpre, List.getElem?_take] at hj
 split at hj
 ·exact hj
 ·cases hj
theorem cut0_run {A : Option Addr} {n c m : Nat} (hm : m ≤ c) (w : World) :
  (Instr.slice 35 (.slice A n c) none (some (.int .i64 (m : Int))) (some (.int .i64 (m : Int)))).run Tryd.prog w = .ok (.slice A m m) w := by
 have hin : (0 : Int) ≤ (m : Int) ∧ (m : Int) ≤ (c : Int) := by omega
 simp [Instr.slice, Instr.sliceBounds, Instr.sliceBound, run_underlying Tryd.underlying35, asIntOf, hin, hm, Result.andThen]
 intro _
 cases A with
 | none => rfl
 | some a => simp [Addr.add]
def clrTo (l : List Ou) : Nat → List Ou
 | 0 => l
 | j + 1 => setH (clrTo l j) j false
theorem clrTo_len (l : List Ou) : ∀ j, (clrTo l j).length = l.length
 | 0 => rfl
 | j + 1 => by rw [clrTo, setH_len, clrTo_len l j]
theorem clrTo_get (l : List Ou) : ∀ (j i : Nat), (clrTo l j)[i]? = (l[i]?).map fun x => ⟨x.t, if i < j then false else x.h⟩
 | 0, i => by rw [clrTo]; cases l[i]? <;> simp
 | j + 1, i => by
  rw [clrTo, setH_get, clrTo_get l j i]
  by_cases hi : i = j
  ·rw [if_pos hi, Option.map_map]
   congr 1
   funext x
   simp [hi]
  ·rw [if_neg hi]
   congr 1
   funext x
   by_cases h : i < j
   ·rw [if_pos h, if_pos (by omega)]
   ·rw [if_neg h, if_neg (by omega)]
theorem clrTo_all (l : List Ou) : clrTo l l.length = l.map fun x => ⟨x.t, false⟩ := by
 apply List.ext_getElem?
 intro i
 rw [clrTo_get, List.getElem?_map]
 rcases Nat.lt_or_ge i l.length with h | h
 ·simp only [h, if_true]
 ·rw [List.getElem?_eq_none h]; rfl
theorem RowAt.frame {w w' : World} {B : Nat} {A : Option Addr} {l : List Ou} {S : Nat → Prop} (h : RowAt w B A l) (hF : Frame S w w') (hS : ∀ b cur, Blk w b (.cells cur 53) → ¬ S b) : RowAt w' B A l := fun hn => by
 obtain ⟨b, off, cur, h1, h2, h3⟩ := h hn
 exact ⟨b, off, cur, h1, h2, h3.frame hF (hS b cur h3)⟩
theorem RowAt.cells {w w' : World} {B : Nat} {A : Option Addr} {l : List Ou} {S : Nat → Prop} (h : RowAt w B A l) (hc : Cells w A (ous l)) (hF : Frame S w w') (hS : ∀ b cur, Blk w b (.cells cur 53) → ¬ S b) : Cells w' A (ous l) :=
 hc.frame hF (fun hn a ha => by
  obtain ⟨b, off, cur, h1, h2, h3⟩ := h (by rintro rfl; exact hn rfl)
  rw [h1] at ha
  injection ha with ha
  subst ha
  exact hS b cur h3)

set_option maxRecDepth 100000 in
set_option maxHeartbeats 16000000 in
theorem begin_any (B bx bm : Nat) (e : En) (A : Option Addr) (c : Nat) (vi : Value) (life : Int) (w : World) (h : Xs w bx bm e A c vi) (hr : RowAt w B A e.out) (hA0 : A = none → e.out.length = 0) (hg : GoodP e) (hb1 : B ≤ bx) (hb2 : B ≤ bm) (hBw : B ≤ w.heap.size) :
  Calls Tryd.prog 32 #[.pointer (some ⟨bx, 0, none⟩), .int .i64 life] w fun r w' => (∃ T d, r = .returned (.slice T (overA e life).2.length d) ∧ w'.ownsRow w.heap.size 9 1 (.slice T (overA e life).2.length d) (overA e life).2.length (strs (overA e life).2)) ∧ (∃ A' c', Xs w' bx bm (overA e life).1 A' c' vi ∧ RowAt w' B A' (overA e life).1.out) ∧ Below B w w' ∧
   Frame (fun b => b = bx ∨ b = bm ∨ ∃ cur, Blk w b (.cells cur 53)) w w' := by
 have hlen := hg.len
 have hfl := fly_le e
 obtain ⟨F, HF⟩ : ∃ F, Hid (flyN e = F) := ⟨_, rfl⟩
 rw [HF.out] at hfl
 have HX := Lib.hid h
 have HR := Lib.hid hr
 have hcap := h.cap
 have hmx := h.map.not_blk h.box
 have x4 := h.box.cell 4 (v := .slice A e.out.length c) rfl
 have xl := h.box.lt
 have hc0 := cut0_run (A := A) (n := e.out.length) (c := c) (m := F) (by omega)
 have hcut := cut_run (A := A) (n := e.out.length) (c := c) (g := F) hfl.1 hcap
 have HTK : Hid (Cells w A (ous (e.out.take F))) := take_cells h.out hfl.1
 have htl : (e.out.take F).length = F := by rw [List.length_take]; omega
 have hET := each_text A F (e.out.take F) w HTK.out (by omega)
 rw [htl] at hET
 have HET := Lib.hid hET
 clear h hr hET hg htl
 go_enter Tryd.func32, Tryd.ntmps32
 go_wp2_with fail
 refine (sent_any bx bm e A c vi w HX.out hA0 (by omega)).mono ?_
 rintro r w1 ⟨⟨A1, rfl, _⟩, rfl⟩
 rw [HF.out]
 go_wp2_with fail
 refine HET.out.mono ?_
 rintro r w1 ⟨v1, rfl, ho1, hB1⟩
 have HB1 := Lib.hid hB1
 have HO1 := Lib.hid ho1
 have hbx1 := HX.out.box.below hB1 xl
 have HBX1 := Lib.hid hbx1
 have z1 := hbx1.cell 1 (v := .int .i64 e.peer) rfl
 have z2 := hbx1.cell 2 (v := .int .i64 e.phase) rfl
 have z3 := hbx1.cell 3 (v := .int .i64 e.base) rfl
 have z4 := hbx1.cell 4 (v := .slice A e.out.length c) rfl
 have z5 := hbx1.cell 5 (v := .int .i64 e.want) rfl
 have z7 := hbx1.cell 7 (v := .map (some bm)) rfl
 have y1 := hbx1.free 1
 have y2 := hbx1.free 2
 have y3 := hbx1.free 3
 have y4 := hbx1.free 4
 have y5 := hbx1.free 5
 have zl := hbx1.lt
 obtain ⟨l0, hl0⟩ : ∃ l0, e.out.drop F = l0 := ⟨_, rfl⟩
 have hl0n : l0.length = e.out.length - F := by rw [← hl0]; simp
 clear hB1 ho1 hbx1 x4
 obtain ⟨V, hV⟩ : ∃ V, ((((w1.setCell ⟨bx, 4, none⟩ (.slice (cutA A c F) (e.out.length - F) (c - F))).setCell ⟨bx, 1, none⟩ (.int .i64 life)).setCell ⟨bx, 2, none⟩ (.int .i64 2)).setCell ⟨bx, 3, none⟩ (.int .i64 0)).setCell ⟨bx, 5, none⟩ (.int .i64 0) = V := ⟨_, rfl⟩
 have hFV : Frame (fun b => b = bx) w1 V := by
  rw [← hV]
  exact (((((Frame.refl (fun b => b = bx) w1).setCell (p := ⟨bx, 4, none⟩) (.inl rfl) _).setCell (p := ⟨bx, 1, none⟩) (.inl rfl) _).setCell (p := ⟨bx, 2, none⟩) (.inl rfl) _).setCell (p := ⟨bx, 3, none⟩) (.inl rfl) _).setCell (p := ⟨bx, 5, none⟩) (.inl rfl) _
 have hbV : Blk V bx (.cells #[.int .i64 e.life, .int .i64 life, .int .i64 2, .int .i64 0, .slice (cutA A c F) l0.length (c - F), .int .i64 0, vi, .map (some bm)] 86) := by
  rw [← hV, hl0n]
  exact ((((HBX1.out.set 4 _).set 1 _).set 2 _).set 3 _).set 5 _
 have hmV : Early V bm (getN e.inn) := (HX.out.map.frame (S := fun _ => False) (Frame.of_all HB1.out) (fun h => h)).frame hFV hmx
 obtain ⟨wC, hclr, hE, hgC⟩ := hmV.wipe 0
 have hF1C : Frame (fun b => b = bx ∨ b = bm) w wC := ((Frame.of_all (S := fun b => b = bx ∨ b = bm) HB1.out).trans hFV (fun b _ e => .inl e)).trans (Frame.of_grown hgC) (fun b _ e => .inr (by injection e with e; exact e.symm))
 have hnS : ∀ b cur, Blk w b (.cells cur 53) → ¬ (b = bx ∨ b = bm) := fun b cur hk e2 => by
  rcases e2 with e2 | e2
  ·exact blk_ne hk HX.out.box (by decide) e2
  ·exact HX.out.map.not_blk hk e2.symm
 have HRC : Hid (RowAt wC B (cutA A c F) l0) := by
  show RowAt _ _ _ _
  rw [← hl0]
  exact cut_row (HR.out.frame hF1C hnS) hcap
 have HOC : Hid (Cells wC (cutA A c F) (ous l0)) := by
  show Cells _ _ _
  rw [← hl0]
  exact cut_cells (HR.out.cells HX.out.out hF1C hnS) hfl.1 hcap
 have hbC := hbV.grown hgC (fun e2 => by injection e2 with e2; exact hmx e2)
 have HBC := Lib.hid hbC
 have HEC := Lib.hid hE
 have HF1C := Lib.hid hF1C
 have hOVER : Hid ((overA e life).1 = { e with peer := life, phase := 2, base := 0, out := l0.map (fun x => ⟨x.t, false⟩), want := 0, inn := [] }) := by
  show _ = _
  unfold overA
  rw [HF.out, hl0]
 have HLOST : Hid ((overA e life).2 = (e.out.take F).map (·.t)) := by show _ = _; unfold overA; rw [HF.out]
 have hv4 := hbV.cell 4 (v := .slice (cutA A c F) l0.length (c - F)) rfl
 have hv7 := hbV.cell 7 (v := .map (some bm)) rfl
 have hvl := hbV.lt
 have hw4 := hbC.cell 4 (v := .slice (cutA A c F) l0.length (c - F)) rfl
 have hwl := hbC.lt
 have hO1C : Hid (wC.ownsRow w.heap.size 9 1 v1 F (strs ((e.out.take F).map (·.t)))) := own_frame HO1.out ((hFV.mono (T := fun b => b = bx ∨ b = bm) (fun b _ e => .inl e)).trans (Frame.of_grown hgC) (fun b _ e => .inr (by injection e with e; exact e.symm))) (fun g hg e2 => by
  have h1 := (HO1.out.lt _ hg).1
  have h2 := HX.out.map.lt
  rcases e2 with e2 | e2 <;> omega)
 rw [← hl0n] at hV hcut
 have hl0s : l0.length + F = e.out.length := by omega
 have hszC := hF1C.size
 clear hFV hbV hmV hE hgC hF1C hbC hl0 hl0n hnS
 obtain ⟨Av1, cv1, rfl⟩ := own_fits hO1C.out
 go_wp2
 go_loopw [60] (fun i wr => ∃ k : Nat, k ≤ l0.length ∧ i = .int .i64 k ∧ Blk wr bx (.cells #[.int .i64 e.life, .int .i64 life, .int .i64 2, .int .i64 0, .slice (cutA A c F) l0.length (c - F), .int .i64 0, vi, .map (some bm)] 86) ∧
   Cells wr (cutA A c F) (ous (clrTo l0 k)) ∧ RowAt wr B (cutA A c F) (clrTo l0 k) ∧ Frame (fun b => B ≤ b ∧ ∃ cur, Blk wC b (.cells cur 53)) wC wr) (fun i _ => l0.length - (intOf i).toNat)
 case atStart => exact ⟨0, Nat.zero_le _, rfl, HBC.out, HOC.out, HRC.out, Frame.refl _ _⟩
 case round =>
  obtain ⟨k, hk, rfl, hbx, hou, hro, hF2⟩ := hrel
  have HBX := Lib.hid hbx
  have HOU := Lib.hid hou
  have HRO := Lib.hid hro
  have HF2 := Lib.hid hF2
  have hsz := hF2.size
  have hal := clrTo_len l0 k
  have x4 := hbx.cell 4 (v := .slice (cutA A c F) l0.length (c - F)) rfl
  have xl2 := hbx.lt
  clear hbx hou hro hF2 hclr z1 z2 z3 z4 z5 z7 y1 y2 y3 y4 y5 hV hv4 hv7 hcut hc0
  by_cases hlt : k < l0.length
  ·have hk1 : k < (clrTo l0 k).length := by rw [hal]; exact hlt
   obtain ⟨x, b, o, cur, hx, hb, hBb, hbk, hix, hcx, hfx, hcs, hrs⟩ := ou_store (c := c - F) HOU.out HRO.out hk1 false
   rw [hal] at hix
   have HCS := Lib.hid hcs
   have HRS := Lib.hid hrs
   have HBK := Lib.hid hbk
   have hnx : bx ≠ b := fun e2 => by
    rw [← e2] at hbk
    exact blk_ne hbk HBX.out (by decide) rfl
   clear hx hcs hrs hbk hk1
   go_wp2
   go_roundw
   case rel =>
    refine ⟨k + 1, by omega, by go_num, HBX.out.far hnx _, HCS.out, HRS.out, HF2.out.setCell (p := ⟨b, o + 1, none⟩) ?_ _⟩
    rcases Nat.lt_or_ge b wC.heap.size with hlt2 | hge
    ·refine .inl ⟨hBb, ?_⟩
     by_cases hs : ∃ cur, Blk wC b (.cells cur 53)
     ·exact hs
     ·have h1 := HF2.out.block b hlt2 (fun h => hs h.2)
      exact ⟨cur, h1.symm.trans HBK.out⟩
    ·exact .inr hge
   case measure => simp [intOf]; omega
  ·obtain rfl : k = l0.length := by omega
   have hall := clrTo_all l0
   go_wp2
   go_ret
   have hml : (l0.map fun x => (⟨x.t, false⟩ : Ou)).length = l0.length := by simp
   have hLl : ((e.out.take F).map (·.t)).length = F := by rw [List.length_map, List.length_take]; omega
   have hFrow := own_frame hO1C.out HF2.out (fun g hg ⟨_, cur, hcur⟩ => own_ne hO1C.out hcur (by decide) hg)
   refine ⟨⟨Av1, cv1, by rw [HLOST.out, hLl]; rfl, by rw [HLOST.out, hLl]; exact hFrow⟩, ⟨cutA A c F, c - F, ?_, ?_⟩, ?_, ?_⟩
   ·rw [hOVER.out]
    refine ⟨?_, ?_, HEC.out.frame HF2.out (fun ⟨_, cur, hcur⟩ => HEC.out.not_blk hcur rfl), ?_, cut_nil HX.out.nil⟩
    ·show Blk _ _ _
     simp only [hml]
     exact HBX.out
    ·show Cells _ _ _
     simp only
     rw [← hall]
     exact HOU.out
    ·show (l0.map _).length ≤ _
     rw [hml]
     omega
   ·rw [hOVER.out]
    show RowAt _ _ _ _
    simp only
    rw [← hall]
    exact HRO.out
   ·exact (HF1C.out.below (B := B) (fun b e2 => by rcases e2 with e2 | e2 <;> omega) hBw).trans (HF2.out.below (B := B) (fun b e2 => e2.1) (by omega))
   ·exact (HF1C.out.mono (T := fun b => b = bx ∨ b = bm ∨ ∃ cur, Blk w b (.cells cur 53)) (fun b _ e2 => by rcases e2 with e2 | e2; exact .inl e2; exact .inr (.inl e2))).trans HF2.out (fun b hb ⟨_, cur, hc⟩ => by
     by_cases hbb : b = bx ∨ b = bm
     ·rcases hbb with hbb | hbb
      ·exact .inl hbb
      ·exact .inr (.inl hbb)
     ·exact .inr (.inr ⟨cur, (HF1C.out.block b hb hbb).symm.trans hc⟩))
end Go.Proofs.YtejabnoidhlfaaaDoor
