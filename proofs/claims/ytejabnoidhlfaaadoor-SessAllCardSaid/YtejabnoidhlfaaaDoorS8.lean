/- Contract: open. -/
import Derived.Test.YtejabnoidhlfaaaDoorS6
import Derived.Test.YtejabnoidhlfaaaDoorS7

/- Contract: open. -/
namespace Go.Proofs.YtejabnoidhlfaaaDoor
open Go.RowKit Go.Maps

theorem getN_snoc (l : List Im) (x : Im) (h : getN l x.n = none) : getN (l ++ [x]) = updG (getN l) x.n (some x.t) := by
 induction l with
 | nil =>
  funext k
  rw [List.nil_append, getN_cons]
  unfold updG
  by_cases e : k = x.n
  ·rw [if_pos e.symm, if_pos e]
  ·rw [if_neg (fun h => e h.symm), if_neg e]
 | cons y l ih =>
  rw [getN_cons] at h
  have hy : y.n ≠ x.n := by
   intro e
   rw [if_pos e] at h
   cases h
  rw [if_neg hy] at h
  have ih := ih h
  funext k
  rw [List.cons_append, getN_cons, ih]
  unfold updG
  rw [getN_cons]
  by_cases e : y.n = k
  ·rw [if_pos e, if_pos e, if_neg (by rintro rfl; exact hy e)]
  ·rw [if_neg e, if_neg e]
theorem srt_take : ∀ {l : List Im} {lo : Int} {k : Nat} {x : Im}, srt lo l → l[k]? = some x → ∀ y ∈ l.take k, y.n < x.n
 | [], _, _, _, _, h, _, _ => by simp at h
 | z :: l, lo, 0, x, _, _, y, hy => by simp at hy
 | z :: l, lo, k + 1, x, hs, hx, y, hy => by
  rw [List.take_succ_cons] at hy
  have hx' : l[k]? = some x := by simpa using hx
  rcases List.mem_cons.1 hy with e | hy
  ·subst e
   exact hs.2.gt x (List.mem_of_getElem? hx')
  ·exact srt_take hs.2 hx' y hy
/-- The state of an end that is being changed: all its memory lies from B on. -/
structure Xw (w : World) (B bx bm : Nat) (e : En) (A : Option Addr) (c : Nat) (vi : Value) : Prop where
 s : Xs w bx bm e A c vi
 own : e.out ≠ [] → ∃ b off cur, A = some ⟨b, off, none⟩ ∧ B ≤ b ∧ Blk w b (.cells cur 53)
 bx : B ≤ bx
 bm : B ≤ bm
theorem Xw.below {w w' : World} {B bx bm : Nat} {e : En} {A : Option Addr} {c : Nat} {vi : Value} (h : Xw w B bx bm e A c vi) (hB : Below w.heap.size w w') : Xw w' B bx bm e A c vi :=
 ⟨h.s.below hB, fun hn => by obtain ⟨b, off, cur, e1, e2, e3⟩ := h.own hn; exact ⟨b, off, cur, e1, e2, e3.below hB e3.lt⟩, h.bx, h.bm⟩
def enC (e : En) (A : Option Addr) (c : Nat) (B : Option Addr) (d : Nat) : Array Value := #[.int .i64 e.life, .int .i64 e.peer, .int .i64 e.phase, .int .i64 e.base, .slice A e.out.length c, .int .i64 e.want, .slice B e.inn.length d]

theorem own_mono {w : World} {B B' : Nat} {e : TypeId} {size n : Nat} {v : Value} {xs : List Value} (h : w.ownsRow B e size v n xs) (hB : B' ≤ B) : w.ownsRow B' e size v n xs := by
 refine ⟨h.1, ?_⟩
 rcases h.2 with h0 | ⟨g, cap, cur, hv, hb, r⟩
 ·exact .inl h0
 ·exact .inr ⟨g, cap, cur, hv, Nat.le_trans hB hb, r⟩
set_option maxRecDepth 100000 in
set_option maxHeartbeats 8000000 in
theorem open_any (e : En) (A : Option Addr) (c : Nat) (B : Option Addr) (d : Nat) (w : World) (h : EnAt w e A B) (hg : GoodP e) (hA0 : A = none → e.out.length = 0 ∧ c = 0) :
  Calls Tryd.prog 24 #[enV e A c B d] w fun r w' => ∃ bx bm A' c', r = .returned (.pointer (some ⟨bx, 0, none⟩)) ∧ Xs w' bx bm e A' c' (.slice B e.inn.length d) ∧ w'.ownsRow w.heap.size 53 2 (.slice A' e.out.length c') e.out.length (ous e.out) ∧
   w.heap.size ≤ bx ∧ w.heap.size ≤ bm ∧ Below w.heap.size w w' := by
 have hlen := hg.len
 have hil := hg.ins_len
 have hins := hg.ins
 have HG := Lib.hid hg
 have HE := Lib.hid h
 have HI := Lib.hid hins
 have hmm := @run_makeMap Tryd.prog
 unfold enV
 clear h hg hins
 go_enter Tryd.func24, Tryd.ntmps24
 go_wp2_with fail
 obtain ⟨W, hW⟩ : ∃ W, ((w.alloc (.cells #[.int .i64 e.life, .int .i64 e.peer, .int .i64 e.phase, .int .i64 e.base, .slice A e.out.length c, .int .i64 e.want, .slice B e.inn.length d] 38)).alloc (.map #[] 0)).alloc (.cells #[.int .i64 e.life, .int .i64 e.peer, .int .i64 e.phase, .int .i64 e.base, .slice A e.out.length c, .int .i64 e.want, .slice B e.inn.length d, .map (some (w.heap.size + 1))] 86) = W := ⟨_, rfl⟩
 rw [hW]
 have HB0 : Hid (Below w.heap.size w W) := by rw [← hW]; exact (((Below.refl _ w).alloc (Nat.le_refl _) _).alloc (by simp) _).alloc (by simp; omega) _
 have hsW : W.heap.size = w.heap.size + 3 := by rw [← hW]; simp
 have h26 : Blk W w.heap.size (.cells #[.int .i64 e.life, .int .i64 e.peer, .int .i64 e.phase, .int .i64 e.base, .slice A e.out.length c, .int .i64 e.want, .slice B e.inn.length d] 38) := by rw [← hW]; exact ((Blk.new _ _).alloc _).alloc _
 have h84 : Blk W (w.heap.size + 1 + 1) (.cells #[.int .i64 e.life, .int .i64 e.peer, .int .i64 e.phase, .int .i64 e.base, .slice A e.out.length c, .int .i64 e.want, .slice B e.inn.length d, .map (some (w.heap.size + 1))] 86) := by
  rw [← hW]
  have e1 := Blk.new ((w.alloc (.cells #[.int .i64 e.life, .int .i64 e.peer, .int .i64 e.phase, .int .i64 e.base, .slice A e.out.length c, .int .i64 e.want, .slice B e.inn.length d] 38)).alloc (.map #[] 0)) (.cells #[.int .i64 e.life, .int .i64 e.peer, .int .i64 e.phase, .int .i64 e.base, .slice A e.out.length c, .int .i64 e.want, .slice B e.inn.length d, .map (some (w.heap.size + 1))] 86)
  rw [World.size_alloc, World.size_alloc] at e1
  exact e1
 have hmp : Early W (w.heap.size + 1) (fun _ => none) := by
  rw [← hW]
  have e1 := Early.new (w.alloc (.cells #[.int .i64 e.life, .int .i64 e.peer, .int .i64 e.phase, .int .i64 e.base, .slice A e.out.length c, .int .i64 e.want, .slice B e.inn.length d] 38))
  rw [World.size_alloc] at e1
  exact e1.frame (S := fun _ => False) ((Frame.refl _ _).alloc _) (fun h => h)
 clear hW
 refine (clone_ou A c e.out W (HE.out.out.below HB0.out (Nat.le_refl _)) hA0 (by omega)).mono ?_
 rintro r w1 ⟨v1, rfl, ho1, hB1⟩
 obtain ⟨A1, c1, rfl⟩ := own_fits ho1
 have hs1 := hB1.size
 have h26b := h26.below hB1 (by omega)
 have h84b := h84.below hB1 (by omega)
 have hmpb : Early w1 (w.heap.size + 1) (fun _ => none) := hmp.frame (S := fun _ => False) (Frame.of_all hB1) (fun h => h)
 have z4 := h84b.cell 4 (v := .slice A e.out.length c) rfl
 have y4 := h84b.free 4
 have yl := h84b.lt
 have x6 := h26b.cell 6 (v := .slice B e.inn.length d) rfl
 have xl := h26b.lt
 have HO1 := Lib.hid ho1
 have HB1 := Lib.hid hB1
 have H84 := Lib.hid h84b
 have H26 := Lib.hid h26b
 have HMP := Lib.hid hmpb
 clear h26 h84 hmp ho1 hB1 h26b h84b hmpb
 have n1 : ¬ w.heap.size = w.heap.size + 1 + 1 := by omega
 go_wp2
 obtain ⟨W2, hW2⟩ : ∃ W2, w1.setCell ⟨w.heap.size + 1 + 1, 4, none⟩ (.slice A1 e.out.length c1) = W2 := ⟨_, rfl⟩
 rw [hW2]
 have hF2 : Frame (fun b => b = w.heap.size + 1 + 1) w1 W2 := by rw [← hW2]; exact (Frame.refl (fun b => b = w.heap.size + 1 + 1) w1).setCell (p := ⟨_, _, none⟩) (.inl rfl) _
 have H84b : Hid (Blk W2 (w.heap.size + 1 + 1) (.cells #[.int .i64 e.life, .int .i64 e.peer, .int .i64 e.phase, .int .i64 e.base, .slice A1 e.out.length c1, .int .i64 e.want, .slice B e.inn.length d, .map (some (w.heap.size + 1))] 86)) := by rw [← hW2]; exact H84.out.set 4 _
 have HMP2 : Hid (Early W2 (w.heap.size + 1) (fun _ => none)) := HMP.out.frame hF2 (by omega)
 have HO2 : Hid (W2.ownsRow W.heap.size 53 2 (.slice A1 e.out.length c1) e.out.length (ous e.out)) := own_frame HO1.out hF2 (fun g hg e => by have := (HO1.out.lt _ hg).1; omega)
 have HBW2 : Hid (Below w.heap.size w W2) := (HB0.out.trans (HB1.out.mono (by omega))).trans (hF2.below (B := w.heap.size) (fun b e => by omega) (by omega))
 have hIn2 := HE.out.inn.below HBW2.out (Nat.le_refl _)
 have HIN := Lib.hid hIn2
 have hs2 := hF2.size
 clear z4 y4 yl x6 xl hW2 hIn2
 go_loopw [20] (fun i wr => ∃ k : Nat, k ≤ e.inn.length ∧ i = .int .i64 k ∧ Early wr (w.heap.size + 1) (getN (e.inn.take k)) ∧ Frame (fun b => b = w.heap.size + 1) W2 wr) (fun i _ => e.inn.length - (intOf i).toNat)
 case atStart => exact ⟨0, Nat.zero_le _, rfl, by rw [List.take_zero]; exact HMP2.out, Frame.refl _ _⟩
 case round =>
  obtain ⟨k, hk, rfl, hE, hF⟩ := hrel
  have HEk := Lib.hid hE
  have HFk := Lib.hid hF
  have hsr := hF.size
  clear hE hF
  by_cases hlt : k < e.inn.length
  ·have hInr := HIN.out.frame HFk.out (fun hn a ha e => by have := HE.out.inn.lt hn ha; omega)
   obtain ⟨x, b, o, hx, hb, hix, hc0, hc1⟩ := im_at (c := d) hInr hlt
   have hxm := List.mem_of_getElem? hx
   have hxb := (HI.out.2 x hxm)
   have hxl := HI.out.1.gt x hxm
   have hgw := HG.out.want
   unfold most at hgw hxb
   have hnone : getN (e.inn.take k) x.n = none := getN_none.2 fun y hy e => by have := srt_take HI.out.1 hx y hy; omega
   have HT : Hid (getN (e.inn.take (k + 1)) = updG (getN (e.inn.take k)) x.n (some x.t)) := by
    show _ = _
    rw [take_succ_of hx, getN_snoc _ _ hnone]
   obtain ⟨WX, hWX⟩ : ∃ WX, wr.alloc (.cells #[.int .i64 x.n, .string x.t] 111) = WX := ⟨_, rfl⟩
   have hBX : Below wr.heap.size wr WX := by rw [← hWX]; exact (Below.refl _ wr).alloc (Nat.le_refl _) _
   have bX : Blk WX wr.heap.size (.cells #[.int .i64 x.n, .string x.t] 111) := by rw [← hWX]; exact Blk.new _ _
   have e0 := bX.cell 0 (v := .int .i64 x.n) rfl
   have e1 := bX.cell 1 (v := .string x.t) rfl
   have el := bX.lt
   have h84X := (H84b.out.frame HFk.out (by omega)).below hBX (by omega)
   have e7 := h84X.cell 7 (v := .map (some (w.heap.size + 1))) rfl
   have e7l := h84X.lt
   have hmX : Early WX.drew (w.heap.size + 1) (getN (e.inn.take k)) := (HEk.out.frame (S := fun _ => False) (Frame.of_all hBX) (fun h => h)).frame (S := fun _ => False) (Frame.refl _ _).drew (fun h => h)
   obtain ⟨w5, hput, hE5, hg5⟩ := hmX.put (k := x.n) ⟨by omega, by omega⟩ hnone x.t
   have HE5 := Lib.hid hE5
   have HF5 : Hid (Frame (fun b => b = w.heap.size + 1) wr w5) := (Frame.of_all hBX).trans ((Frame.refl (fun b => b = w.heap.size + 1) WX).drew.trans (Frame.of_grown hg5) (fun b _ e => by injection e with e; exact e.symm)) (fun _ _ h => h)
   clear hx hxm hnone bX h84X hmX hE5 hg5 hBX hInr
   go_wp2
   refine stail 8 (by kernel_rfl) (by kernel_rfl) (fun Kq hKq => ?_)
   simp only [List.take_succ_cons, List.take_zero, List.drop_succ_cons, List.drop_zero] at hKq ⊢
   repeat still_step
   refine wpStill_nil (hKq _ ?_)
   clear hKq Kq
   go_wp2
   go_roundw
   case rel => exact ⟨k + 1, by omega, by go_num, by rw [HT.out]; exact HE5.out, HFk.out.trans HF5.out (fun _ _ h => h)⟩
   case measure => simp [intOf]; omega
  ·obtain rfl : k = e.inn.length := by omega
   go_wp2
   go_ret
   have hB : Below w.heap.size w wr := HBW2.out.trans (HFk.out.below (B := w.heap.size) (fun b e => by omega) (by omega))
   have hE := HEk.out
   rw [List.take_length] at hE
   have ho := own_frame HO2.out HFk.out (fun g hg e => by have := (HO2.out.lt _ hg).1; omega)
   refine ⟨_, _, A1, c1, rfl, ⟨H84b.out.frame HFk.out (by omega), (Cells.of_own ho (by rw [ous_len]; omega)).1, hE, own_cap ho, own_nil ho⟩, ?_, by omega, by omega, hB⟩
   exact own_mono ho (by omega)
end Go.Proofs.YtejabnoidhlfaaaDoor
