/- Contracts and lemmas that the claim uses. -/
import Derived.Test.YtejabnoidhlfaaaV51
import Derived.Deep.Slices
import Derived.SizedLaws
import Derived.Lib.SmallJoins
import Derived.ProofKit
import Derived.OpenShut
import Derived.ShutString
import Derived.ChangeOld
import Derived.Below
set_option maxRecDepth 100000
set_option maxHeartbeats 16000000
namespace Go.Proofs.Ytejabnoidhlfaaa
open Go.RowKit Go.Maps
theorem walk_plays (A : Option Addr) (c : Nat) (ds : List Dd) (OA : Option Addr) (oc : Nat) (order : List Int) (w : World) (h : Cells w A (dds ds)) (ho : Cells w OA (ints order)) : Calls Try.prog 6 #[.slice A ds.length c, .slice OA order.length oc] w fun r w' => r = .returned (.bool true) ∧ Below w.heap.size w w' := by
 have HC := Lib.hid h; have HO := Lib.hid ho; have HBc : Hid (Below w.heap.size w w) := Below.refl _ w; clear h ho; go_enter Try.func6, Try.ntmps6
 go_wp2_with fail
 refine (large_any A c ds OA oc order w HC.out).mono ?_; rintro r w1 ⟨⟨b, rfl⟩, hw⟩; obtain rfl := hw.symm; cases b with
 | true =>
  go_wp2_with fail
  refine (works_any w).mono ?_; rintro r w2 ⟨rfl, hB2⟩; have HB2 : Hid (Below w.heap.size w w2) := below_in HBc.out hB2; go_wp2; go_ret; exact ⟨rfl, HB2.out⟩
 | false =>
  obtain ⟨P, HP⟩ : ∃ P, Hid (playA ds = P) := ⟨_, rfl⟩; obtain ⟨Q, HQ⟩ : ∃ Q, Hid (quietA ds order = Q) := ⟨_, rfl⟩; go_wp2_with fail
  refine (play_any A c ds w HC.out).mono ?_; rintro r w2 ⟨EA1, ce1, WA1, cw1, TA1, ct1, es1, zs1, rfl, hL, hB, _⟩; rw [HP.out] at hL ⊢; have HL1 := Lib.hid hL; have HBc : Hid (Below w.heap.size w w2) := below_in HBc.out hB; clear hL hB; unfold lnV; go_upto_region 4 with fail
  obtain ⟨w3, hv⟩ : ∃ v, w2.alloc (.cells #[.slice EA1 P.1.ends.length ce1, .slice WA1 P.1.wire.length cw1, .slice TA1 P.1.tales.length ct1] 59) = v := ⟨_, rfl⟩; have hbv : Below w2.heap.size w2 w3 := by rw [← hv]; exact (Below.refl _ w2).alloc (Nat.le_refl _) _
  have HBv : Hid (Below w.heap.size w w3) := below_in HBc.out hbv; have HM1 : Hid (Blk w3 w2.heap.size (.cells #[.slice EA1 P.1.ends.length ce1, .slice WA1 P.1.wire.length cw1, .slice TA1 P.1.tales.length ct1] 59)) := by rw [← hv]; exact Blk.new _ _
  rw [hv]; clear hv HBc; have HBc := HBv; clear HBv; have HL1 := Lib.hid (HL1.out.below hbv); clear hbv; go_wp2_with fail
  refine (rplay_py A c ds w3 (HC.out.below HBc.out (Nat.le_refl _))).mono ?_; rintro r w4 ⟨EA2, ce2, WA2, cw2, TA2, ct2, es2, zs2, rfl, hL, hB, _⟩; rw [HP.out] at hL ⊢; have HL2 := Lib.hid hL; have HBc : Hid (Below w.heap.size w w4) := below_in HBc.out hB; have HM1 := Lib.hid (HM1.out.below hB HM1.out.lt); have HL1 := Lib.hid (HL1.out.below hB); clear hL hB; unfold lnV; go_upto_region 5 with fail
  obtain ⟨w5, hv⟩ : ∃ v, w4.alloc (.cells #[.slice EA2 P.1.ends.length ce2, .slice WA2 P.1.wire.length cw2, .slice TA2 P.1.tales.length ct2] 59) = v := ⟨_, rfl⟩; have hbv : Below w4.heap.size w4 w5 := by rw [← hv]; exact (Below.refl _ w4).alloc (Nat.le_refl _) _
  have HBv : Hid (Below w.heap.size w w5) := below_in HBc.out hbv; have HM2 : Hid (Blk w5 w4.heap.size (.cells #[.slice EA2 P.1.ends.length ce2, .slice WA2 P.1.wire.length cw2, .slice TA2 P.1.tales.length ct2] 59)) := by rw [← hv]; exact Blk.new _ _
  rw [hv]; clear hv HBc; have HBc := HBv; clear HBv; have HM1 := Lib.hid (HM1.out.below hbv HM1.out.lt); have HL1 := Lib.hid (HL1.out.below hbv); have HL2 := Lib.hid (HL2.out.below hbv); clear hbv; go_wp2_with fail
  refine (quiet_any A c ds OA oc order w5 (HC.out.below HBc.out (Nat.le_refl _)) (HO.out.below HBc.out (Nat.le_refl _))).mono ?_; rintro r w6 ⟨EA3, ce3, WA3, cw3, TA3, ct3, es3, zs3, rfl, hL, hB, _⟩; rw [HQ.out] at hL ⊢; have HL3 := Lib.hid hL; have HBc : Hid (Below w.heap.size w w6) := below_in HBc.out hB; have HM1 := Lib.hid (HM1.out.below hB HM1.out.lt); have HL1 := Lib.hid (HL1.out.below hB); have HM2 := Lib.hid (HM2.out.below hB HM2.out.lt); have HL2 := Lib.hid (HL2.out.below hB); clear hL hB; unfold lnV; go_upto_region 6 with fail
  obtain ⟨w7, hv⟩ : ∃ v, w6.alloc (.cells #[.slice EA3 Q.1.ends.length ce3, .slice WA3 Q.1.wire.length cw3, .slice TA3 Q.1.tales.length ct3] 59) = v := ⟨_, rfl⟩; have hbv : Below w6.heap.size w6 w7 := by rw [← hv]; exact (Below.refl _ w6).alloc (Nat.le_refl _) _
  have HBv : Hid (Below w.heap.size w w7) := below_in HBc.out hbv; have HM3 : Hid (Blk w7 w6.heap.size (.cells #[.slice EA3 Q.1.ends.length ce3, .slice WA3 Q.1.wire.length cw3, .slice TA3 Q.1.tales.length ct3] 59)) := by rw [← hv]; exact Blk.new _ _
  rw [hv]; clear hv HBc; have HBc := HBv; clear HBv; have HM1 := Lib.hid (HM1.out.below hbv HM1.out.lt); have HL1 := Lib.hid (HL1.out.below hbv); have HM2 := Lib.hid (HM2.out.below hbv HM2.out.lt); have HL2 := Lib.hid (HL2.out.below hbv); have HL3 := Lib.hid (HL3.out.below hbv); clear hbv; go_wp2_with fail
  refine (rquiet_any A c ds OA oc order w7 (HC.out.below HBc.out (Nat.le_refl _)) (HO.out.below HBc.out (Nat.le_refl _))).mono ?_; rintro r w8 ⟨EA4, ce4, WA4, cw4, TA4, ct4, es4, zs4, rfl, hL, hB, _⟩; rw [HQ.out] at hL ⊢; have HL4 := Lib.hid hL; have HBc : Hid (Below w.heap.size w w8) := below_in HBc.out hB; have HM1 := Lib.hid (HM1.out.below hB HM1.out.lt); have HL1 := Lib.hid (HL1.out.below hB); have HM2 := Lib.hid (HM2.out.below hB HM2.out.lt); have HL2 := Lib.hid (HL2.out.below hB); have HM3 := Lib.hid (HM3.out.below hB HM3.out.lt); have HL3 := Lib.hid (HL3.out.below hB); clear hL hB; unfold lnV; go_upto_region 7 with fail
  obtain ⟨w9, hv⟩ : ∃ v, w8.alloc (.cells #[.slice EA4 Q.1.ends.length ce4, .slice WA4 Q.1.wire.length cw4, .slice TA4 Q.1.tales.length ct4] 59) = v := ⟨_, rfl⟩; have hbv : Below w8.heap.size w8 w9 := by rw [← hv]; exact (Below.refl _ w8).alloc (Nat.le_refl _) _
  have HBv : Hid (Below w.heap.size w w9) := below_in HBc.out hbv; have HM4 : Hid (Blk w9 w8.heap.size (.cells #[.slice EA4 Q.1.ends.length ce4, .slice WA4 Q.1.wire.length cw4, .slice TA4 Q.1.tales.length ct4] 59)) := by rw [← hv]; exact Blk.new _ _
  rw [hv]; clear hv HBc; have HBc := HBv; clear HBv; have HM1 := Lib.hid (HM1.out.below hbv HM1.out.lt); have HL1 := Lib.hid (HL1.out.below hbv); have HM2 := Lib.hid (HM2.out.below hbv HM2.out.lt); have HL2 := Lib.hid (HL2.out.below hbv); have HM3 := Lib.hid (HM3.out.below hbv HM3.out.lt); have HL3 := Lib.hid (HL3.out.below hbv); have HL4 := Lib.hid (HL4.out.below hbv); clear hbv; obtain ⟨x0, x1, x2, xl⟩ := Blk.d3 HM1.out; obtain ⟨y0, y1, y2, yl⟩ := Blk.d3 HM2.out; have q1 : (P.2 == P.2) = true := by simp
  have q2 : (Q.2.1 == Q.2.1) = true := by simp
  have q3 : (Q.2.2 == Q.2.2) = true := by simp
  go_wp2_with fail
  refine (same_line P.1 0 EA1 ce1 WA1 cw1 TA1 ct1 es1 zs1 0 EA2 ce2 WA2 cw2 TA2 ct2 es2 zs2 w9 (HL1.out.mono (Nat.zero_le _)) (HL2.out.mono (Nat.zero_le _))).mono ?_; rintro r wa ⟨rfl, hB⟩; have HBc : Hid (Below w.heap.size w wa) := below_in HBc.out hB; have HM3 := Lib.hid (HM3.out.below hB HM3.out.lt); have HL3 := Lib.hid (HL3.out.below hB); have HM4 := Lib.hid (HM4.out.below hB HM4.out.lt); have HL4 := Lib.hid (HL4.out.below hB); clear hB x0 x1 x2 xl y0 y1 y2 yl; obtain ⟨x0, x1, x2, xl⟩ := Blk.d3 HM3.out; obtain ⟨y0, y1, y2, yl⟩ := Blk.d3 HM4.out; go_wp2_with fail
  refine (same_line Q.1 0 EA3 ce3 WA3 cw3 TA3 ct3 es3 zs3 0 EA4 ce4 WA4 cw4 TA4 ct4 es4 zs4 wa (HL3.out.mono (Nat.zero_le _)) (HL4.out.mono (Nat.zero_le _))).mono ?_; rintro r wb ⟨rfl, hB⟩; have HBc : Hid (Below w.heap.size w wb) := below_in HBc.out hB; clear hB x0 x1 x2 xl y0 y1 y2 yl; go_wp2_with fail
  refine (works_any wb).mono ?_; rintro r w2 ⟨rfl, hB2⟩; have HB2 : Hid (Below w.heap.size w w2) := below_in HBc.out hB2; go_wp2; go_ret; exact ⟨rfl, HB2.out⟩
end Go.Proofs.Ytejabnoidhlfaaa
namespace Go.Proofs.Ytejabnoidhlfaaa
open Go.RowKit Go.ChangeShapes Go.WideShapes Go.ChangeAt
section
variable {H : Type} {enc : TypeId × Value → H} {P : Program} {w : World}
def sz (P : Program) (t : TypeId) (d : DataW H) : Prop := ∀ n ∈ d.weights P t, n ≤ reachBytes
theorem weightsAll_mem {e : TypeId} : ∀ {ds : List (DataW H)} {d : DataW H} {n : Nat}, d ∈ ds → n ∈ d.weights P e → n ∈ DataW.weightsAll P e ds
 | [], _, _, h, _ => by cases h
 | d0 :: ds, d, n, h, hn => by
  simp only [DataW.weightsAll, List.mem_append]; rcases List.mem_cons.1 h with rfl | h
  ·exact .inl hn
  ·exact .inr (weightsAll_mem h hn)
theorem sz_elem {t e : TypeId} {xs ys : List (DataW H)} {d : DataW H} (ht : P.underlying t = some (.slice e)) (h : sz P t (.slice xs ys)) (hd : d ∈ xs ∨ d ∈ ys) : sz P e d := by
 intro n hn; refine h n ?_; simp only [DataW.weights, ht]; refine List.mem_cons_of_mem _ (List.mem_append.2 ?_); rcases hd with hd | hd
 ·exact .inl (weightsAll_mem hd hn)
 ·exact .inr (weightsAll_mem hd hn)
theorem sz_len {t e : TypeId} {xs ys : List (DataW H)} (ht : P.underlying t = some (.slice e)) (h : sz P t (.slice xs ys)) : (xs.length + ys.length) * P.bytesOf e ≤ reachBytes := by
 refine h _ ?_; simp only [DataW.weights, ht]; exact List.mem_cons_self ..
theorem list_of {α : Type} {p : Nat → α → Prop} : ∀ n : Nat, (∀ i, i < n → ∃ x, p i x) → ∃ xs : List α, xs.length = n ∧ ∀ i x, xs[i]? = some x → p i x
 | 0, _ => ⟨[], rfl, by simp⟩
 | n + 1, h => by
  obtain ⟨xs, hl, hx⟩ := list_of n fun i hi => h i (by omega); obtain ⟨y, hy⟩ := h n (by omega); refine ⟨xs ++ [y], by simp [hl], fun i x hi => ?_⟩; rcases Nat.lt_or_ge i n with h1 | h1
  ·rw [List.getElem?_append_left (by omega)] at hi; exact hx i x hi
  ·rw [List.getElem?_append_right (by omega), hl] at hi; obtain rfl : i = n := by
    have := (List.getElem?_eq_some_iff.1 hi).1; simp at this; omega
   simp at hi; subst hi; exact hy
theorem add_at (b off j : Nat) : (⟨b, off, none⟩ : Addr).add j = ⟨b, off + j, none⟩ := by
 unfold Addr.add; by_cases h : j = 0
 ·simp [h]
 ·simp [h]
theorem cell_block {a : Addr} {v : Value} (h : w.cell? a = some v) : a.block < w.heap.size := by
 rcases Nat.lt_or_ge a.block w.heap.size with hlt | hge
 ·exact hlt
 ·exfalso; have e : w.heap[a.block]? = none := Array.getElem?_eq_none hge; unfold World.cell? at h; rw [e] at h; cases h
theorem open_elems {α : Type} {t e : TypeId} {k bytes : Nat} (f : α → List Value) (Q : α → Prop) (hf : ∀ x, (f x).length = k) (ht : P.underlying t = some (.slice e)) (hc : P.cellsOf e = k) (hb : P.bytesOf e = bytes) (hkb : k * 8 ≤ bytes) (hk : 0 < k)
  (rdE : ∀ fuel cs d p, DataW.trod enc P w 0 (fun _ => true) true fuel e cs = some (d, p) → sz P e d → ∃ x, cs = f x ∧ Q x)
  {fuel : Nat} {v : Value} {d : DataW H} {p : List MemPlace} (h : DataW.trod enc P w 0 (fun _ => true) true fuel t [v] = some (d, p)) (hs : sz P t d) :
  ∃ (A : Option Addr) (xs : List α) (c : Nat), v = .slice A xs.length c ∧ Cells w A (xs.flatMap f) ∧ (∀ x ∈ xs, Q x) ∧ (A = none → xs = [] ∧ c = 0) := by
 rcases Go.Deep.open_slice ht h with ⟨hcs, _⟩ | ⟨a, len, cap, m, n, D, Pl, hcs, _, hl, hm, hmm, hx, hE⟩
 ·injection hcs with hcs _; exact ⟨none, [], 0, hcs, Cells.nil _ _, fun x hx => (by cases hx), fun _ => ⟨rfl, rfl⟩⟩
 ·injection hcs with hcs _; obtain rfl : m = cap := by simpa using hmm
  injection hx with hd _; subst hd; have hlen := sz_len ht hs; simp only [List.length_map, List.length_range] at hlen; rw [hb, Nat.add_sub_cancel' hl] at hlen; have hel : ∀ i, i < len → ∃ x, w.cells? 0 (a.add (i * k)) k = some (f x) ∧ Q x := by
   intro i hi; obtain ⟨cs', h1, h2⟩ := hE i (by omega); rw [hc] at h1; obtain ⟨x, rfl, hq⟩ := rdE _ _ _ _ h2 (sz_elem ht hs (.inl (List.mem_map.2 ⟨i, List.mem_range.2 hi, rfl⟩))); exact ⟨x, h1, hq⟩
  obtain ⟨xs, hxl, hxs⟩ := list_of len hel; have hcellx : ∀ i x j u, xs[i]? = some x → (f x)[j]? = some u → w.cell? (a.add (i * k + j)) = some u := by
   intro i x j u hi hj; obtain ⟨_, _, hcell⟩ := World.cells?_some (hxs i x hi).1; have hjk : j < k := by rw [← hf x]; exact (List.getElem?_eq_some_iff.1 hj).1
   rw [← Go.Deep.add_add, hcell j hjk, hj]
  refine ⟨some a, xs, m, by rw [hxl]; exact hcs, ?_, fun x hx => ?_, fun h => (by cases h)⟩
  ·have hbound : (xs.flatMap f).length ≤ 17592186043904 := by
    rw [flat_len hf, hxl]; have h1 : len * (k * 8) ≤ len * bytes := Nat.mul_le_mul_left _ hkb; have h2 : len * bytes ≤ m * bytes := Nat.mul_le_mul_right _ hl; have h3 : len * k * 8 = len * (k * 8) := Nat.mul_assoc _ _ _; unfold reachBytes at hlen; omega
   cases hxe : xs with
   | nil =>
    exact ⟨by simp, 0, 0, by omega, fun hn => absurd rfl hn, fun k v hv => by simp at hv⟩
   | cons x0 xr =>
    have h0 : xs[0]? = some x0 := by rw [hxe]; rfl
    obtain ⟨u, hu⟩ : ∃ u, (f x0)[0]? = some u := ⟨_, List.getElem?_eq_getElem (by rw [hf]; exact hk)⟩; have hc0 := hcellx 0 x0 0 u h0 hu; rw [Nat.zero_mul, Nat.zero_add] at hc0; have ha0 : a.add 0 = a := by unfold Addr.add; simp
    rw [ha0] at hc0; have hsp := World.cell?_spot hc0; have hbk := cell_block hc0; obtain ⟨b, off, spot⟩ := a; simp only at hsp hbk; subst hsp; rw [← hxe]; refine ⟨hbound, b, off, by omega, fun _ => ⟨rfl, hbk⟩, fun j v hv => ?_⟩; have hjl : j < (xs.flatMap f).length := (List.getElem?_eq_some_iff.1 hv).1; rw [flat_len hf] at hjl; have hj : j = (j / k) * k + j % k := by rw [Nat.mul_comm]; exact (Nat.div_add_mod j k).symm
    have hjm : j % k < k := Nat.mod_lt _ hk; rw [hj, flat_get hf xs (j / k) (j % k) hjm] at hv; obtain ⟨x, hx1, hx2⟩ := Option.bind_eq_some_iff.1 hv; have := hcellx _ _ _ _ hx1 hx2; rw [← hj, add_at] at this; exact this
  ·obtain ⟨i, hi, rfl⟩ := List.mem_iff_getElem.1 hx; exact (hxs i _ (List.getElem?_eq_getElem hi)).2
end
section
variable {H : Type} {enc : TypeId × Value → H} {w : World}
theorem c3 : Try.prog.cellsOf 3 = 1 := by kernel_rfl
theorem c4 : Try.prog.cellsOf 4 = 1 := by kernel_rfl
theorem c9 : Try.prog.cellsOf 9 = 1 := by kernel_rfl
theorem c77 : Try.prog.cellsOf 77 = 4 := by kernel_rfl
theorem b77 : Try.prog.bytesOf 77 = 40 := by kernel_rfl
theorem b3 : Try.prog.bytesOf 3 = 8 := by kernel_rfl
theorem rdInt (fuel : Nat) (cs : List Value) (d : DataW H) (p : List MemPlace) (h : DataW.trod enc Try.prog w 0 (fun _ => true) true fuel 3 cs = some (d, p)) : ∃ x : Int, cs = [.int .i64 x] ∧ inI x ∧ (Lit.int .i64 x).wf = true := by
 obtain ⟨n, hc, _, hw⟩ := DataW.trod_int Try.underlying3 h; have h2 := hw; simp [Lit.wf] at h2; have e1 : IntKind.i64.min = -9223372036854775808 := rfl; have e2 : IntKind.i64.max = 9223372036854775807 := rfl; exact ⟨n, hc, by unfold inI; omega, hw⟩
theorem rdStr (fuel : Nat) (cs : List Value) (d : DataW H) (p : List MemPlace) (h : DataW.trod enc Try.prog w 0 (fun _ => true) true fuel 9 cs = some (d, p)) : ∃ s, cs = [.string s] := by
 obtain ⟨s, hc, _, _⟩ := DataW.trod_string Try.underlying9 h; exact ⟨s, hc⟩
variable {r : Reach} {b0 : Nat}
end
theorem sz_arg {H : Type} {P : Program} {ts : List TypeId} {ds : List (DataW H)} (h : (DataW.weightsEach P ts ds).all (· ≤ reachBytes) = true) {j : Nat} {t : TypeId} {d : DataW H} (ht : ts[j]? = some t) (hd : ds[j]? = some d) : sz P t d := by
 intro n hn; have := List.all_eq_true.1 h _ (DataW.weights_mem_each ht hd n hn); simpa using this
section
variable {H : Type} {enc : TypeId × Value → H} {w : World} {r : Reach} {b0 : Nat}
theorem trod_struct4 {P : Program} {base : Nat} {spare : Nat → Bool} {held : Bool} {t : TypeId} {f0 f1 f2 f3 : Field} {fuel : Nat} {cs : List Value} {x : DataW H × List MemPlace} (ht : P.underlying t = some (.struct #[f0, f1, f2, f3])) (h : DataW.trod enc P w base spare held fuel t cs = some x) :
  ∃ y0 y1 y2 y3 n, cs.length = P.cellsOf t ∧ DataW.trod enc P w base spare held n f0.type ((cs.drop f0.offset).take (P.cellsOf f0.type)) = some y0 ∧ DataW.trod enc P w base spare held n f1.type ((cs.drop f1.offset).take (P.cellsOf f1.type)) = some y1 ∧
   DataW.trod enc P w base spare held n f2.type ((cs.drop f2.offset).take (P.cellsOf f2.type)) = some y2 ∧ DataW.trod enc P w base spare held n f3.type ((cs.drop f3.offset).take (P.cellsOf f3.type)) = some y3 := by
 obtain ⟨xs, n, _, rfl, hl, hlen, hf⟩ := DataW.trod_struct ht h; match xs, hlen with
 | [y0, y1, y2, y3], _ => exact ⟨y0, y1, y2, y3, n, hl, by simpa using hf 0 f0 rfl, by simpa using hf 1 f1 rfl, by simpa using hf 2 f2 rfl, by simpa using hf 3 f3 rfl⟩
theorem four_cells {cs : List Value} (h : cs.length = 4) : ∃ a b c d, cs = [a, b, c, d] := by
 match cs, h with
 | [a, b, c, d], _ => exact ⟨a, b, c, d, rfl⟩
theorem c75 : Try.prog.cellsOf 75 = 1 := by kernel_rfl
theorem rdDd (fuel : Nat) (cs : List Value) (d : DataW H) (p : List MemPlace) (h : DataW.trod enc Try.prog w 0 (fun _ => true) true fuel 77 cs = some (d, p)) : ∃ x : Dd, cs = ddC x ∧ True := by
 obtain ⟨y0, y1, y2, y3, n, hl, h0, h1, h2, h3⟩ := trod_struct4 Try.underlying77 h; rw [c77] at hl; obtain ⟨a, b, c, e, rfl⟩ := four_cells hl; simp only [c75, c3, c9, List.drop_zero, List.take_succ_cons, List.take_zero, List.drop_succ_cons] at h0 h1 h2 h3; obtain ⟨x0, e0, _, _⟩ := DataW.trod_int Try.underlying75 h0; obtain ⟨x1, e1, _⟩ := rdInt _ _ _ _ h1; obtain ⟨x2, e2, _⟩ := rdInt _ _ _ _ h2; obtain ⟨x3, e3⟩ := rdStr _ _ _ _ h3; injection e0 with e0 _; injection e1 with e1 _; injection e2 with e2 _; injection e3 with e3 _; subst e0 e1 e2 e3; exact ⟨⟨x0, x1, x2, x3⟩, rfl, trivial⟩
theorem arg_dd {v : Value} {d : DataW H} {p : List MemPlace} (hv : Value.okWide Try.prog w r b0 52 v) (h : DataW.Trod enc Try.prog w 0 (fun _ => true) true 52 v d p) (hs : sz Try.prog 52 d) :
  ∃ (A : Option Addr) (l : List Dd) (c : Nat), v = .slice A l.length c ∧ Cells w A (dds l) := by
 obtain ⟨a0, len, cap, rfl⟩ := okWide_slice Try.underlying52 hv; obtain ⟨fuel, hf⟩ := h; obtain ⟨A, l, c, h1, h2, _, _⟩ := open_elems ddC (fun _ => True) (fun _ => rfl) Try.underlying52 c77 b77 (by decide) (by decide) (fun _ _ _ _ h _ => rdDd _ _ _ _ h) hf hs; exact ⟨A, l, c, h1, h2⟩
theorem ints_flat : ∀ xs : List Int, ints xs = xs.flatMap fun x : Int => [Value.int .i64 x]
 | [] => rfl
 | x :: xs => by rw [List.flatMap_cons, ← ints_flat xs]; rfl
theorem arg_ints {v : Value} {d : DataW H} {p : List MemPlace} (hv : Value.okWide Try.prog w r b0 53 v) (h : DataW.Trod enc Try.prog w 0 (fun _ => true) true 53 v d p) (hs : sz Try.prog 53 d) :
  ∃ (A : Option Addr) (l : List Int) (c : Nat), v = .slice A l.length c ∧ Cells w A (ints l) := by
 obtain ⟨a0, len, cap, rfl⟩ := okWide_slice Try.underlying53 hv; obtain ⟨fuel, hf⟩ := h; obtain ⟨A, l, c, h1, h2, _, _⟩ := open_elems (fun x : Int => [Value.int .i64 x]) (fun _ => True) (fun _ => rfl) Try.underlying53 c3 b3 (by decide) (by decide) (fun _ _ _ _ h _ => by obtain ⟨x, hx, _⟩ := rdInt _ _ _ _ h; exact ⟨x, hx, trivial⟩) hf hs; exact ⟨A, l, c, h1, by rw [ints_flat]; exact h2⟩
end
end Go.Proofs.Ytejabnoidhlfaaa
