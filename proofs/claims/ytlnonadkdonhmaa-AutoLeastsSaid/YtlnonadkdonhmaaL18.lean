/- Contracts and lemmas that a claim of this seat uses. -/
import Derived.Test.YtlnonadkdonhmaaL17
import Derived.Test.YtlnonadkdonhmaaL15
import Derived.Test.YtlnonadkdonhmaaL4

/- Contract: class of the reference. -/
namespace Go.Proofs.Ytlnonadkdonhmaa
open Go.RowKit Go.Maps

theorem clsI_hit {m : Mach} {hs : List Int} {x h : Int} {i : Nat} (hno : ∀ (j : Nat) (y : Int), j < i → hs[j]? = some y → tv (roundsA m) y.toNat x.toNat ≠ 0) (hi : hs[i]? = some h) (h0 : tv (roundsA m) h.toNat x.toNat = 0) : clsI m hs x = (i : Int) := by
  unfold clsI
  have hlt := (List.getElem?_eq_some_iff.1 hi).1
  have hx : hs[i] = h := by rw [List.getElem?_eq_getElem hlt] at hi; injection hi
  have e : hs.findIdx? (fun h => tv (roundsA m) h.toNat x.toNat == 0) = some i := by
    rw [List.findIdx?_eq_some_iff_getElem]
    refine ⟨hlt, by rw [hx, h0]; rfl, fun j hj => ?_⟩
    have := hno j hs[j] hj (List.getElem?_eq_getElem (by omega))
    simpa using this
  rw [e]
theorem clsI_none {m : Mach} {hs : List Int} {x : Int} (hno : ∀ (j : Nat) (y : Int), j < hs.length → hs[j]? = some y → tv (roundsA m) y.toNat x.toNat ≠ 0) : clsI m hs x = -1 := by
  unfold clsI
  have e : hs.findIdx? (fun h => tv (roundsA m) h.toNat x.toNat == 0) = none := by
    rw [List.findIdx?_eq_none_iff]
    intro y hy
    obtain ⟨j, hj⟩ := List.getElem?_of_mem hy
    have := hno j y (List.getElem?_eq_some_iff.1 hj).1 hj
    simpa using this
  rw [e]
theorem clsI_bd (m : Mach) (hs : List Int) (x : Int) : -1 ≤ clsI m hs x ∧ clsI m hs x ≤ hs.length := by
  unfold clsI
  cases e : hs.findIdx? (fun h => tv (roundsA m) h.toNat x.toNat == 0) with
  | none => simp only; omega
  | some i =>
    have := (List.findIdx?_eq_some_iff_getElem.1 e).1
    simp only
    omega
theorem rFold_snoc (m : Mach) (hs xs : List Int) (x : Int) : rFold m hs (xs ++ [x]) = rstep m (rFold m hs xs) x := by
  simp [rFold, List.foldl_append]
theorem rFold_len (m : Mach) (hs : List Int) : ∀ xs : List Int, (rFold m hs xs).1.length = xs.length ∧ (rFold m hs xs).2.length ≤ hs.length + xs.length := by
  have gen : ∀ (xs : List Int) (p : List Int × List Int), (xs.foldl (rstep m) p).1.length = p.1.length + xs.length ∧ (xs.foldl (rstep m) p).2.length ≤ p.2.length + xs.length := by
    intro xs
    induction xs with
    | nil => intro p; simp
    | cons x xs ih =>
      intro p
      have h := ih (rstep m p x)
      have h1 : (rstep m p x).1.length = p.1.length + 1 ∧ (rstep m p x).2.length ≤ p.2.length + 1 := by
        unfold rstep
        split <;> simp
      simp only [List.foldl_cons, List.length_cons]
      omega
  intro xs
  have := gen xs ([], hs)
  simpa [rFold] using this
def fillG (f : Nat → Int) (n k : Nat) : List Int := (List.range k).map f ++ List.replicate (n - k) 0
theorem fillG_set (f : Nat → Int) {n k : Nat} (hk : k < n) : (fillG f n k).set k (f k) = fillG f n (k + 1) := by
  unfold fillG
  rw [List.set_append_right _ _ (by simp), List.length_map, List.length_range, Nat.sub_self, show n - k = (n - (k + 1)) + 1 by omega, List.replicate_succ, List.set_cons_zero, range_map_succ, List.append_assoc]
  rfl
theorem fillG_zero (f : Nat → Int) (n : Nat) : fillG f n 0 = List.replicate n 0 := by simp [fillG]
theorem fillG_all (f : Nat → Int) (n : Nat) : fillG f n n = (List.range n).map f := by simp [fillG]
theorem fillG_get (f : Nat → Int) {n k : Nat} (hk : k < n) : (fillG f n k)[k]? = some 0 := by
  unfold fillG
  rw [List.getElem?_append_right (by simp), List.length_map, List.length_range, Nat.sub_self, show n - k = (n - (k + 1)) + 1 by omega, List.replicate_succ]
  rfl

set_option maxRecDepth 100000 in
set_option maxHeartbeats 2000000 in
theorem class_any (bo : Nat) (bs : List Nat) (m : Mach) (A : Option Addr) (c : Nat) (hs : List Int) (x : Int) (w : World) (hM : MatAt w bo m.length bs (tv (roundsA m))) (hbl : bs.length = m.length) (hA : Cells w A (ints hs)) (hh : InM m hs) (hx : 0 ≤ x ∧ x < (m.length : Int)) (_hm : m.length ≤ 64) :
    Calls Try.prog 114 #[.slice (some ⟨bo, 0, none⟩) m.length m.length, .slice A hs.length c, .int .i64 x] w fun e w' => e = .returned (.int .i64 (clsI m hs x)) ∧ w = w' := by
  have hlr : hs.length ≤ 17592186043904 := by simpa [ints] using hA.1
  obtain ⟨x, rfl⟩ := Int.eq_ofNat_of_zero_le hx.1
  have hxm : x < m.length := by omega
  have HM := Lib.hid hM
  have HH := Lib.hid hh
  have HBL := Lib.hid hbl
  clear hM hh hbl
  go_enter Try.func114, Try.ntmps114
  go_wp2
  go_loopw [11] (fun i wr => ∃ k : Nat, k ≤ hs.length ∧ i = .int .i64 k ∧ wr = w ∧ ∀ (j : Nat) (y : Int), j < k → hs[j]? = some y → tv (roundsA m) y.toNat ((x : Int)).toNat ≠ 0) (fun i _ => hs.length - (intOf i).toNat)
  case atStart => exact ⟨0, Nat.zero_le _, rfl, rfl, fun j y hj => by omega⟩
  case round =>
    obtain ⟨k, hk, rfl, rfl, hno⟩ := hrel
    have HNO := Lib.hid hno
    clear hno
    by_cases hkt : k < hs.length
    · obtain ⟨h, b, o, hr, hb, hix, hc⟩ := ints_at (c := c) hA Try.underlying22 szInt hkt
      have hhb := HH.out h (List.mem_of_getElem? hr)
      obtain ⟨h, rfl⟩ := Int.eq_ofNat_of_zero_le hhb.1
      have hhm : h < m.length := by omega
      obtain ⟨ba, hba, hbal, hca, hcva, _⟩ := HM.out.at_ (i := h) (by rw [HBL.out]; exact hhm)
      have hcx := hcva x hxm
      have hixa := ix_own (b := bo) (n := m.length) (c := m.length) Try.underlying130 sz22 hhm
      have hixb := ix_own (b := ba) (n := m.length) (c := m.length) Try.underlying22 szInt hxm
      have lbo := HM.out.lt
      have HR := Lib.hid hr
      obtain ⟨v, hv⟩ : ∃ v, tv (roundsA m) h x = v := ⟨_, rfl⟩
      rw [hv] at hcx
      have HV := Lib.hid hv
      clear hr hcva hba hv
      by_cases hz : v = 0
      · subst hz
        have HC : Hid (clsI m hs (x : Int) = (k : Int)) := clsI_hit HNO.out HR.out (by rw [Int.toNat_natCast, Int.toNat_natCast]; exact HV.out)
        go_wp2
        go_ret
        exact ⟨by rw [HC.out]; rfl, rfl⟩
      · have hz2 : (v == 0) = false := by simpa using hz
        clear hz
        go_wp2
        go_roundw
        case rel =>
          refine ⟨k + 1, by omega, by go_num, trivial, fun j y hj hy => ?_⟩
          by_cases e : j = k
          · subst e
            rw [HR.out] at hy
            injection hy with hy
            subst hy
            rw [Int.toNat_natCast, Int.toNat_natCast, HV.out]
            simpa using hz2
          · exact HNO.out j y (by omega) hy
        case measure => simp [intOf]; omega
    · obtain rfl : k = hs.length := by omega
      have HC : Hid (clsI m hs (x : Int) = -1) := clsI_none HNO.out
      go_wp2
      go_ret
      exact ⟨by rw [HC.out]; rfl, rfl⟩
end Go.Proofs.Ytlnonadkdonhmaa

/- Contract: Least of the reference. -/
namespace Go.Proofs.Ytlnonadkdonhmaa
open Go.RowKit Go.Maps

theorem ractsTo_len {m : Mach} {row : List AAct} {l : List Int} : ∀ k, k ≤ row.length → (ractsTo m row l k).1.length = k
  | 0, _ => rfl
  | k + 1, h => by
    unfold ractsTo
    rw [List.getElem?_eq_getElem (show k < row.length by omega)]
    simp [ractsTo_len (row := row) (l := l) k (by omega)]
theorem rstep_pre (m : Mach) (p : List Int × List Int) (x : Int) : p.2 <+: (rstep m p x).2 := by
  unfold rstep
  split
  · exact List.prefix_append _ _
  · exact List.prefix_refl _
theorem rFold_pre (m : Mach) (hs xs : List Int) : hs <+: (rFold m hs xs).2 := by
  have gen : ∀ (xs : List Int) (p : List Int × List Int), p.2 <+: (xs.foldl (rstep m) p).2 := by
    intro xs
    induction xs with
    | nil => intro p; exact List.prefix_refl _
    | cons y ys ih => intro p; exact (rstep_pre m p y).trans (ih _)
  exact gen xs ([], hs)
theorem ractsTo_pre (m : Mach) (row : List AAct) (l : List Int) : ∀ k, l <+: (ractsTo m row l k).2
  | 0 => List.prefix_refl _
  | k + 1 => by
    unfold ractsTo
    cases e : row[k]? with
    | none => exact ractsTo_pre m row l k
    | some a => exact (ractsTo_pre m row l k).trans (rFold_pre m _ _)
theorem rleastTo_stay {m : Mach} {k : Nat} (h : (rleastTo m k).2.length ≤ k) : ∀ d, rleastTo m (k + d) = rleastTo m k
  | 0 => rfl
  | d + 1 => by
    rw [← Nat.add_assoc, rleastTo, rleastTo_stay h d, List.getElem?_eq_none (by omega)]
theorem rleastTo_done {m : Mach} {k : Nat} (hk : k ≤ 64) (h : (rleastTo m k).2.length ≤ k) : rleastTo m 64 = rleastTo m k := by
  rw [show (64 : Nat) = k + (64 - k) by omega, rleastTo_stay h]
theorem rleastTo_step {m : Mach} {k : Nat} {s : Int} (h : (rleastTo m k).2[k]? = some s) :
    rleastTo m (k + 1) = ((rleastTo m k).1 ++ [(ractsTo m (rowM m s.toNat) (rleastTo m k).2 (rowM m s.toNat).length).1], (ractsTo m (rowM m s.toNat) (rleastTo m k).2 (rowM m s.toNat).length).2) := by
  rw [rleastTo, h]
theorem map_len_eq {f : Int → Int} {xs ys : List Int} (h : xs.map f = ys) : xs.length = ys.length := by rw [← h, List.length_map]

set_option maxRecDepth 100000 in
set_option maxHeartbeats 16000000 in
theorem RefLeast_any (n : Int) (rs : List Int) (B : Option Addr) (d : Nat) (m : Mach) (w : World) (hM : MachAt w B m) (hf : formedA n rs m = true) :
    Calls Try.prog 68 #[.agg #[.slice B m.length d]] w fun e w' => ∃ A' c' C' d', e = .returned (.tuple #[.agg #[.slice A' (leastM m).length c'], .slice C' (leastC m).length d']) ∧ MachAt w' A' (leastM m) ∧ Cells w' C' (ints (leastC m)) ∧ Below w.heap.size w w' := by
  obtain ⟨hm1, hm64⟩ := formed_len hf
  obtain ⟨W, hW⟩ : ∃ W, (w.alloc (.cells #[.slice B m.length d] 27)).alloc (.cells #[.slice none 0 0] 27) = W := ⟨_, rfl⟩
  have hBW : Below w.heap.size w W := by rw [← hW]; exact ((Below.refl _ w).alloc (Nat.le_refl _) _).alloc (by simp) _
  have hsW : W.heap.size = w.heap.size + 2 := by rw [← hW]; simp
  have b1 : Blk W w.heap.size (.cells #[.slice B m.length d] 27) := by rw [← hW]; exact (Blk.new _ _).alloc _
  have b2 : Blk W (w.heap.size + 1) (.cells #[.slice none 0 0] 27) := by
    rw [← hW]
    have e := Blk.new (w.alloc (.cells #[.slice B m.length d] 27)) (.cells #[.slice none 0 0] 27)
    rw [World.size_alloc] at e
    exact e
  have HF := Lib.hid hf
  have HBW := Lib.hid hBW
  have H1 := Lib.hid b1
  have H2 := Lib.hid b2
  have c2 := b1.cell 0 (v := .slice B m.length d) rfl
  obtain ⟨i0, hi, hz0, hz1, hz2⟩ := info_parts info3
  clear b1 b2 hf hBW
  go_enter Try.func68, Try.ntmps68
  go_wp2_with fail
  clear hW
  refine (far_any n rs B d m W (hM.below HBW.out (Nat.le_refl _)) HF.out).mono ?_
  rintro e V ⟨bo, bs, rfl, hmat, hbsl, hbo, hBV⟩
  have HMAT := Lib.hid hmat
  have HBVW : Hid (Below w.heap.size w V) := HBW.out.trans (hBV.mono (by omega))
  have HGV : Hid (Blk V w.heap.size (.cells #[.slice B m.length d] 27)) := H1.out.below hBV (by omega)
  have HRV : Hid (Blk V (w.heap.size + 1) (.cells #[.slice none 0 0] 27)) := H2.out.below hBV (by omega)
  have hsV := hBV.size
  have HBSL := Lib.hid hbsl
  clear hmat hbsl hBV c2
  obtain ⟨w6, hw6⟩ : ∃ w6 : World, w6 = (V.alloc (.cells #[.int .i64 0] 3)).alloc (.cells #[.slice none 0 0] 27) := ⟨_, rfl⟩
  obtain ⟨B0, hB0⟩ : ∃ B0, B0 = V.heap.size := ⟨_, rfl⟩
  have HST : Hid (RSt V (V.heap.size + 1) B0 [0] [] [] (.slice (some ⟨V.heap.size, 0, none⟩) 1 1) (.slice none 0 0) (.slice none 0 0) w6) := by
    rw [hw6]
    refine Lib.hid ⟨?_, ?_, MachOwn.nil _ _ _, ActsOwn.nil _ _ _, ((Below.refl _ V).alloc (by omega) _).alloc (by simp <;> omega) _, by omega, by omega⟩
    · have e := (lit_own V (.int .i64 0) 3 B0 (by omega)).alloc (.cells #[.slice none 0 0] 27)
      simpa [ints] using e
    · have e := Blk.new (V.alloc (.cells #[.int .i64 0] 3)) (.cells #[.slice none 0 0] 27)
      simpa using e
  go_wp2
  rw [← hw6]
  clear hw6
  have HLK : Hid (∀ k, (rleastTo m k).2.length ≤ 64 ∧ InM m (rleastTo m k).2) := fun k => by
    obtain ⟨_, e2, e3⟩ := rleastTo_eq HF.out k
    exact ⟨by rw [map_len_eq e2]; exact ((leastTo_ok HF.out k).sets hm64).len, e3⟩
  have HROWS : Hid (∀ s : Nat, s < m.length → RowIn m (rowM m s) ∧ (rowM m s).length ≤ 6 ∧ ∀ a ∈ rowM m s, a.next.length ≤ 64) := by
    intro s hs
    have h6 := (grpOk_true (formed_grp HF.out)).2.1
    have hl := rowM_len HF.out hs
    refine ⟨rowIn_of HF.out hs, by omega, fun a ha => ?_⟩
    obtain ⟨c, hc⟩ := List.getElem?_of_mem ha
    exact next_len (act_ok HF.out hs hc)
  have HAK : Hid (∀ (s : Nat) (l : List Int) (k : Nat), s < m.length → InM m l → (l.map (fsT m)).Nodup → InM m (ractsTo m (rowM m s) l k).2) := fun s l k hs hl _ =>
    (ractsTo_eq HF.out (row_sim HF.out (Sim.refl HF.out hs)) (rowIn_of HF.out hs) hl k).2.2
  have HAL : Hid (∀ (s : Nat) (k k2 : Nat), s < m.length → (ractsTo m (rowM m s) (rleastTo m k).2 k2).2.length ≤ 64 ∧ InM m (ractsTo m (rowM m s) (rleastTo m k).2 k2).2) := fun s k k2 hs => by
    obtain ⟨_, e2, e3⟩ := rleastTo_eq HF.out k
    obtain ⟨_, f2, f3⟩ := ractsTo_eq HF.out (row_sim HF.out (Sim.refl HF.out hs)) (rowIn_of HF.out hs) e3 k2
    refine ⟨?_, f3⟩
    rw [map_len_eq f2]
    exact ((lactsTo_ok HF.out (rowIn_of HF.out hs) (by rw [e2]; exact leastTo_ok HF.out k) k2).sets hm64).len
  clear HAK
  go_loopw [5, 7] (fun vs i wr => ∃ k : Nat, i = .int .i64 k ∧ k ≤ (rleastTo m k).2.length ∧ ∃ vr, RSt V (V.heap.size + 1) B0 (rleastTo m k).2 (rleastTo m k).1 [] vs (.slice none 0 0) vr wr)
    (fun _ i _ => 64 - (intOf i).toNat)
  case atStart => exact ⟨0, rfl, Nat.zero_le _, _, HST.out⟩
  case round =>
    obtain ⟨k, rfl, hk, vr, hst⟩ := hrel
    obtain ⟨mo, l, HM⟩ : ∃ mo l, Hid (rleastTo m k = (mo, l)) := ⟨_, _, rfl⟩
    have HOK : Hid (l.length ≤ 64 ∧ InM m l) := (by
      have e := HLK.out k
      rw [HM.out] at e; exact e)
    have hll := HOK.out.1
    rw [HM.out] at hk hst
    have hk : k ≤ l.length := hk
    have hst : RSt V (V.heap.size + 1) B0 l mo [] u5 (.slice none 0 0) vr wr := hst
    have HML : Hid (mo.length = k) := (by
      have e1 := (rleastTo_eq HF.out k).1
      obtain ⟨_, e2, _⟩ := rleastTo_eq HF.out k
      have e := leastTo_len (m := m) (k := k) (by rw [← map_len_eq e2, HM.out]; exact hk)
      rw [← e1, HM.out] at e; exact e)
    have hml : mo.length ≤ 64 := by rw [HML.out]; omega
    obtain ⟨As, cs, rfl⟩ := own_fits hst.num
    have HST := Lib.hid hst
    have x3 := (HGV.out.below hst.below (by omega)).cell 0 (v := .slice B m.length d) rfl
    have hszr := hst.below.size
    clear hst
    by_cases hlt : k < l.length
    · obtain ⟨As', cs', hv', hcs⟩ := own_out HST.out.num (by simp [ints]; omega)
      obtain ⟨rfl, rfl⟩ : As = As' ∧ cs = cs' := by injection hv' with h1 _ h3; exact ⟨h1, h3⟩
      obtain ⟨s, b, o, hs, hb, hix, hcx⟩ := ints_at (c := cs) hcs Try.underlying22 szInt hlt
      have hsb := HOK.out.2 s (List.mem_of_getElem? hs)
      obtain ⟨s, rfl⟩ := Int.eq_ofNat_of_zero_le hsb.1
      have hsm : s < m.length := by omega
      obtain ⟨E, f, b2, o2, hb2, hix2, hcx2, hrowA, _, _⟩ := row_at (d := d) hM HF.out hsm
      have HSG : Hid (l[k]? = some (s : Int)) := hs
      have y2 := cell_chain (HBVW.out.trans (HST.out.below.mono (by omega))) hb2 hcx2
      have y3 : b2 < wr.heap.size := by have := (HBVW.out).size; omega
      obtain ⟨row, HROW⟩ : ∃ row, Hid (rowM m s = row) := ⟨_, rfl⟩
      have HRW : Hid (RowIn m row ∧ row.length ≤ 6 ∧ ∀ a ∈ row, a.next.length ≤ 64) := by rw [← HROW.out]; exact HROWS.out s hsm
      have hr6 := HRW.out.2.1
      rw [HROW.out] at hrowA y2
      have HAK : Hid (∀ k2, (ractsTo m row l k2).2.length ≤ 64 ∧ InM m (ractsTo m row l k2).2) := fun k2 => by
        have e := HAL.out s k k2 hsm
        rw [HROW.out, HM.out] at e
        exact e
      clear hv' hcs hs hcx2
      go_wp2
      refine sall (by kernel_rfl) (by kernel_rfl) (fun Kq hKq => ?_)
      repeat still_step
      refine wpStill_nil (hKq _ ?_)
      clear hKq Kq
      have HSTd : Hid (RSt V (V.heap.size + 1) B0 l mo [] (.slice As l.length cs) (.slice none 0 0) vr wr.drew) := HST.out.later (Below.refl _ wr).drew
      obtain ⟨wo, hwo⟩ : ∃ wo : World, wr.drew = wo := ⟨_, rfl⟩
      rw [hwo] at HSTd ⊢
      clear hwo y2 y3 x3 hix hcx hix2
      go_wp2
      go_loopw [5, 8, 35] (fun vs va i wr => ∃ q : Nat, i = .int .i64 q ∧ q ≤ row.length ∧ RSt V (V.heap.size + 1) B0 (ractsTo m row l q).2 mo (ractsTo m row l q).1 vs va vr wr) (fun _ _ i _ => row.length - (intOf i).toNat)
      case atStart => exact ⟨0, rfl, Nat.zero_le _, HSTd.out⟩
      case round =>
        obtain ⟨q, rfl, hq, hst2⟩ := hrel
        obtain ⟨acts, l2, HA⟩ : ∃ acts l2, Hid (ractsTo m row l q = (acts, l2)) := ⟨_, _, rfl⟩
        rw [HA.out] at hst2
        have hst2 : RSt V (V.heap.size + 1) B0 l2 mo acts u5 u8 vr wr := hst2
        have HST2 := Lib.hid hst2
        have hal : acts.length = q := by have e := ractsTo_len (m := m) (row := row) (l := l) q hq; rw [HA.out] at e; exact e
        have HOK2 : Hid (l2.length ≤ 64 ∧ InM m l2) := by have e := HAK.out q; rw [HA.out] at e; exact e
        have hl2 := HOK2.out.1
        have hszB2 := hst2.below.size
        clear hst2
        by_cases hqt : q < row.length
        · obtain ⟨a, D, dd, b3, o3, hx, hb3, hix3, hc0, hc1, hD⟩ := acts_at (c := f) hrowA hqt
          have hBr : Below w.heap.size w wr := HBVW.out.trans (HST2.out.below.mono (by omega))
          have k0 := cell_chain hBr hb3 hc0
          have k1 := hBr.cell (p := ⟨b3, o3 + 1, none⟩) hb3
          rw [hc1] at k1
          have hinm : InM m a.next := HRW.out.1 a (List.mem_of_getElem? hx)
          have hal64 : a.next.length ≤ 64 := HRW.out.2.2 a (List.mem_of_getElem? hx)
          obtain ⟨ri, HRI⟩ : ∃ ri, Hid (a.rule = ri) := ⟨_, rfl⟩
          obtain ⟨nx, HN⟩ : ∃ nx, Hid (a.next = nx) := ⟨_, rfl⟩
          rw [HN.out] at hinm hal64 k1 hD
          rw [HRI.out] at k0
          have HX := Lib.hid hx
          obtain ⟨wA, hwA⟩ : ∃ wA, wr.alloc (.cells #[.int .i64 ri, .slice D nx.length dd] 103) = wA := ⟨_, rfl⟩
          have hBA : Below wr.heap.size wr wA := by rw [← hwA]; exact (Below.refl _ wr).alloc (Nat.le_refl _) _
          have hwA0a : wA.heap.size ≤ wr.heap.size + 1 := by rw [← hwA]; simp
          have hwA0b : wr.heap.size + 1 ≤ wA.heap.size := by rw [← hwA]; simp
          have bA : Blk wA wr.heap.size (.cells #[.int .i64 ri, .slice D nx.length dd] 103) := by rw [← hwA]; exact Blk.new _ _
          have x0 := bA.cell 0 (v := .int .i64 ri) rfl
          have x1 := bA.cell 1 (v := .slice D nx.length dd) rfl
          have xl := bA.lt
          have M4 := Lib.hid (HST2.out.later hBA)
          have HDA : Hid (Cells wA D (ints nx)) := hD.below (hBr.trans (hBA.mono (by omega))) (Nat.le_refl _)
          obtain ⟨As2, cs2, rfl⟩ := own_fits HST2.out.num
          have HAW : Hid (ints nx ≠ [] → ∀ p, D = some p → ¬ (Value.slice As2 l2.length cs2).ownBlock = some p.block) := by
            intro hn p hp e
            have h1 := hD.lt hn hp
            have h2 := (M4.out.num.lt _ e).1
            have h3 := (HBVW.out).size
            omega
          have HINM := Lib.hid hinm
          have HVL := Lib.hid M4.out.num.lt
          have HBWA : Hid (Below V.heap.size V wA) := M4.out.below.mono (by omega)
          clear hx hD hBr hc0 hc1 hBA bA hinm
          go_wp2
          clear hwA x0 x1 k0 k1 hix3
          go_loopw [5, 45] (fun vs i wr => ∃ j : Nat, i = .int .i64 j ∧ j ≤ nx.length ∧ ∃ vn, wr.ownsRow B0 3 1 vs (rFold m l2 (nx.take j)).2.length (ints (rFold m l2 (nx.take j)).2) ∧ Blk wr wA.heap.size (.cells #[.int .i64 ri, vn] 103) ∧
              wr.ownsRow (wA.heap.size + 1) 3 1 vn j (ints (rFold m l2 (nx.take j)).1) ∧ (∀ g, vs.ownBlock = some g → (Value.slice As2 l2.length cs2).ownBlock = some g ∨ wA.heap.size < g) ∧ (∀ g, vn.ownBlock = some g → vs.ownBlock ≠ some g) ∧
              Frame (fun b => (Value.slice As2 l2.length cs2).ownBlock = some b) wA wr) (fun _ i _ => nx.length - (intOf i).toNat)
          case atStart =>
            refine ⟨0, rfl, Nat.zero_le _, .slice none 0 0, ?_, Blk.new _ _, World.ownsRow_nil _ _ _ _, fun g hg => .inl hg, fun g hg => (by cases hg), (Frame.refl _ _).alloc _⟩
            exact own_frame M4.out.num ((Frame.refl (fun _ => False) _).alloc _) (fun _ _ h => h)
          case round =>
            obtain ⟨j, rfl, hj, vn, hov, hbx, hon, hloc, hsep, hF⟩ := hrel
            obtain ⟨y3, l3, HP3⟩ : ∃ y3 l3, Hid (rFold m l2 (nx.take j) = (y3, l3)) := ⟨_, _, rfl⟩
            have hl3 : l3.length ≤ 128 := by
              have e := (rFold_len m l2 (nx.take j)).2
              rw [HP3.out, List.length_take] at e
              simp only at e
              omega
            have HIN3 : Hid (InM m l3) := by
              have e := (rFold_eq HF.out (hs := l2) (xs := nx.take j) (fun z hz => HINM.out z (List.mem_of_mem_take hz)) HOK2.out.2).2.2
              rw [HP3.out] at e
              exact e
            rw [HP3.out] at hov hon
            have hov : wr.ownsRow B0 3 1 u5 l3.length (ints l3) := hov
            have hon : wr.ownsRow (wA.heap.size + 1) 3 1 vn j (ints y3) := hon
            have HLOC := Lib.hid hloc
            have HSEP := Lib.hid hsep
            obtain ⟨As3, cs3, rfl⟩ := own_fits hov
            obtain ⟨An, cn, rfl⟩ := own_fits hon
            have hszF := hF.size
            have hbxl := hbx.lt
            clear hloc hsep
            by_cases hjt : j < nx.length
            · obtain ⟨x, b2, o2, hx, hb2, hix2, hcx2⟩ := ints_at (c := dd) (HDA.out.frame hF HAW.out) Try.underlying22 szInt hjt
              have HT : Hid (nx.take (j + 1) = nx.take j ++ [x]) := take_succ_of hx
              have hxb := HINM.out x (List.mem_of_getElem? hx)
              obtain ⟨As4, cs4, hv4, hc4⟩ := own_out hov (by simp [ints]; omega)
              obtain ⟨rfl, rfl⟩ : As3 = As4 ∧ cs3 = cs4 := by injection hv4 with h1 _ h3; exact ⟨h1, h3⟩
              have HMr : Hid (MatAt wr bo m.length bs (tv (roundsA m))) := HMAT.out.below (HBWA.out.trans (hF.below (B := V.heap.size) (fun b e => by have := (HVL.out b e).1; omega) (by have := HBWA.out.size; omega)))
              have HC114 := Lib.hid (class_any bo bs m As3 cs3 l3 x wr HMr.out HBSL.out hc4 HIN3.out hxb hm64)
              obtain ⟨kv, HK⟩ : ∃ kv, Hid (clsI m l3 x = kv) := ⟨_, rfl⟩
              have hkb := clsI_bd m l3 x
              rw [HK.out] at hkb
              clear hx hxb hv4 hc4
              by_cases hkn : kv < 0
              · have HRS : Hid (rstep m (y3, l3) x = (y3 ++ [(l3.length : Int)], l3 ++ [x])) := by
                  show _ = _
                  unfold rstep
                  rw [if_pos (by simp only; rw [HK.out]; exact hkn)]
                have tok1 : True := trivial
                go_wp2_with (first
                  | (go_at_call 114; go_must (refine HC114.out.mono ?_); rintro e w1 ⟨rfl, rfl⟩; rw [HK.out])
                  | (at_builtin; have _t := tok1; refine wpList_app1' rInt _ rfl _ _ rfl hov rfl [_] 1 rfl rfl (by simp [Value.oneCell']) (by omega) (by omega) ?_; intro v5 w5 ho5 hB5 hg5 hloc5; have hF5 := Frame.of_grown hg5; have hF5s := hF5.size; have bx5 := hbx.frame hF5 (fun e => own_ne hov hbx (by decide) e); have k1 := bx5.cell 1 (v := .slice An j cn) rfl; have hon5 := own_frame hon hF5 (fun g hg e => HSEP.out g hg e); have HLOC5 := Lib.hid hloc5; clear hloc5 tok1 _t)
                  | (at_builtin; go_must (refine wpList_app1' rInt _ rfl _ _ rfl hon5 rfl [_] 1 rfl rfl (by simp [Value.oneCell']) (by omega) (by omega) ?_); intro v6 w6 ho6 hB6 hg6 hloc6; obtain ⟨g7, cap7, rfl⟩ := ownsRow_succ ho6; have bx6 := bx5.grown hg6 (own_ne hon5 bx5 (by decide)); have k2 := bx6.cell 1 (v := .slice An j cn) rfl; have k3 := bx6.free 1))
                go_roundw
                case rel =>
                  have hset : Frame (fun b => b = wA.heap.size) w6 (w6.setCell ⟨wA.heap.size, 1, none⟩ (.slice (some ⟨g7, 0, none⟩) (j + 1) cap7)) := (Frame.refl (fun b => b = wA.heap.size) w6).setCell (p := ⟨wA.heap.size, 1, none⟩) (.inl rfl) _
                  have hFg := Frame.of_grown hg6
                  have q1 : ∀ g, v5.ownBlock = some g → (Value.slice An j cn).ownBlock ≠ some g := by
                    intro g hg e
                    rcases HLOC5.out g hg with h1 | h1
                    · exact HSEP.out g e h1
                    · have := (hon.lt g e).2; omega
                  have ho5' := own_frame (own_frame ho5 hFg q1) hset (fun g hg e => own_ne (own_frame ho5 hFg q1) bx6 (by decide) (by rw [hg, e]))
                  have ho6' := own_frame ho6 hset (fun g hg e => own_ne ho6 bx6 (by decide) (by rw [hg, e]))
                  refine ⟨j + 1, by go_num, by omega, .slice (some ⟨g7, 0, none⟩) (j + 1) cap7, ?_, bx6.set 1 _, ?_, ?_, ?_, ?_⟩
                  · rw [HT.out, rFold_snoc, HP3.out, HRS.out]; simpa [ints] using ho5'
                  · rw [HT.out, rFold_snoc, HP3.out, HRS.out]; simpa [ints] using ho6'
                  · intro g hg
                    rcases HLOC5.out g hg with h1 | h1
                    · exact HLOC.out g h1
                    · exact .inr (by omega)
                  · intro g hg e
                    rcases hloc6 g hg with h1 | h1
                    · exact q1 g e h1
                    · have := (ho5.lt g e).2; omega
                  · refine ((hF.trans hF5 ?_).trans hFg ?_).trans hset ?_
                    · intro b3 hb3 e
                      rcases HLOC.out b3 e with h1 | h1
                      · exact h1
                      · omega
                    · intro b3 hb3 e
                      have := (hon.lt b3 e).1; omega
                    · intro b3 hb3 e; omega
                case measure => simp [intOf]; omega
              · have HRS : Hid (rstep m (y3, l3) x = (y3 ++ [kv], l3)) := by
                  show _ = _
                  unfold rstep
                  rw [if_neg (by simp only; rw [HK.out]; exact hkn)]
                  simp only [HK.out]
                have ho5 := hov
                have hF5 : Frame (fun b => (Value.slice As3 l3.length cs3).ownBlock = some b) wr wr := Frame.refl _ _
                have bx5 := hbx
                have k1 := bx5.cell 1 (v := .slice An j cn) rfl
                have hon5 := hon
                have HLOC5 : Hid (∀ g, (Value.slice As3 l3.length cs3).ownBlock = some g → (Value.slice As3 l3.length cs3).ownBlock = some g ∨ wr.heap.size ≤ g) := fun g h => .inl h
                have hF5s := hF5.size
                go_wp2_with (first
                  | (go_at_call 114; go_must (refine HC114.out.mono ?_); rintro e w1 ⟨rfl, rfl⟩; rw [HK.out])
                  | (at_builtin; go_must (refine wpList_app1' rInt _ rfl _ _ rfl hon5 rfl [_] 1 rfl rfl (by simp [Value.oneCell']) (by omega) (by omega) ?_); intro v6 w6 ho6 hB6 hg6 hloc6; obtain ⟨g7, cap7, rfl⟩ := ownsRow_succ ho6; have bx6 := bx5.grown hg6 (own_ne hon5 bx5 (by decide)); have k2 := bx6.cell 1 (v := .slice An j cn) rfl; have k3 := bx6.free 1))
                go_roundw
                case rel =>
                  have hset : Frame (fun b => b = wA.heap.size) w6 (w6.setCell ⟨wA.heap.size, 1, none⟩ (.slice (some ⟨g7, 0, none⟩) (j + 1) cap7)) := (Frame.refl (fun b => b = wA.heap.size) w6).setCell (p := ⟨wA.heap.size, 1, none⟩) (.inl rfl) _
                  have hFg := Frame.of_grown hg6
                  have q1 : ∀ g, (Value.slice As3 l3.length cs3).ownBlock = some g → (Value.slice An j cn).ownBlock ≠ some g := by
                    intro g hg e
                    rcases HLOC5.out g hg with h1 | h1
                    · exact HSEP.out g e h1
                    · have := (hon.lt g e).2; omega
                  have ho5' := own_frame (own_frame ho5 hFg q1) hset (fun g hg e => own_ne (own_frame ho5 hFg q1) bx6 (by decide) (by rw [hg, e]))
                  have ho6' := own_frame ho6 hset (fun g hg e => own_ne ho6 bx6 (by decide) (by rw [hg, e]))
                  refine ⟨j + 1, by go_num, by omega, .slice (some ⟨g7, 0, none⟩) (j + 1) cap7, ?_, bx6.set 1 _, ?_, ?_, ?_, ?_⟩
                  · rw [HT.out, rFold_snoc, HP3.out, HRS.out]; simpa [ints] using ho5'
                  · rw [HT.out, rFold_snoc, HP3.out, HRS.out]; simpa [ints] using ho6'
                  · intro g hg
                    rcases HLOC5.out g hg with h1 | h1
                    · exact HLOC.out g h1
                    · exact .inr (by omega)
                  · intro g hg e
                    rcases hloc6 g hg with h1 | h1
                    · exact q1 g e h1
                    · have := (ho5.lt g e).2; omega
                  · refine ((hF.trans hF5 ?_).trans hFg ?_).trans hset ?_
                    · intro b3 hb3 e
                      rcases HLOC.out b3 e with h1 | h1
                      · exact h1
                      · omega
                    · intro b3 hb3 e
                      have := (hon.lt b3 e).1; omega
                    · intro b3 hb3 e; omega
                case measure => simp [intOf]; omega
            · obtain rfl : j = nx.length := by omega
              rw [List.take_length] at HP3
              have M5 := Lib.hid (M4.out.each (l' := l3) hF hov (fun g hg => (HLOC.out g hg).imp id (fun h => by omega)))
              have e0 := hbx.cell 0 (v := .int .i64 ri) rfl
              have e1 := hbx.cell 1 (v := .slice An nx.length cn) rfl
              have hyl : y3.length = nx.length := by have e := (rFold_len m l2 nx).1; rw [HP3.out] at e; exact e
              have HYL := Lib.hid hyl
              have hn5 := own_new hon (by simp [ints, hyl]; omega)
              obtain ⟨An', cn', hv5, hn5⟩ := hn5
              obtain ⟨rfl, rfl⟩ : An = An' ∧ cn = cn' := by injection hv5 with h1 _ h3; exact ⟨h1, h3⟩
              obtain ⟨hs5, hl5, ho5, hc5⟩ := M5.out.acts
              have HC5 := Lib.hid hc5
              clear hc5 hv5 hyl
              go_wp2_with (at_builtin; go_must (refine wpList_app1' rAct _ rfl _ _ rfl ho5 rfl [_, _] 1 rfl rfl (by simp [Value.oneCell']) (by omega) (by omega) ?_); intro va6 w6 ho6 hB6 hg6 hloc6)
              go_roundw
              case rel =>
                have hCP : CellsP (fun b => ¬ mutS (V.heap.size + 1) (V.heap.size + 1) (V.heap.size + 1) B0 (.slice As3 l3.length cs3) u8 vr b) wr An (ints y3) := by
                  refine ⟨hn5.1, fun _ a ha hs => ?_⟩
                  have h1 := hn5.2 a ha
                  obtain ⟨_, _, ho1, _⟩ := M4.out.mach
                  obtain ⟨_, _, ho2, _⟩ := M4.out.acts
                  have h4 := M4.out.mc.lt
                  rcases hs with e | e | e | e | e | e | e
                  · omega
                  · omega
                  · omega
                  · omega
                  · exact HSEP.out a.block (by subst ha; rfl) e
                  · have := (ho2.lt _ e).2; omega
                  · have := (ho1.lt _ e).2; omega
                refine ⟨q + 1, by go_num, by omega, ?_⟩
                have hst : ractsTo m row l (q + 1) = (acts ++ [⟨ri, y3⟩], l3) := by
                  rw [ractsTo, HX.out]
                  simp only
                  rw [HA.out, HN.out, HP3.out, HRI.out]
                rw [hst]
                exact M5.out.act (a := ⟨ri, y3⟩) (B := An) (c := cn) hl5 ho5 HC5.out hCP (by unfold actCells; simp only [HYL.out]; exact ho6) hg6 hloc6
              case measure => simp [intOf]; omega
        · obtain rfl : q = row.length := by omega
          obtain ⟨As2, cs2, rfl⟩ := own_fits HST2.out.num
          obtain ⟨hs5, hl5, ho5, hc5⟩ := HST2.out.mach
          obtain ⟨Ar, cr, rfl⟩ := own_fits ho5
          obtain ⟨hs6, hl6, ho6, hc6⟩ := HST2.out.acts
          obtain ⟨Aa, ca, rfl⟩ := own_fits ho6
          have e1 := HST2.out.mc.cell 0 (v := .slice Ar mo.length cr) rfl
          have HC5 := Lib.hid hc5
          have HAL2 := Lib.hid hal
          have hbm := HST2.out.mc.lt
          clear hc5 hc6
          go_wp2_with (at_builtin; go_must (refine wpList_app1' rRow _ rfl _ _ rfl ho5 rfl [_] 1 rfl rfl (by simp [Value.oneCell']) (by omega) (by omega) ?_); intro vr6 w6 ho7 hB6 hg6 hloc6; obtain ⟨g7, cap7, rfl⟩ := ownsRow_succ ho7; have b6 := HST2.out.mc.grown hg6 (own_ne ho5 HST2.out.mc (by decide)); have e2 := b6.cell 0 (v := .slice Ar mo.length cr) rfl; have e3 := b6.free 0)
          go_roundw
          case rel =>
            have R := HST2.out.row hl5 ho5 HC5.out (by unfold rowCell; simp only [HAL2.out]; exact ho7) hg6 hloc6 (by omega)
            have hstep : rleastTo m (k + 1) = (mo ++ [acts], l2) := by
              rw [rleastTo_step (by rw [HM.out]; exact HSG.out), HM.out, Int.toNat_natCast, HROW.out, HA.out]
            refine ⟨k + 1, by go_num, ?_, .slice (some ⟨g7, 0, none⟩) (mo.length + 1) cap7, ?_⟩
            · rw [hstep]
              have e := (ractsTo_pre m row l row.length).length_le
              rw [HA.out] at e
              simp only at e ⊢
              omega
            · rw [hstep]
              exact R
          case measure => simp [intOf]; omega
    · have hkl : k = l.length := by omega
      have HD64 : Hid (rleastTo m 64 = (mo, l)) := by
        show _ = _
        rw [rleastTo_done (m := m) (k := k) (by omega) (by rw [HM.out]; simp only; omega), HM.out]
      have HLM : Hid (leastM m = mo) := by show _ = _; unfold leastM; rw [← (rleastTo_eq HF.out 64).1, HD64.out]
      have HLC : Hid (leastC m = (List.range m.length).map fun (x : Nat) => clsI m l (x : Int)) := by
        show _ = _
        unfold leastC
        refine List.map_congr_left fun x hx => ?_
        have e := rcls_eq HF.out (List.mem_range.1 hx)
        rw [HD64.out] at e
        exact e.symm
      obtain ⟨hs5, hl5, ho5, hc5⟩ := HST.out.mach
      obtain ⟨Ar, cr, rfl⟩ := own_fits ho5
      have r0 := HRV.out.below HST.out.below (by omega)
      obtain ⟨As', cs', hv', hcs⟩ := own_out HST.out.num (by simp [ints]; omega)
      obtain ⟨rfl, rfl⟩ : As = As' ∧ cs = cs' := by injection hv' with h1 _ h3; exact ⟨h1, h3⟩
      have HCS := Lib.hid hcs
      have HR0 := Lib.hid r0
      clear hkl ho5 hc5 hv' hcs r0 hl5
      have y3 := Nat.lt_of_lt_of_le HGV.out.lt HST.out.below.size
      obtain ⟨wo, rfl⟩ : ∃ wo : World, wo = wr := ⟨_, rfl⟩
      go_wp2_with (at_make; go_must (refine wpList_make_full _ rfl _ _ 22 rfl wo.heap.size 3 i0 (.int .i64 0) 1 Try.underlying22 hi hz0 hz1 .i64 .i64 m.length m.length m.length rfl rfl rfl rfl (by rw [hz2]; omega) (by unfold maxLen; omega) (Nat.le_refl _) ?_); intro w3 ho3 hg3; have hs3 := hg3.size; have d3 := hg3.cell x3 (by simp); have hlt3 : w.heap.size < w3.heap.size := by omega)
      rw [made_ints] at ho3
      have hbC3 : Blk w3 wo.heap.size (.cells (ints (List.replicate m.length 0)).toArray 3) := own_full ho3
      have hB23 : Below wo.heap.size wo w3 := (Below.refl _ _).grown hg3 (Nat.le_refl _) (fun k e => by cases e)
      have HBC := Lib.hid hbC3
      have HB23 := Lib.hid hB23
      clear ho3 hg3 hbC3 hB23 hi hz0 hz1 hz2
      go_loopw [86] (fun i wr => ∃ q : Nat, q ≤ m.length ∧ i = .int .i64 q ∧ Blk wr wo.heap.size (.cells (ints (fillG (fun (x : Nat) => clsI m l (x : Int)) m.length q)).toArray 3) ∧ Below wo.heap.size wo wr) (fun i _ => m.length - (intOf i).toNat)
      case atStart => exact ⟨0, Nat.zero_le _, rfl, by rw [fillG_zero]; exact HBC.out, HB23.out⟩
      case round =>
        obtain ⟨q, hq, rfl, hrow, hB⟩ := hrel
        have HRC := Lib.hid hrow
        have HB := Lib.hid hB
        have hszq := hB.size
        clear hrow hB
        by_cases hqt : q < m.length
        · have HMr : Hid (MatAt wr bo m.length bs (tv (roundsA m))) := HMAT.out.below ((HST.out.below.mono (by omega)).trans (HB.out.mono (by omega)))
          have HC114 := Lib.hid (class_any bo bs m As cs l (q : Int) wr HMr.out HBSL.out (HCS.out.below HB.out (Nat.le_refl _)) HOK.out.2 (by omega) hm64)
          have f0 := HRC.out.cell q (ints_get (fillG_get (fun (x : Nat) => clsI m l (x : Int)) hqt))
          have f1 := HRC.out.free q
          have f2 := HRC.out.lt
          have hixm := ix_own (b := wo.heap.size) (n := m.length) (c := m.length) Try.underlying22 szInt hqt
          obtain ⟨kv, HK⟩ : ∃ kv, Hid (clsI m l (q : Int) = kv) := ⟨_, rfl⟩
          go_wp2_with (go_at_call 114; go_must (refine HC114.out.mono ?_); rintro e w9 ⟨rfl, rfl⟩; rw [HK.out])
          go_roundw
          case rel =>
            refine ⟨q + 1, by omega, by go_num, ?_, ?_⟩
            · have e := HRC.out.set q (.int .i64 kv)
              rw [ints_set] at e
              have e2 := fillG_set (fun (x : Nat) => clsI m l (x : Int)) hqt
              simp only [HK.out] at e2
              rw [e2] at e
              exact e
            · exact HB.out.setCell (by show wo.heap.size ≤ wo.heap.size; exact Nat.le_refl _) _
          case measure => simp [intOf]; omega
        · obtain rfl : q = m.length := by omega
          rw [fillG_all, ← HLC.out] at HRC
          have MW := HST.out.later HB.out
          have x2 := MW.mc.cell 0 (v := .slice Ar mo.length cr) rfl
          have x4 := MW.mc.lt
          have b7 := HR0.out.below HB.out HR0.out.lt
          have z4 := b7.cell 0 (v := .slice none 0 0) rfl
          have z5 := b7.free 0
          have z6 := b7.lt
          have HB27 := Lib.hid b7
          have HMW := Lib.hid MW
          clear b7 MW
          go_wp2
          obtain ⟨X, hX⟩ : ∃ X, wr.setCell ⟨w.heap.size + 1, 0, none⟩ (.slice Ar mo.length cr) = X := ⟨_, rfl⟩
          have hF : Frame (fun b => b = w.heap.size + 1) wr X := by
            rw [← hX]
            exact (Frame.refl (fun b => b = w.heap.size + 1) wr).setCell (p := ⟨w.heap.size + 1, 0, none⟩) (.inl rfl) _
          have bX : Blk X (w.heap.size + 1) (.cells #[.slice Ar mo.length cr] 27) := by rw [← hX]; exact HB27.out.set1 _
          have q0 := bX.cell 0 (v := .slice Ar mo.length cr) rfl
          have hl5 : (loadVar 27 ⟨w.heap.size + 1, 0, none⟩).run Try.prog X = .ok (.agg #[.slice Ar mo.length cr]) X := by go_simp
          rw [hX]
          clear hX q0
          rw [HLM.out]
          refine bodyPost_ret (v := .tuple #[.agg #[.slice Ar mo.length cr], .slice (some ⟨wo.heap.size, 0, none⟩) m.length m.length]) (results_ct rfl rfl rfl hl5) rfl ?_
          obtain ⟨A', c', hv, hMo⟩ := (HMW.out.mach.move hF (fun b _ hn e => hn (.inl (by omega))) (fun _ _ h => h) (fun g hg e => by have := (HMW.out.mach.choose_spec.2.1.lt g hg).1; omega)).out (by omega)
          obtain ⟨rfl, rfl⟩ : Ar = A' ∧ cr = c' := by injection hv with h1 _ h3; exact ⟨h1, h3⟩
          have hlc : (leastC m).length = m.length := by simp [leastC]
          refine ⟨Ar, cr, some ⟨wo.heap.size, 0, none⟩, m.length, by rw [hlc], hMo, blk_cells (HRC.out.frame hF (by omega)) (by rw [show (ints (leastC m)).length = (leastC m).length by simp [ints], hlc]; omega), ?_⟩
          exact HBVW.out.trans ((HMW.out.below.mono (by omega)).trans (hF.below (fun b e => by omega) (by omega)))
end Go.Proofs.Ytlnonadkdonhmaa
