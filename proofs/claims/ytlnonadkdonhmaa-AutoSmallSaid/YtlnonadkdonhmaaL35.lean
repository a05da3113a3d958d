/- Contracts and lemmas that a claim of this seat uses. -/
import Derived.Test.YtlnonadkdonhmaaL32
import Derived.Test.YtlnonadkdonhmaaL31
import Derived.Laws.EntriesVeiled

/- A machine that begins at another state, plainly; contract of from's closure. -/
namespace Go.Proofs.Ytlnonadkdonhmaa
open Go.RowKit Go.Maps

def swN (s n : Nat) : Nat := if n = 0 then s else if n = s then 0 else n
def swI (s : Nat) (n : Int) : Int := (swN s n.toNat : Int)
def swA (s : Nat) (a : AAct) : AAct := ⟨a.rule, a.next.map (swI s)⟩
def fromM (m : Mach) (s : Nat) : Mach := (List.range m.length).map fun (i : Nat) => (rowM m (swN s i)).map (swA s)
section
variable {n : Int} {rs : List Int} {m : Mach} {s : Nat}
theorem swN_lt {L i : Nat} (hs : s < L) (hi : i < L) : swN s i < L := by
  unfold swN
  split
  · exact hs
  · split <;> omega
theorem swN_inv (s i : Nat) : swN s (swN s i) = i := by
  unfold swN
  by_cases h1 : i = 0
  · rw [if_pos h1]
    by_cases h2 : s = 0
    · rw [if_pos h2]; omega
    · rw [if_neg h2, if_pos rfl]; exact h1.symm
  · rw [if_neg h1]
    by_cases h2 : i = s
    · rw [if_pos h2, if_pos rfl]; exact h2.symm
    · rw [if_neg h2, if_neg h1, if_neg h2]
theorem swN_self (s : Nat) : swN s s = 0 := by
  unfold swN
  by_cases h : s = 0
  · rw [if_pos h]; exact h
  · rw [if_neg h, if_pos rfl]
theorem fromM_len (m : Mach) (s : Nat) : (fromM m s).length = m.length := by simp [fromM]
theorem fromM_row {i : Nat} (hi : i < m.length) : rowM (fromM m s) i = (rowM m (swN s i)).map (swA s) := by
  show (fromM m s).getD i [] = _
  simp [fromM, List.getD, hi]
theorem fromM_bis (hf : formedA n rs m = true) (hs : s < m.length) : Bis m (fromM m s) (fun a b => a < m.length ∧ b = swN s a) := by
  refine ⟨?_, ?_, ?_⟩
  · rintro a b ⟨ha, rfl⟩
    rw [fromM_len]
    exact ⟨ha, swN_lt hs ha⟩
  · rintro a b ⟨ha, rfl⟩ c x y hx hy
    rw [fromM_row (swN_lt hs ha), swN_inv, List.getElem?_map, hx] at hy
    injection hy with hy
    rw [← hy]
    rfl
  · rintro a b ⟨ha, rfl⟩ c x y j p q hx hy hp hq
    rw [fromM_row (swN_lt hs ha), swN_inv, List.getElem?_map, hx] at hy
    injection hy with hy
    rw [← hy] at hq
    have hq2 : (x.next.map (swI s))[j]? = some q := hq
    rw [List.getElem?_map, hp] at hq2
    have e : swI s p = q := by injection hq2
    have hpb := act_next hf ha hx (List.mem_of_getElem? hp)
    refine ⟨by omega, ?_⟩
    rw [← e]
    unfold swI
    rw [Int.toNat_natCast]
theorem fromM_formed (hf : formedA n rs m = true) (hs : s < m.length) : formedA n rs (fromM m s) = true := by
  have hm := formed_len hf
  unfold formedA
  simp only [Bool.and_eq_true, decide_eq_true_eq]
  rw [fromM_len]
  refine ⟨⟨⟨formed_grp hf, hm.1⟩, hm.2⟩, ?_⟩
  rw [List.all_eq_true]
  intro acts hmem
  obtain ⟨i, hi, rfl⟩ := List.mem_map.1 hmem
  have hil := List.mem_range.1 hi
  have ht := swN_lt hs hil
  have hl := rowM_len hf ht
  unfold rowOkA
  rw [Bool.and_eq_true]
  refine ⟨by rw [decide_eq_true_eq, List.length_map]; exact hl, ?_⟩
  unfold allTo
  rw [List.all_eq_true]
  intro c hc
  have hcl := List.mem_range.1 hc
  rw [List.length_map] at hcl
  rw [List.getElem?_map, List.getElem?_eq_getElem hcl]
  simp only [Option.map_some, Option.all_some]
  have hok := act_ok hf ht (List.getElem?_eq_getElem hcl)
  unfold actOkA at hok ⊢
  simp only [Bool.and_eq_true, decide_eq_true_eq] at hok ⊢
  refine ⟨⟨hok.1.1, (List.length_map _).trans hok.1.2⟩, ?_⟩
  rw [List.all_eq_true]
  intro q hq
  obtain ⟨p, hp, rfl⟩ := List.mem_map.1 hq
  have h2 := List.all_eq_true.1 hok.2 p hp
  unfold nextOk at h2 ⊢
  simp only [Bool.and_eq_true, decide_eq_true_eq] at h2 ⊢
  have h3 := swN_lt (L := m.length) hs (i := p.toNat) (by omega)
  unfold swI
  omega
/-- Two states say the same just if the machines that begin at them do. -/
theorem from_sim (hf : formedA n rs m = true) {a b : Nat} (ha : a < m.length) (hb : b < m.length) : Sim (fromM m a) (fromM m b) 0 0 ↔ Sim m m a b := by
  have hfa := fromM_formed hf ha
  have hfb := fromM_formed hf hb
  have h1 : Sim m (fromM m a) a 0 := ⟨_, fromM_bis hf ha, ha, (swN_self a).symm⟩
  have h2 : Sim m (fromM m b) b 0 := ⟨_, fromM_bis hf hb, hb, (swN_self b).symm⟩
  constructor
  · intro h
    exact (h1.trans hf hfa h).trans hf hfb h2.swap
  · intro h
    exact (h1.swap.trans hfa hf h).trans hfa hf h2
end

set_option maxRecDepth 100000 in
set_option maxHeartbeats 1000000 in
theorem sw_any (bs : Nat) (s : Nat) (x : Int) (w : World) (hb : Blk w bs (.cells #[.int .i64 (s : Int)] 3)) (hx : 0 ≤ x) :
    Calls Try.prog 95 #[.int .i64 x, .pointer (some ⟨bs, 0, none⟩)] w fun e w' => e = .returned (.int .i64 (swI s x)) ∧ w' = w := by
  have c0 := hb.cell 0 (v := .int .i64 (s : Int)) rfl
  obtain ⟨k, rfl⟩ := Int.eq_ofNat_of_zero_le hx
  by_cases h1 : k = 0
  · subst h1
    have HS : Hid (swI s ((0 : Nat) : Int) = (s : Int)) := by show _ = _; unfold swI swN; simp
    go_enter Try.func95, Try.ntmps95
    go_wp2
    go_ret
    exact ⟨by rw [HS.out]; rfl, rfl⟩
  · have h1' : ((k : Int) == 0) = false := by rw [beq_eq_false_iff_ne]; omega
    by_cases h2 : k = s
    · subst h2
      have HS : Hid (swI k (k : Int) = 0) := by show _ = _; unfold swI; rw [Int.toNat_natCast, swN_self]; rfl
      have h2' : ((k : Int) == (k : Int)) = true := by simp
      clear h1
      go_enter Try.func95, Try.ntmps95
      go_wp2
      go_ret
      exact ⟨by rw [HS.out]; rfl, rfl⟩
    · have h2' : ((k : Int) == (s : Int)) = false := by rw [beq_eq_false_iff_ne]; omega
      have HS : Hid (swI s (k : Int) = (k : Int)) := by show _ = _; unfold swI swN; rw [Int.toNat_natCast, if_neg h1, if_neg h2]
      clear h1 h2
      go_enter Try.func95, Try.ntmps95
      go_wp2
      go_ret
      exact ⟨by rw [HS.out]; rfl, rfl⟩
end Go.Proofs.Ytlnonadkdonhmaa

/- Contract: from. -/
namespace Go.Proofs.Ytlnonadkdonhmaa
open Go.RowKit Go.Maps

theorem fromM_take {m : Mach} {s k : Nat} (hk : k < m.length) : (fromM m s).take (k + 1) = (fromM m s).take k ++ [(rowM m (swN s k)).map (swA s)] :=
  take_succ_of (by simp [fromM, hk])

set_option maxRecDepth 100000 in
set_option maxHeartbeats 16000000 in
theorem from_any (n : Int) (rs : List Int) (B : Option Addr) (d : Nat) (m : Mach) (s : Nat) (w : World) (hM : MachAt w B m) (hf : formedA n rs m = true) (hs : s < m.length) :
    Calls Try.prog 42 #[.agg #[.slice B m.length d], .int .i64 (s : Int)] w fun e w' => ∃ A' c', e = .returned (.agg #[.slice A' (fromM m s).length c']) ∧ MachAt w' A' (fromM m s) ∧ Below w.heap.size w w' := by
  obtain ⟨hm1, hm64⟩ := formed_len hf
  have h6 := (grpOk_true (formed_grp hf)).2.1
  obtain ⟨V, hV⟩ : ∃ V, ((w.alloc (.cells #[.slice B m.length d] 27)).alloc (.cells #[.int .i64 (s : Int)] 3)).alloc (.cells #[.slice none 0 0] 27) = V := ⟨_, rfl⟩
  have hBV : Below w.heap.size w V := by rw [← hV]; exact (((Below.refl _ w).alloc (Nat.le_refl _) _).alloc (by simp) _).alloc (by simp <;> omega) _
  have hsVa : V.heap.size ≤ w.heap.size + 3 := by rw [← hV]; simp
  have hsVb : w.heap.size + 3 ≤ V.heap.size := by rw [← hV]; simp
  have b1 : Blk V w.heap.size (.cells #[.slice B m.length d] 27) := by rw [← hV]; exact ((Blk.new _ _).alloc _).alloc _
  have b2 : Blk V (w.heap.size + 1) (.cells #[.int .i64 (s : Int)] 3) := by
    rw [← hV]
    have e := (Blk.new (w.alloc (.cells #[.slice B m.length d] 27)) (.cells #[.int .i64 (s : Int)] 3)).alloc (.cells #[.slice none 0 0] 27)
    rw [World.size_alloc] at e
    exact e
  have b3 : Blk V (w.heap.size + 2) (.cells #[.slice none 0 0] 27) := by
    rw [← hV]
    have e := Blk.new ((w.alloc (.cells #[.slice B m.length d] 27)).alloc (.cells #[.int .i64 (s : Int)] 3)) (.cells #[.slice none 0 0] 27)
    rw [World.size_alloc, World.size_alloc] at e
    exact e
  have HF := Lib.hid hf
  have HBV := Lib.hid hBV
  have HGV := Lib.hid b1
  have HSV := Lib.hid b2
  have HRV := Lib.hid b3
  obtain ⟨w6, hw6⟩ : ∃ w6 : World, V.alloc (.cells #[.slice none 0 0] 27) = w6 := ⟨_, rfl⟩
  obtain ⟨B0, hB0⟩ : ∃ B0, B0 = V.heap.size := ⟨_, rfl⟩
  have HST : Hid (RSt V V.heap.size B0 [] [] [] (.slice none 0 0) (.slice none 0 0) (.slice none 0 0) w6) := by
    rw [← hw6]
    exact Lib.hid ⟨World.ownsRow_nil _ _ _ _, Blk.new _ _, MachOwn.nil _ _ _, ActsOwn.nil _ _ _, (Below.refl _ V).alloc (by omega) _, by omega, by omega⟩
  have HROWS : Hid (∀ t : Nat, t < m.length → RowIn m (rowM m t) ∧ (rowM m t).length ≤ 6 ∧ ∀ a ∈ rowM m t, a.next.length ≤ 64) := by
    intro t ht
    have hl := rowM_len HF.out ht
    refine ⟨rowIn_of HF.out ht, by omega, fun a ha => ?_⟩
    obtain ⟨c, hc⟩ := List.getElem?_of_mem ha
    exact next_len (act_ok HF.out ht hc)
  have hfl := fromM_len m s
  have HFL := Lib.hid hfl
  have HB0 := Lib.hid hB0
  have hB0a : B0 ≤ V.heap.size := by omega
  have hB0b : V.heap.size ≤ B0 := by omega
  have hm1' := (HGV.out.below (HST.out.below) (by omega)).cell 0 (v := .slice B m.length d) rfl
  have hml' : w.heap.size < w6.heap.size := (HGV.out.below (HST.out.below) (by omega)).lt
  clear b1 b2 b3 hf hBV hfl hB0
  go_enter Try.func42, Try.ntmps42
  go_wp2
  clear hw6 hV hm1' hml'
  go_loopw [18] (fun i wr => ∃ k : Nat, i = .int .i64 k ∧ k ≤ m.length ∧ ∃ vr, RSt V V.heap.size B0 [] ((fromM m s).take k) [] (.slice none 0 0) (.slice none 0 0) vr wr)
    (fun i _ => m.length - (intOf i).toNat)
  case atStart => exact ⟨0, rfl, Nat.zero_le _, _, HST.out⟩
  case round =>
    obtain ⟨k, rfl, hk, vr, hst⟩ := hrel
    obtain ⟨mo, HM⟩ : ∃ mo, Hid ((fromM m s).take k = mo) := ⟨_, rfl⟩
    rw [HM.out] at hst
    have hml : mo.length ≤ 64 := by rw [← HM.out, List.length_take, HFL.out]; omega
    have HST := Lib.hid hst
    have hszr := hst.below.size
    have x3 := (HGV.out.below hst.below (by omega)).cell 0 (v := .slice B m.length d) rfl
    have x4 : w.heap.size < wr.heap.size := by omega
    clear hst
    by_cases hkt : k < m.length
    · obtain ⟨t, HT⟩ : ∃ t, Hid (swN s k = t) := ⟨_, rfl⟩
      have htm : t < m.length := by rw [← HT.out]; exact swN_lt hs hkt
      have HSW : Hid (swI s (k : Int) = (t : Int)) := by show _ = _; unfold swI; rw [Int.toNat_natCast, HT.out]
      obtain ⟨E, f, b2, o2, hb2, hix2, hcx2, hrowA, _, _⟩ := row_at (d := d) hM HF.out htm
      obtain ⟨row, HROW⟩ : ∃ row, Hid (rowM m t = row) := ⟨_, rfl⟩
      have HRW : Hid (RowIn m row ∧ row.length ≤ 6 ∧ ∀ a ∈ row, a.next.length ≤ 64) := by rw [← HROW.out]; exact HROWS.out t htm
      have hr6 := HRW.out.2.1
      rw [HROW.out] at hrowA hcx2
      have y2 := cell_chain (HBV.out.trans (HST.out.below.mono (by omega))) hb2 hcx2
      have y3 : b2 < wr.heap.size := by have := (HBV.out).size; omega
      have HSB : Hid (Blk wr (w.heap.size + 1) (.cells #[.int .i64 (s : Int)] 3)) := HSV.out.below HST.out.below (by omega)
      have HC95 : Hid (∀ W', Below wr.heap.size wr W' → Calls Try.prog 95 #[.int .i64 (k : Int), .pointer (some ⟨w.heap.size + 1, 0, none⟩)] W' fun e w'' => e = .returned (.int .i64 (t : Int)) ∧ w'' = W') := by
        intro W' hW'
        have e := sw_any (w.heap.size + 1) s (k : Int) W' (HSB.out.below hW' HSB.out.lt) (by omega)
        rw [HSW.out] at e
        exact e
      clear hcx2
      go_wp2
      refine draw (fun w' => Below wr.heap.size wr w') 9 rfl (by kernel_rfl) (fun Qd hQd => ?_)
      apply anyI_step 0 rfl (by kernel_rfl)
      focus (intro wI hI Kv hKv; have t0 := cell_chain hI x4 x3; go_simp; exact hKv)
      intro Kd hKd
      go_simp
      refine hKd _ ?_
      clear hKd Kd
      apply anyI_step 2 rfl (by kernel_rfl)
      focus (intro wI hI Kv hKv; have t0 := cell_chain hI x4 x3; go_simp; exact hKv)
      intro Kd hKd
      go_simp
      refine hKd _ ?_
      clear hKd Kd
      apply anyI_step 3 rfl (by kernel_rfl)
      focus (intro wI hI Kv hKv; have t0 := cell_chain hI x4 x3; go_simp; exact hKv)
      intro Kd hKd
      go_simp
      refine hKd _ ?_
      clear hKd Kd
      apply anyI_step 8 rfl (by kernel_rfl)
      focus (intro wI hI Kv hKv; have t0 := cell_chain hI x4 x3; go_simp; exact hKv)
      intro Kd hKd
      go_simp
      refine hKd _ ?_
      clear hKd Kd
      apply anyI_step 1 rfl (by kernel_rfl)
      focus (intro wI hI Kv hKv; have t0 := cell_chain hI x4 x3; go_simp; exact hKv)
      intro Kd hKd
      go_simp
      refine hKd _ ?_
      clear hKd Kd
      apply anyI_step 4 rfl (by kernel_rfl)
      focus (intro wI hI Kv hKv; go_simp; exact ⟨_, (HC95.out _ hI), hKv⟩)
      intro Kd hKd
      go_simp
      refine hKd _ ?_
      clear hKd Kd
      apply anyI_step 5 rfl (by kernel_rfl)
      focus (intro wI hI Kv hKv; have t2 := cell_chain hI y3 y2; go_simp; exact hKv)
      intro Kd hKd
      go_simp
      refine hKd _ ?_
      clear hKd Kd
      apply anyI_step 6 rfl (by kernel_rfl)
      focus (intro wI hI Kv hKv; have t2 := cell_chain hI y3 y2; go_simp; exact hKv)
      intro Kd hKd
      go_simp
      refine hKd _ ?_
      clear hKd Kd
      apply anyI_step 7 rfl (by kernel_rfl)
      focus (intro wI hI Kv hKv; have t2 := cell_chain hI y3 y2; go_simp; exact hKv)
      intro Kd hKd
      go_simp
      refine hKd _ ?_
      clear hKd Kd
      refine anyI_end (by kernel_rfl) ((Below.refl _ _).drew) (hQd _ _ ?_)
      clear hQd Qd
      obtain ⟨wo, hwo⟩ : ∃ wo : World, wr.drew = wo := ⟨_, rfl⟩
      have HSTd : Hid (RSt V V.heap.size B0 [] mo [] (.slice none 0 0) (.slice none 0 0) vr wo) := by rw [← hwo]; exact HST.out.later (Below.refl _ wr).drew
      rw [hwo]
      clear hwo y2 y3 x3 x4 hix2
      go_wp2
      go_loopw [8, 29] (fun va i wr => ∃ q : Nat, i = .int .i64 q ∧ q ≤ row.length ∧ RSt V V.heap.size B0 [] mo ((row.take q).map (swA s)) (.slice none 0 0) va vr wr) (fun _ i _ => row.length - (intOf i).toNat)
      case atStart => exact ⟨0, rfl, Nat.zero_le _, HSTd.out⟩
      case round =>
        obtain ⟨q, rfl, hq, hst2⟩ := hrel
        obtain ⟨acts, HA⟩ : ∃ acts, Hid ((row.take q).map (swA s) = acts) := ⟨_, rfl⟩
        rw [HA.out] at hst2
        have HST2 := Lib.hid hst2
        have hal : acts.length = q := by rw [← HA.out, List.length_map, List.length_take]; omega
        have hszB2 := hst2.below.size
        clear hst2
        by_cases hqt : q < row.length
        · obtain ⟨a, D, dd, b3, o3, hx, hb3, hix3, hc0, hc1, hD⟩ := acts_at (c := f) hrowA hqt
          have hBr : Below w.heap.size w wr := HBV.out.trans (HST2.out.below.mono (by omega))
          have k0 := cell_chain hBr hb3 hc0
          have k1 := hBr.cell (p := ⟨b3, o3 + 1, none⟩) hb3
          rw [hc1] at k1
          have hinm : InM m a.next := HRW.out.1 a (List.mem_of_getElem? hx)
          have hal64 : a.next.length ≤ 64 := HRW.out.2.2 a (List.mem_of_getElem? hx)
          have HTK : Hid ((row.take (q + 1)).map (swA s) = acts ++ [swA s a]) := by show _ = _; rw [take_succ_of hx, List.map_append, HA.out]; rfl
          obtain ⟨ri, HRI⟩ : ∃ ri, Hid (a.rule = ri) := ⟨_, rfl⟩
          obtain ⟨nx, HN⟩ : ∃ nx, Hid (a.next = nx) := ⟨_, rfl⟩
          rw [HN.out] at hinm hal64 k1 hD
          rw [HRI.out] at k0
          obtain ⟨wA, hwA⟩ : ∃ wA, wr.alloc (.cells #[.int .i64 ri, .slice D nx.length dd] 103) = wA := ⟨_, rfl⟩
          have hBA : Below wr.heap.size wr wA := by rw [← hwA]; exact (Below.refl _ wr).alloc (Nat.le_refl _) _
          have hwA0a : wA.heap.size ≤ wr.heap.size + 1 := by rw [← hwA]; simp
          have hwA0b : wr.heap.size + 1 ≤ wA.heap.size := by rw [← hwA]; simp
          have bA : Blk wA wr.heap.size (.cells #[.int .i64 ri, .slice D nx.length dd] 103) := by rw [← hwA]; exact Blk.new _ _
          have x0 := bA.cell 0 (v := .int .i64 ri) rfl
          have x1 := bA.cell 1 (v := .slice D nx.length dd) rfl
          have xl := bA.lt
          have M4 := Lib.hid (HST2.out.later hBA)
          have HDA : Hid (Cells wA D (ints nx)) := hD.below (hBr.trans (hBA.mono (by have := hBr.size; omega))) (Nat.le_refl _)
          have HINM := Lib.hid hinm
          have HSA : Hid (Blk wA (w.heap.size + 1) (.cells #[.int .i64 (s : Int)] 3)) := HSV.out.below M4.out.below (by omega)
          clear hx hD hBr hc0 hc1 hBA bA hinm
          go_wp2
          clear hwA x0 x1 k0 k1 hix3
          go_loopw [39] (fun i wr => ∃ j : Nat, i = .int .i64 j ∧ j ≤ nx.length ∧ ∃ vn, Blk wr wA.heap.size (.cells #[.int .i64 ri, vn] 103) ∧ wr.ownsRow (wA.heap.size + 1) 3 1 vn j (ints ((nx.take j).map (swI s))) ∧ Below wA.heap.size wA wr) (fun i _ => nx.length - (intOf i).toNat)
          case atStart => exact ⟨0, rfl, Nat.zero_le _, .slice none 0 0, Blk.new _ _, World.ownsRow_nil _ _ _ _, (Below.refl _ wA).alloc (Nat.le_refl _) _⟩
          case round =>
            obtain ⟨j, rfl, hj, vn, hbx, hon, hB⟩ := hrel
            obtain ⟨y3, HY3⟩ : ∃ y3, Hid ((nx.take j).map (swI s) = y3) := ⟨_, rfl⟩
            rw [HY3.out] at hon
            obtain ⟨An, cn, rfl⟩ := own_fits hon
            have hszF := hB.size
            have HB := Lib.hid hB
            have HBX := Lib.hid hbx
            have HON := Lib.hid hon
            clear hB
            by_cases hjt : j < nx.length
            · obtain ⟨x, b2, o2, hx, hb2, hix2, hcx2⟩ := ints_at (c := dd) (HDA.out.below HB.out (Nat.le_refl _)) Try.underlying22 szInt hjt
              have hxb := HINM.out x (List.mem_of_getElem? hx)
              have HTX : Hid ((nx.take (j + 1)).map (swI s) = y3 ++ [swI s x]) := by show _ = _; rw [take_succ_of hx, List.map_append, HY3.out]; rfl
              obtain ⟨z, HZ⟩ : ∃ z, Hid (swI s x = z) := ⟨_, rfl⟩
              have HC95 : Hid (∀ W', Frame (fun b => (Value.slice An j cn).ownBlock = some b) wr W' → Calls Try.prog 95 #[.int .i64 x, .pointer (some ⟨w.heap.size + 1, 0, none⟩)] W' fun e w'' => e = .returned (.int .i64 z) ∧ w'' = W') := by
                intro W' hW'
                have e := sw_any (w.heap.size + 1) s x W' ((HSA.out.below HB.out HSA.out.lt).frame hW' (fun e => by have := (HON.out.lt _ e).1; have := HSA.out.lt; omega)) hxb.1
                rw [HZ.out] at e
                exact e
              have e1 := hbx.cell 1 (v := .slice An j cn) rfl
              have el := hbx.lt
              have HOD : Hid (wr.drew.ownsRow (wA.heap.size + 1) 3 1 (.slice An j cn) j (ints y3)) := HON.out
              clear hx hxb hon hbx
              go_wp2
              refine drawl (fun w' => Frame (fun b => (Value.slice An j cn).ownBlock = some b) wr w') 8 8 rfl (by kernel_rfl) (fun Qd hQd => ?_)
              apply anyL_step 0 (by kernel_rfl) rfl (by kernel_rfl)
              focus (intro wI hI Kv hKv; have t1 := (HBX.out.frame hI (fun e => own_ne HON.out HBX.out (by decide) e)).cell 1 (v := .slice An j cn) rfl; go_simp; exact hKv)
              intro Kd hKd
              go_simp
              refine hKd _ ?_
              clear hKd Kd
              apply anyL_step 2 (by kernel_rfl) rfl (by kernel_rfl)
              focus (intro wI hI Kv hKv; have t1 := (HBX.out.frame hI (fun e => own_ne HON.out HBX.out (by decide) e)).cell 1 (v := .slice An j cn) rfl; go_simp; exact hKv)
              intro Kd hKd
              go_simp
              refine hKd _ ?_
              clear hKd Kd
              apply anyL_step 3 (by kernel_rfl) rfl (by kernel_rfl)
              focus (intro wI hI Kv hKv; have t1 := (HBX.out.frame hI (fun e => own_ne HON.out HBX.out (by decide) e)).cell 1 (v := .slice An j cn) rfl; go_simp; exact hKv)
              intro Kd hKd
              go_simp
              refine hKd _ ?_
              clear hKd Kd
              apply anyL_step 1 (by kernel_rfl) rfl (by kernel_rfl)
              focus (intro wI hI Kv hKv; have t1 := (HBX.out.frame hI (fun e => own_ne HON.out HBX.out (by decide) e)).cell 1 (v := .slice An j cn) rfl; go_simp; exact hKv)
              intro Kd hKd
              go_simp
              refine hKd _ ?_
              clear hKd Kd
              apply anyL_step 4 (by kernel_rfl) rfl (by kernel_rfl)
              focus (intro wI hI Kv hKv; go_simp; exact ⟨_, (HC95.out _ hI), hKv⟩)
              intro Kd hKd
              go_simp
              refine hKd _ ?_
              clear hKd Kd
              refine anyL_one 5 rfl (by kernel_rfl) ((Frame.refl _ wr).drew) (fun Kd hKd => ?_)
              go_wp2
              refine anyL_one 6 rfl (by kernel_rfl) (((Frame.refl _ wr).drew.alloc _)) (fun Kd hKd => ?_)
              go_wp2_with (at_builtin; go_must (refine wpList_app1' rInt _ rfl _ _ rfl HOD.out rfl [_] 1 rfl rfl (by simp [Value.oneCell']) (by omega) (by show wA.heap.size + 1 ≤ wr.heap.size; omega) ?_); intro v6 w6 ho6 hB6 hg6 hloc6; obtain ⟨g7, cap7, rfl⟩ := ownsRow_succ ho6)
              have hbd : Blk wr.drew wA.heap.size (.cells #[.int .i64 ri, .slice An j cn] 103) := HBX.out
              have bx6 := hbd.grown hg6 (own_ne HOD.out hbd (by decide))
              have k2 := bx6.cell 1 (v := .slice An j cn) rfl
              have k3 := bx6.free 1
              have k4 := bx6.lt
              have HG6 : Hid (Frame (fun b => (Value.slice An j cn).ownBlock = some b) wr w6) := (Frame.refl _ wr).drew.trans (Frame.of_grown hg6) (fun _ _ h => h)
              have HO6 := Lib.hid ho6
              have HBX6 := Lib.hid bx6
              clear ho6 hB6 hg6 hloc6 bx6 hbd
              apply anyL_step 7 (by kernel_rfl) rfl (by kernel_rfl)
              focus (intro wI hI Kv hKv; go_simp; exact hKv)
              intro Kd hKd
              go_simp
              refine hKd _ ?_
              clear hKd Kd
              refine anyL_end rfl (by kernel_rfl) (HG6.out) (fun Kd hKd => ?_)
              go_wp2
              go_roundw
              case rel =>
                have hset : Frame (fun b => b = wA.heap.size) w6 (w6.setCell ⟨wA.heap.size, 1, none⟩ (.slice (some ⟨g7, 0, none⟩) (j + 1) cap7)) := (Frame.refl (fun b => b = wA.heap.size) w6).setCell (p := ⟨wA.heap.size, 1, none⟩) (.inl rfl) _
                have ho6' := own_frame HO6.out hset (fun g hg e => own_ne HO6.out HBX6.out (by decide) (by rw [hg, e]))
                refine ⟨j + 1, by go_num, by omega, .slice (some ⟨g7, 0, none⟩) (j + 1) cap7, HBX6.out.set 1 _, ?_, ?_⟩
                · rw [HTX.out, HZ.out]; simpa [ints] using ho6'
                · exact (HB.out.trans (HG6.out.below (B := wA.heap.size) (fun b e => by have := (HON.out.lt _ e).1; omega) (by omega))).setCell (Nat.le_refl _) _
              case measure => simp [intOf]; omega
            · obtain rfl : j = nx.length := by omega
              rw [List.take_length] at HY3
              have M5 := Lib.hid (M4.out.later HB.out)
              have e0 := hbx.cell 0 (v := .int .i64 ri) rfl
              have e1 := hbx.cell 1 (v := .slice An nx.length cn) rfl
              have hyl : y3.length = nx.length := by rw [← HY3.out, List.length_map]
              have HYL := Lib.hid hyl
              have hn5 := own_new hon (by simp [ints, hyl]; omega)
              obtain ⟨An', cn', hv5, hn5⟩ := hn5
              obtain ⟨rfl, rfl⟩ : An = An' ∧ cn = cn' := by injection hv5 with h1 _ h3; exact ⟨h1, h3⟩
              obtain ⟨hs5, hl5, ho5, hc5⟩ := M5.out.acts
              have HC5 := Lib.hid hc5
              clear hc5 hv5 hyl
              go_wp2_with (at_builtin; go_must (refine wpList_app1' rAct _ rfl _ _ rfl ho5 rfl [_, _] 1 rfl rfl (by simp [Value.oneCell']) (by omega) (by omega) ?_); intro va6 w6 ho6 hB6 hg6 hloc6)
              go_roundw
              case rel =>
                have hCP : CellsP (fun b => ¬ mutS V.heap.size V.heap.size V.heap.size B0 (.slice none 0 0) u8 vr b) wr An (ints y3) := by
                  refine ⟨hn5.1, fun _ a ha hs => ?_⟩
                  have h1 := hn5.2 a ha
                  obtain ⟨_, _, ho1, _⟩ := M4.out.mach
                  obtain ⟨_, _, ho2, _⟩ := M4.out.acts
                  have h4 := M4.out.mc.lt
                  rcases hs with e | e | e | e | e | e | e
                  · omega
                  · omega
                  · omega
                  · omega
                  · cases e
                  · have := (ho2.lt _ e).2; omega
                  · have := (ho1.lt _ e).2; omega
                refine ⟨q + 1, by go_num, by omega, ?_⟩
                have hsa : swA s a = ⟨ri, y3⟩ := by unfold swA; rw [HRI.out, HN.out, HY3.out]
                rw [HTK.out, hsa]
                exact M5.out.act (a := ⟨ri, y3⟩) (B := An) (c := cn) hl5 ho5 HC5.out hCP (by unfold actCells; simp only [HYL.out]; exact ho6) hg6 hloc6
              case measure => simp [intOf]; omega
        · obtain rfl : q = row.length := by omega
          obtain ⟨hs5, hl5, ho5, hc5⟩ := HST2.out.mach
          obtain ⟨Ar, cr, rfl⟩ := own_fits ho5
          obtain ⟨hs6, hl6, ho6, hc6⟩ := HST2.out.acts
          obtain ⟨Aa, ca, rfl⟩ := own_fits ho6
          have e1 := HST2.out.mc.cell 0 (v := .slice Ar mo.length cr) rfl
          have HC5 := Lib.hid hc5
          have HAL2 := Lib.hid hal
          have hbm := HST2.out.mc.lt
          rw [List.take_length] at HA
          have hacts : acts = (rowM m (swN s k)).map (swA s) := by rw [HT.out, HROW.out]; exact HA.out.symm
          have HACT := Lib.hid hacts
          clear hc5 hc6 hacts
          go_wp2_with (at_builtin; go_must (refine wpList_app1' rRow _ rfl _ _ rfl ho5 rfl [_] 1 rfl rfl (by simp [Value.oneCell']) (by omega) (by omega) ?_); intro vr6 w6 ho7 hB6 hg6 hloc6; obtain ⟨g7, cap7, rfl⟩ := ownsRow_succ ho7; have b6 := HST2.out.mc.grown hg6 (own_ne ho5 HST2.out.mc (by decide)); have e2 := b6.cell 0 (v := .slice Ar mo.length cr) rfl; have e3 := b6.free 0)
          go_roundw
          case rel =>
            have R := HST2.out.row hl5 ho5 HC5.out (by unfold rowCell; simp only [HAL2.out]; exact ho7) hg6 hloc6 (by omega)
            refine ⟨k + 1, by go_num, by omega, .slice (some ⟨g7, 0, none⟩) (mo.length + 1) cap7, ?_⟩
            rw [fromM_take hkt, HM.out, ← HACT.out]
            exact R
          case measure => simp [intOf]; omega
    · obtain rfl : k = m.length := by omega
      have HMO : Hid (fromM m s = mo) := by show _ = _; rw [← HM.out, List.take_of_length_le (by rw [HFL.out]; exact Nat.le_refl _)]
      have r0 := HRV.out.below HST.out.below (by omega)
      have r1 := r0.cell 0 (v := .slice none 0 0) rfl
      have r2 := r0.free 0
      obtain ⟨Ar, cr, rfl⟩ := own_fits HST.out.mach.choose_spec.2.1
      have e1 := HST.out.mc.cell 0 (v := .slice Ar mo.length cr) rfl
      have HR0 := Lib.hid r0
      clear r0
      go_wp2
      refine bodyPost_ret (v := .agg #[.slice Ar mo.length cr]) (results_c rfl rfl ?_) rfl ?_
      · have q := (HR0.out.set1 (.slice Ar mo.length cr)).cell 0 rfl
        go_simp
      · rw [HMO.out]
        have hF : Frame (fun b => b = w.heap.size + 2) wr (wr.setCell ⟨w.heap.size + 2, 0, none⟩ (.slice Ar mo.length cr)) := (Frame.refl (fun b => b = w.heap.size + 2) wr).setCell (p := ⟨w.heap.size + 2, 0, none⟩) (.inl rfl) _
        obtain ⟨A', c', hv, hMo⟩ := (HST.out.mach.move hF (fun b _ hn e => hn (.inl (by omega))) (fun _ _ h => h) (fun g hg e => by have := (HST.out.mach.choose_spec.2.1.lt g hg).1; omega)).out (by omega)
        obtain ⟨rfl, rfl⟩ : Ar = A' ∧ cr = c' := by injection hv with h1 _ h3; exact ⟨h1, h3⟩
        exact ⟨Ar, cr, rfl, hMo, HBV.out.trans ((HST.out.below.mono (by omega)).trans (hF.below (fun b e => by omega) (by omega)))⟩
end Go.Proofs.Ytlnonadkdonhmaa
