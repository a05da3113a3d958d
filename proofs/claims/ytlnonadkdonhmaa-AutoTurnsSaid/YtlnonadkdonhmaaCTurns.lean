/- AutoTurns returns true for every group and list of messages, and leaves its arguments as they were. No condition. -/
import Derived.Test.YtlnonadkdonhmaaL16
import Derived.Test.YtlnonadkdonhmaaL12
import Derived.Test.YtlnonadkdonhmaaL6
import Derived.Test.YtlnonadkdonhmaaL9
import Derived.Test.YtlnonadkdonhmaaL10
import Derived.Test.YtlnonadkdonhmaaRows

/- The fair choice, plainly: no rule is missed as often as there are rules. -/
namespace Go.Proofs.Ytlnonadkdonhmaa
open Go.RowKit Go.Maps

/-- What is counted of the choices that a rule missed. -/
def mstep (rule : Int) (ms : List Int) (r : Int) : List Int := ms.set r.toNat (if r = rule then 0 else ms.getD r.toNat 0 + 1)
def msTo (rule : Int) (ms rd : List Int) : List Int := rd.foldl (mstep rule) ms
theorem mstep_len (rule : Int) (ms : List Int) (r : Int) : (mstep rule ms r).length = ms.length := by simp [mstep]
theorem msTo_len (rule : Int) : ∀ (rd ms : List Int), (msTo rule ms rd).length = ms.length
  | [], ms => rfl
  | r :: rd, ms => by
    show (msTo rule (mstep rule ms r) rd).length = _
    rw [msTo_len rule rd, mstep_len]
theorem msTo_get (rule : Int) : ∀ (rd ms : List Int), rd.Nodup → (∀ x ∈ rd, 0 ≤ x) → ∀ r : Nat, r < ms.length → (msTo rule ms rd).getD r 0 = if (r : Int) ∈ rd then (if (r : Int) = rule then 0 else ms.getD r 0 + 1) else ms.getD r 0
  | [], ms, _, _, r, _ => by simp [msTo]
  | x :: rd, ms, hd, hp, r, hr => by
    rw [List.nodup_cons] at hd
    show (msTo rule (mstep rule ms x) rd).getD r 0 = _
    rw [msTo_get rule rd (mstep rule ms x) hd.2 (fun y hy => hp y (List.mem_cons_of_mem _ hy)) r (by rw [mstep_len]; exact hr)]
    have hx0 := hp x (List.mem_cons_self ..)
    by_cases e : x = (r : Int)
    · subst e
      have h1 : (mstep rule ms (r : Int)).getD r 0 = if (r : Int) = rule then 0 else ms.getD r 0 + 1 := by simp [mstep, List.getD, hr]
      rw [if_neg hd.1, h1, if_pos (List.mem_cons_self ..)]
    · have h1 : (mstep rule ms x).getD r 0 = ms.getD r 0 := by
        have : x.toNat ≠ r := by omega
        simp [mstep, List.getD, List.getElem?_set_ne this]
      rw [h1]
      have h2 : (r : Int) ∈ x :: rd ↔ (r : Int) ∈ rd := by
        rw [List.mem_cons]
        exact ⟨fun h => h.resolve_left (fun h => e h.symm), .inr⟩
      simp only [h2]
theorem ready_nodup (rs : List Int) (s : Int) : (readyL rs s).Nodup := by
  unfold readyL pickTo
  refine nodup_map (List.Pairwise.sublist List.filter_sublist List.nodup_range) ?_
  intro a _ b _ e
  exact Int.ofNat.inj e
theorem best_min {last rd : List Int} : ∀ k, k ≤ rd.length → ∀ j x, j < k → rd[j]? = some x → last.getD (bestTo last rd k).toNat 0 ≤ last.getD x.toNat 0
  | 0, _, j, _, hj, _ => by omega
  | k + 1, hk, j, x, hj, hx => by
    have hy : rd[k]? = some rd[k] := List.getElem?_eq_getElem (by omega)
    have hgy : rd.getD k 0 = rd[k] := by simp [List.getD, hy]
    rw [bestTo]
    by_cases h : last.getD rd[k].toNat 0 < last.getD (bestTo last rd k).toNat 0
    · rw [if_pos (by rw [hgy]; exact h), hgy]
      rcases Nat.lt_or_ge j k with h1 | h1
      · have := best_min (last := last) k (by omega) j x h1 hx
        omega
      · have e : j = k := by omega
        subst e
        rw [hy] at hx
        injection hx with hx
        rw [hx]
        exact Int.le_refl _
    · rw [if_neg (by rw [hgy]; exact h)]
      rcases Nat.lt_or_ge j k with h1 | h1
      · exact best_min k (by omega) j x h1 hx
      · have e : j = k := by omega
        subst e
        rw [hy] at hx
        injection hx with hx
        subst hx
        omega

theorem count_lt {α : Type} {p q : α → Bool} : ∀ {l : List α}, (∀ x ∈ l, p x = true → q x = true) → (∃ x ∈ l, p x = false ∧ q x = true) → l.countP p < l.countP q
  | [], _, ⟨x, hx, _⟩ => by cases hx
  | y :: l, h, ⟨x, hx, hp, hq⟩ => by
    have hle : ∀ (l : List α), (∀ x ∈ l, p x = true → q x = true) → l.countP p ≤ l.countP q := fun l hl => List.countP_mono_left hl
    rw [List.countP_cons, List.countP_cons]
    have hy := h y (List.mem_cons_self ..)
    rcases List.mem_cons.1 hx with e | hx
    · subst e
      have := hle l (fun z hz => h z (List.mem_cons_of_mem _ hz))
      rw [hp, hq]
      simp
      omega
    · have ih := count_lt (l := l) (fun z hz => h z (List.mem_cons_of_mem _ hz)) ⟨x, hx, hp, hq⟩
      cases hpy : p y with
      | true => rw [hy hpy]; simp; omega
      | false =>
        simp only [Bool.false_eq_true, if_false, Nat.add_zero]
        omega
/-- How many rules have reacted later than this one. -/
def later (last : List Int) (L r : Nat) : Nat := (List.range L).countP fun b => decide (last.getD r 0 < last.getD b 0)
theorem later_lt {last : List Int} {L r : Nat} (hr : r < L) : later last L r < L := by
  have h := count_lt (l := List.range L) (p := fun b => decide (last.getD r 0 < last.getD b 0)) (q := fun _ => true) (fun _ _ _ => rfl) ⟨r, List.mem_range.2 hr, by simp, rfl⟩
  have e : (List.range L).countP (fun _ => true) = L := by
    rw [List.countP_true, List.length_range]
  rw [e] at h
  exact h

structure FairOk (L k : Nat) (last ms : List Int) : Prop where
  l1 : last.length = L
  l2 : ms.length = L
  bd : ∀ r : Nat, r < L → last.getD r 0 ≤ k
  ms : ∀ r : Nat, r < L → 0 ≤ ms.getD r 0 ∧ ms.getD r 0 ≤ later last L r

theorem FairOk.step {L k : Nat} {last ms rd : List Int} (h : FairOk L k last ms) (hnd : rd.Nodup) (hrd : ∀ x ∈ rd, 0 ≤ x ∧ x < (L : Int)) (hne : rd ≠ []) :
    FairOk L (k + 1) (last.set (bestF last rd).toNat ((k : Int) + 1)) (msTo (bestF last rd) ms rd) ∧ ∀ r : Nat, r < L → (r : Int) ∈ rd → (r : Int) ≠ bestF last rd → ms.getD r 0 + 1 < (L : Int) := by
  have hpos := List.length_pos_iff.2 hne
  have hbm : bestF last rd ∈ rd := bestTo_mem hpos _ (Nat.le_refl _)
  obtain ⟨hb0, hb1⟩ := hrd _ hbm
  obtain ⟨b, hb⟩ := Int.eq_ofNat_of_zero_le hb0
  have hbL : b < L := by omega
  have hmin : ∀ r : Nat, (r : Int) ∈ rd → last.getD b 0 ≤ last.getD r 0 := by
    intro r hr
    obtain ⟨j, hj⟩ := List.getElem?_of_mem hr
    have hlt := (List.getElem?_eq_some_iff.1 hj).1
    have e := best_min (last := last) (rd := rd) rd.length (Nat.le_refl _) j _ hlt hj
    have e2 : bestTo last rd rd.length = (b : Int) := hb
    rw [e2] at e
    simpa using e
  have hset : ∀ r : Nat, r < L → (last.set b ((k : Int) + 1)).getD r 0 = if r = b then (k : Int) + 1 else last.getD r 0 := by
    intro r hr
    by_cases e : r = b
    · subst e; simp [List.getD, h.l1, hr]
    · rw [if_neg e]
      have : b ≠ r := fun e2 => e e2.symm
      simp [List.getD, List.getElem?_set_ne this]
  have hmono : ∀ r : Nat, r < L → r ≠ b → later last L r ≤ later (last.set b ((k : Int) + 1)) L r := by
    intro r hr hrb
    refine List.countP_mono_left fun x hx hp => ?_
    have hxL := List.mem_range.1 hx
    rw [hset r hr, if_neg hrb, hset x hxL]
    have := of_decide_eq_true hp
    have := h.bd r hr
    split
    · exact decide_eq_true (by omega)
    · exact hp
  have hstrict : ∀ r : Nat, r < L → r ≠ b → (r : Int) ∈ rd → later last L r < later (last.set b ((k : Int) + 1)) L r := by
    intro r hr hrb hmem
    refine count_lt (fun x hx hp => ?_) ⟨b, List.mem_range.2 hbL, ?_, ?_⟩
    · have hxL := List.mem_range.1 hx
      rw [hset r hr, if_neg hrb, hset x hxL]
      have := of_decide_eq_true hp
      have := h.bd r hr
      split
      · exact decide_eq_true (by omega)
      · exact hp
    · have := hmin r hmem
      exact decide_eq_false (by omega)
    · have := h.bd r hr
      rw [hset r hr, if_neg hrb, hset b hbL, if_pos rfl]
      exact decide_eq_true (by omega)
  rw [hb, Int.toNat_natCast]
  have hget : ∀ r : Nat, r < L → (msTo (b : Int) ms rd).getD r 0 = if (r : Int) ∈ rd then (if (r : Int) = (b : Int) then 0 else ms.getD r 0 + 1) else ms.getD r 0 := fun r hr => msTo_get _ rd ms hnd (fun x hx => (hrd x hx).1) r (by rw [h.l2]; exact hr)
  refine ⟨⟨by simp [h.l1], by rw [msTo_len]; exact h.l2, fun r hr => ?_, fun r hr => ?_⟩, fun r hr hmem hrb => ?_⟩
  · rw [hset r hr]
    have := h.bd r hr
    split <;> omega
  · rw [hget r hr]
    have hm := h.ms r hr
    by_cases hmem : (r : Int) ∈ rd
    · rw [if_pos hmem]
      by_cases e : r = b
      · subst e
        rw [if_pos rfl]
        omega
      · rw [if_neg (by omega)]
        have := hstrict r hr e hmem
        omega
    · rw [if_neg hmem]
      have e : r ≠ b := by
        rintro rfl
        exact hmem (hb ▸ hbm)
      have := hmono r hr e
      omega
  · have e : r ≠ b := by omega
    have h1 := hstrict r hr e hmem
    have h2 := later_lt (last := last.set b ((k : Int) + 1)) hr
    have := h.ms r hr
    omega
theorem FairOk.start (L : Nat) : FairOk L 0 (List.replicate L 0) (List.replicate L 0) := by
  have e : ∀ r, (List.replicate L (0 : Int)).getD r 0 = 0 := by
    intro r
    rw [List.getD_eq_getElem?_getD, List.getElem?_replicate]
    split <;> rfl
  exact ⟨by simp, by simp, fun r _ => by rw [e]; omega, fun r _ => by rw [e]; omega⟩
end Go.Proofs.Ytlnonadkdonhmaa

/- The walk of AutoTurns. -/
namespace Go.Proofs.Ytlnonadkdonhmaa
open Go.RowKit Go.Maps

def turnNx (ms : List Int) (_ : Nat) (rule : Int) (rd : List Int) : List Int := msTo rule ms rd
def turnGood (L : Nat) (ms : List Int) (_ : Nat) (rule : Int) (rd : List Int) : Prop := rd.Nodup ∧ ∀ r : Nat, r < L → (r : Int) ∈ rd → (r : Int) ≠ rule → ms.getD r 0 + 1 < (L : Int)
structure TurnInv (n : Int) (A : Option Addr) (c L bb bM bg : Nat) (ms : List Int) (w : World) : Prop where
  box : Blk w bb (.cells #[.slice (some ⟨bM, 0, none⟩) L L] 22)
  row : Blk w bM (.cells (ints ms).toArray 3)
  len : ms.length = L
  grp : Blk w bg (.cells #[.int .i64 n, .slice A L c] 24)
  bd : ∀ x ∈ ms, 0 ≤ x ∧ x < 1000

theorem mstep_bd {L : Nat} {rule r : Int} {ms : List Int} (hL : L ≤ 1000) (hb : ∀ x ∈ ms, 0 ≤ x ∧ x < 1000) (hr : r ≠ rule → ms.getD r.toNat 0 + 1 < (L : Int)) : ∀ x ∈ mstep rule ms r, 0 ≤ x ∧ x < 1000 := by
  intro x hx
  have hg : 0 ≤ ms.getD r.toNat 0 := by
    cases e : ms[r.toNat]? with
    | none => simp [List.getD, e]
    | some y => simpa [List.getD, e] using (hb y (List.mem_of_getElem? e)).1
  rcases List.mem_or_eq_of_mem_set hx with h | h
  · exact hb x h
  · subst h
    split
    · omega
    · rename_i he
      have := hr he
      omega

set_option maxRecDepth 100000 in
set_option maxHeartbeats 4000000 in
theorem turn1_any (n : Int) (A : Option Addr) (c L bb bM bg : Nat) (hL : L ≤ 1000) (ms : List Int) (i : Nat) (rule : Int) (rd : List Int) (R : Option Addr) (e : Nat) (w : World) (hI : TurnInv n A c L bb bM bg ms w) (hrd : Hid (∀ x ∈ rd, 0 ≤ x ∧ x < (L : Int))) (hg : turnGood L ms i rule rd) (hR : Cells w R (ints rd)) (hRM : ∀ a, R = some a → a.block ≠ bM) :
    Calls Try.prog 40 #[.int .i64 (i : Int), .int .i64 rule, .slice R rd.length e, .pointer (some ⟨bb, 0, none⟩), .pointer (some ⟨bg, 0, none⟩)] w fun e w' => e = .returned (.bool true) ∧ TurnInv n A c L bb bM bg (msTo rule ms rd) w' ∧ Frame (fun b => b = bM) w w' := by
  have hlr : rd.length ≤ 17592186043904 := by simpa [ints] using hR.1
  obtain ⟨hbx, hms, hml, hgr, hbd⟩ := hI
  have HG := Lib.hid hg
  have HBX := Lib.hid hbx
  have HGR := Lib.hid hgr
  have HML := Lib.hid hml
  have hne1 : bb ≠ bM := blk_ne hbx hms (by decide)
  have hne2 : bg ≠ bM := blk_ne hgr hms (by decide)
  have HMS := Lib.hid hms
  have HBD := Lib.hid hbd
  clear hg hbx hgr hml hms hbd
  go_enter Try.func40, Try.ntmps40
  go_wp2
  go_loopw [13] (fun i wr => ∃ j : Nat, j ≤ rd.length ∧ i = .int .i64 j ∧ Blk wr bM (.cells (ints (msTo rule ms (rd.take j))).toArray 3) ∧ (∀ x ∈ msTo rule ms (rd.take j), 0 ≤ x ∧ x < 1000) ∧ Frame (fun b => b = bM) w wr) (fun i _ => rd.length - (intOf i).toNat)
  case atStart => exact ⟨0, Nat.zero_le _, rfl, HMS.out, HBD.out, Frame.refl _ _⟩
  case round =>
    obtain ⟨j, hj, rfl, hblk, hbd, hF⟩ := hrel
    have HB := Lib.hid hblk
    have HBDj := Lib.hid hbd
    have HF := Lib.hid hF
    have b0 := (HBX.out.frame hF hne1).cell 0 (v := .slice (some ⟨bM, 0, none⟩) L L) rfl
    have lb := (HBX.out.frame hF hne1).lt
    have g1 := (HGR.out.frame hF hne2).cell 1 (v := .slice A L c) rfl
    have lg := (HGR.out.frame hF hne2).lt
    have lm := hblk.lt
    by_cases hjt : j < rd.length
    · obtain ⟨r, bx, ox, hr, hbx, hix, hcx⟩ := ints_at (c := e) (hR.frame hF (fun _ a ha => hRM a ha)) Try.underlying22 szInt hjt
      have hrb := hrd.out r (List.mem_of_getElem? hr)
      obtain ⟨r, rfl⟩ := Int.eq_ofNat_of_zero_le hrb.1
      have hrL : r < L := by omega
      obtain ⟨ml, hmj⟩ : ∃ ml, msTo rule ms (rd.take j) = ml := ⟨_, rfl⟩
      rw [hmj] at hblk hbd HB HBDj
      have hmll : ml.length = L := by rw [← hmj, msTo_len]; exact HML.out
      have hrm : r < ml.length := by omega
      obtain ⟨v, hv⟩ : ∃ v, ml[r]? = some v := ⟨_, List.getElem?_eq_getElem hrm⟩
      have hvb := hbd v (List.mem_of_getElem? hv)
      have hgv : ml.getD r 0 = v := by simp [List.getD, hv]
      have hnot : (r : Int) ∉ rd.take j := by
        intro hm
        obtain ⟨i2, hi2⟩ := List.getElem?_of_mem hm
        rw [List.getElem?_take] at hi2
        split at hi2
        · rename_i hlt
          have := nodup_at HG.out.1 hi2 hr
          omega
        · cases hi2
      have hnd : (rd.take j).Nodup := HG.out.1.sublist (List.take_sublist _ _)
      have hvm : v = ms.getD r 0 := by
        rw [← hgv, ← hmj, msTo_get rule _ ms hnd (fun x hx => (hrd.out x (List.mem_of_mem_take hx)).1) r (by rw [HML.out]; exact hrL), if_neg hnot]
      have hgood : (r : Int) ≠ rule → v + 1 < (L : Int) := by
        intro hne
        rw [hvm]
        exact HG.out.2 r hrL (List.mem_of_getElem? hr) hne
      have hstep : msTo rule ms (rd.take (j + 1)) = mstep rule ml (r : Int) := by
        rw [take_succ_of hr]
        unfold msTo at hmj ⊢
        rw [List.foldl_append, hmj]
        rfl
      have HBDN : Hid (∀ x ∈ msTo rule ms (rd.take (j + 1)), 0 ≤ x ∧ x < 1000) := by
        rw [hstep]
        exact mstep_bd hL hbd (fun hne => by rw [Int.toNat_natCast, hgv]; exact hgood hne)
      have hcv := hblk.cell r (ints_get hv)
      have hfv := hblk.free r
      have hixm := ix_own (b := bM) (n := L) (c := L) Try.underlying22 szInt hrL
      have HST := Lib.hid hstep
      have HGV := Lib.hid hgv
      cases he : ((r : Int) == rule) with
      | true =>
        have her : (r : Int) = rule := by simpa using he
        have HNEW : Hid (msTo rule ms (rd.take (j + 1)) = ml.set r 0) := by
          show _ = _
          rw [hstep]
          unfold mstep
          rw [if_pos her, Int.toNat_natCast]
        have hge : decide ((L : Int) ≤ 0) = false := by simp; omega
        have hb1 := hblk.set r (.int .i64 (v + 1))
        rw [ints_set] at hb1
        have hb2 := hb1.set r (.int .i64 0)
        rw [ints_set, List.set_set] at hb2
        rw [← HNEW.out] at hb2
        have HB2 := Lib.hid hb2
        have hc1 := hb1.cell r (v := .int .i64 (v + 1)) (by simp [ints, hrm])
        have hf1 := hb1.free r
        obtain ⟨X, hX⟩ : ∃ X, (wr.setCell ⟨bM, r, none⟩ (.int .i64 (v + 1))).setCell ⟨bM, r, none⟩ (.int .i64 0) = X := ⟨_, rfl⟩
        rw [hX] at HB2
        have HFX : Hid (Frame (fun b => b = bM) w X) := by
          rw [← hX]
          exact (hF.setCell (p := ⟨bM, r, none⟩) (.inl rfl) _).setCell (p := ⟨bM, r, none⟩) (.inl rfl) _
        have hFX := HFX.out
        have d0 := (HBX.out.frame hFX hne1).cell 0 (v := .slice (some ⟨bM, 0, none⟩) L L) rfl
        have d1 := (HGR.out.frame hFX hne2).cell 1 (v := .slice A L c) rfl
        have d2 := HB2.out.cell r (v := .int .i64 0) (by rw [HNEW.out]; simp [ints, hrm])
        have lX1 := (HBX.out.frame hFX hne1).lt
        have lX2 := (HGR.out.frame hFX hne2).lt
        have lX3 := HB2.out.lt
        clear hr hrb hmj hblk hbd hv hgv hnot hnd hvm hgood hstep hb1 hb2 hF hFX her
        have HXX := Lib.hid hX
        clear hX
        go_wp2
        rw [HXX.out]
        clear b0 g1 hcv hfv hc1 hf1 hix hcx
        refine sall (by kernel_rfl) (by kernel_rfl) (fun Kq hKq => ?_)
        repeat still_step
        refine wpStill_nil (hKq _ ?_)
        clear hKq Kq
        go_wp2
        go_roundw
        case rel => exact ⟨j + 1, by omega, by go_num, HB2.out.drew, HBDN.out, HFX.out.drew⟩
        case measure => simp [intOf]; omega
      | false =>
        have her : (r : Int) ≠ rule := by simpa using he
        have hg2 := hgood her
        have HNEW : Hid (msTo rule ms (rd.take (j + 1)) = ml.set r (v + 1)) := by
          show _ = _
          rw [hstep]
          unfold mstep
          rw [if_neg her, Int.toNat_natCast, hgv]
        have hge : decide ((L : Int) ≤ v + 1) = false := by simp; omega
        have hb1 := hblk.set r (.int .i64 (v + 1))
        rw [ints_set] at hb1
        rw [← HNEW.out] at hb1
        have HB2 := Lib.hid hb1
        obtain ⟨X, hX⟩ : ∃ X, wr.setCell ⟨bM, r, none⟩ (.int .i64 (v + 1)) = X := ⟨_, rfl⟩
        rw [hX] at HB2
        have HFX : Hid (Frame (fun b => b = bM) w X) := by
          rw [← hX]
          exact hF.setCell (p := ⟨bM, r, none⟩) (.inl rfl) _
        have hFX := HFX.out
        have d0 := (HBX.out.frame hFX hne1).cell 0 (v := .slice (some ⟨bM, 0, none⟩) L L) rfl
        have d1 := (HGR.out.frame hFX hne2).cell 1 (v := .slice A L c) rfl
        have d2 := HB2.out.cell r (v := .int .i64 (v + 1)) (by rw [HNEW.out]; simp [ints, hrm])
        have lX1 := (HBX.out.frame hFX hne1).lt
        have lX2 := (HGR.out.frame hFX hne2).lt
        have lX3 := HB2.out.lt
        clear hr hrb hmj hblk hbd hv hgv hnot hnd hvm hgood hstep hb1 hF hFX her hg2
        have HXX := Lib.hid hX
        clear hX
        go_wp2
        rw [HXX.out]
        clear b0 g1 hcv hfv hix hcx
        refine sall (by kernel_rfl) (by kernel_rfl) (fun Kq hKq => ?_)
        repeat still_step
        refine wpStill_nil (hKq _ ?_)
        clear hKq Kq
        go_wp2
        go_roundw
        case rel => exact ⟨j + 1, by omega, by go_num, HB2.out.drew, HBDN.out, HFX.out.drew⟩
        case measure => simp [intOf]; omega
    · obtain rfl : j = rd.length := by omega
      rw [List.take_length] at HB HBDj
      have hml2 : (msTo rule ms rd).length = L := by rw [msTo_len]; exact HML.out
      have HBXr := Lib.hid (HBX.out.frame hF hne1)
      have HGRr := Lib.hid (HGR.out.frame hF hne2)
      clear hblk hbd hF
      go_wp2
      go_ret
      exact ⟨rfl, ⟨HBXr.out, HB.out, hml2, HGRr.out, HBDj.out⟩, HF.out⟩

theorem turn_watch (n : Int) (A : Option Addr) (c L bb bM bg : Nat) (hL : L ≤ 1000) : WatchOk 40 #[.pointer (some ⟨bb, 0, none⟩), .pointer (some ⟨bg, 0, none⟩)] L (fun b => b = bM) (TurnInv n A c L bb bM bg) turnNx (turnGood L) where
  enter := enters_of Try.func40 (by kernel_rfl) rfl
  keep := by
    intro s T w w' h hF hT
    have key : ∀ (b : Nat) (cs : Array Value) (t : TypeId), Blk w b (.cells cs t) → ¬ T b := by
      intro b cs t hb hTb
      obtain ⟨mm, hm⟩ := hT b hb.lt hTb
      exact hm.not_blk hb rfl
    exact ⟨h.box.frame hF (key _ _ _ h.box), h.row.frame hF (key _ _ _ h.row), h.len, h.grp.frame hF (key _ _ _ h.grp), h.bd⟩
  calls := by
    intro s i rule rd R e w hI hrd hi hg hR hRS
    exact turn1_any n A c L bb bM bg hL s i rule rd R e w hI hrd hg hR hRS

/-- Along the fair run the choice is fair. -/
theorem turn_fair {N : Nat} {rs l : List Int} : ∀ k, k ≤ l.length →
    FairOk rs.length k (qTo rs chFair N (List.replicate rs.length 0) l k).st (wTo turnNx (List.replicate rs.length 0) rs l (qTo rs chFair N (List.replicate rs.length 0) l l.length).out (fun k => (qTo rs chFair N (List.replicate rs.length 0) l k).many) k) ∧
    (k < l.length → turnGood rs.length (wTo turnNx (List.replicate rs.length 0) rs l (qTo rs chFair N (List.replicate rs.length 0) l l.length).out (fun k => (qTo rs chFair N (List.replicate rs.length 0) l k).many) k) k ((qTo rs chFair N (List.replicate rs.length 0) l l.length).out.getD k 0)
      (readyL rs (setQ (incAt (qTo rs chFair N (List.replicate rs.length 0) l k).many (l.getD k 0))))) := by
  have main : ∀ k, k < l.length → ∀ ms, FairOk rs.length k (qTo rs chFair N (List.replicate rs.length 0) l k).st ms →
      FairOk rs.length (k + 1) (qTo rs chFair N (List.replicate rs.length 0) l (k + 1)).st (turnNx ms k ((qTo rs chFair N (List.replicate rs.length 0) l l.length).out.getD k 0) (readyL rs (setQ (incAt (qTo rs chFair N (List.replicate rs.length 0) l k).many (l.getD k 0))))) ∧
      turnGood rs.length ms k ((qTo rs chFair N (List.replicate rs.length 0) l l.length).out.getD k 0) (readyL rs (setQ (incAt (qTo rs chFair N (List.replicate rs.length 0) l k).many (l.getD k 0)))) := by
    intro k hk ms h
    have hx : l[k]? = some l[k] := List.getElem?_eq_getElem hk
    have hgx : l.getD k 0 = l[k] := by simp [List.getD, hx]
    rw [hgx]
    obtain ⟨rd, hrd⟩ : ∃ rd, readyL rs (setQ (incAt (qTo rs chFair N (List.replicate rs.length 0) l k).many l[k])) = rd := ⟨_, rfl⟩
    have hnd : rd.Nodup := by rw [← hrd]; exact ready_nodup _ _
    have hbd : ∀ x ∈ rd, 0 ≤ x ∧ x < (rs.length : Int) := by rw [← hrd]; exact fun x hx => readyL_bd hx
    rw [hrd]
    by_cases hne : rd = []
    · have e := qTo_none (rs := rs) (ch := chFair) (N := N) (s0 := List.replicate rs.length 0) rfl hx (hrd.trans hne)
      rw [e, hne]
      refine ⟨⟨h.l1, h.l2, fun r hr => ?_, h.ms⟩, by simp, fun r _ hm => by simp at hm⟩
      have := h.bd r hr
      dsimp only
      push_cast
      omega
    · obtain ⟨h1, h2⟩ := h.step hnd hbd hne
      have hbm : bestF (qTo rs chFair N (List.replicate rs.length 0) l k).st rd ∈ rd := bestTo_mem (List.length_pos_iff.2 hne) _ (Nat.le_refl _)
      obtain ⟨hb0, hb1⟩ := hbd _ hbm
      have e := qTo_some (rs := rs) (ch := chFair) (N := N) (s0 := List.replicate rs.length 0) (r := rs[(bestF (qTo rs chFair N (List.replicate rs.length 0) l k).st rd).toNat]'(by omega)) rfl hx hrd hne (List.getElem?_eq_getElem (by show (bestF _ rd).toNat < _; omega))
      have ho : (qTo rs chFair N (List.replicate rs.length 0) l l.length).out[k]? = some (bestF (qTo rs chFair N (List.replicate rs.length 0) l k).st rd) := qTo_out hk (by rw [e]; rfl)
      have hgo : (qTo rs chFair N (List.replicate rs.length 0) l l.length).out.getD k 0 = bestF (qTo rs chFair N (List.replicate rs.length 0) l k).st rd := by simp [List.getD, ho]
      rw [hgo, e]
      exact ⟨h1, hnd, h2⟩
  intro k
  induction k with
  | zero => exact fun _ => ⟨FairOk.start _, fun hk => (main 0 hk _ (FairOk.start _)).2⟩
  | succ k ih =>
    intro hk
    have h := (main k (by omega) _ (ih (by omega)).1).1
    exact ⟨h, fun hk2 => (main (k + 1) hk2 _ h).2⟩
end Go.Proofs.Ytlnonadkdonhmaa

/- The walk of AutoTurns. -/
namespace Go.Proofs.Ytlnonadkdonhmaa
open Go.RowKit Go.Maps


set_option maxRecDepth 100000 in
set_option maxHeartbeats 4000000 in
theorem turns_no (n : Int) (A : Option Addr) (c : Nat) (rs : List Int) (D : Option Addr) (f : Nat) (l : List Int) (w : World) (hA : Cells w A (ints rs)) (hD : Cells w D (ints l)) (h : (decide (rs.length ≤ 30) && grpOk n rs && comeR n l) = false) :
    Calls Try.prog 7 #[.agg #[.int .i64 n, .slice A rs.length c], .slice D l.length f] w fun e w' => e = .returned (.bool true) ∧ Below w.heap.size w w' := by
  cases hs : decide (rs.length ≤ 30) with
  | false =>
    have HS := Lib.hid hs
    clear h hs
    have HB0 : Hid (Below w.heap.size w (w.alloc (.cells #[.int .i64 n, .slice A rs.length c] 24))) := (Below.refl _ w).alloc (Nat.le_refl _) _
    have HA0 := Lib.hid (hA.below HB0.out (Nat.le_refl _))
    have hgm := Blk.new w (.cells #[.int .i64 n, .slice A rs.length c] 24)
    go_enter Try.func7, Try.ntmps7
    go_wp2_with fail
    obtain ⟨W, hW⟩ : ∃ W, w.alloc (.cells #[.int .i64 n, .slice A rs.length c] 24) = W := ⟨_, rfl⟩
    rw [hW] at HB0 HA0 hgm
    rw [hW]
    have c0 := hgm.cell 0 (v := .int .i64 n) rfl
    have c1 := hgm.cell 1 (v := .slice A rs.length c) rfl
    have hl0 := hgm.lt
    have HGK := Lib.hid hgm
    clear hW hgm
    refine (small_any n A rs.length c W).mono ?_
    rintro e w1 ⟨rfl, hB1⟩
    rw [HS.out]
    go_wp2_with (go_at_call 20; go_must (refine (known_any _).mono ?_); rintro e wz ⟨rfl, hBz⟩)
    go_ret
    exact ⟨rfl, below_in HB0.out (below_in hB1 hBz)⟩
  | true =>
    have HS := Lib.hid hs
    cases hg : grpOk n rs with
    | false =>
      have HG := Lib.hid hg
      clear h hs hg
      have HB0 : Hid (Below w.heap.size w (w.alloc (.cells #[.int .i64 n, .slice A rs.length c] 24))) := (Below.refl _ w).alloc (Nat.le_refl _) _
      have HA0 := Lib.hid (hA.below HB0.out (Nat.le_refl _))
      have hgm := Blk.new w (.cells #[.int .i64 n, .slice A rs.length c] 24)
      go_enter Try.func7, Try.ntmps7
      go_wp2_with fail
      obtain ⟨W, hW⟩ : ∃ W, w.alloc (.cells #[.int .i64 n, .slice A rs.length c] 24) = W := ⟨_, rfl⟩
      rw [hW] at HB0 HA0 hgm
      rw [hW]
      have c0 := hgm.cell 0 (v := .int .i64 n) rfl
      have c1 := hgm.cell 1 (v := .slice A rs.length c) rfl
      have hl0 := hgm.lt
      have HGK := Lib.hid hgm
      clear hW hgm
      refine (small_any n A rs.length c W).mono ?_
      rintro e w1 ⟨rfl, hB1⟩
      rw [HS.out]
      have x0 := cell_chain hB1 hl0 c0
      have x1 := cell_chain hB1 hl0 c1
      go_wp2_with fail
      clear x0 x1
      refine (group_any n A c rs w1 (HA0.out.below hB1 (Nat.le_refl _))).mono ?_
      rintro e w2 ⟨rfl, hB2⟩
      rw [HG.out]
      have hI2 := below_in hB1 hB2
      go_wp2_with (go_at_call 20; go_must (refine (known_any _).mono ?_); rintro e wz ⟨rfl, hBz⟩)
      go_ret
      exact ⟨rfl, below_in HB0.out (below_in hI2 hBz)⟩
    | true =>
      have hr : comeR n l = false := by rw [hs, hg] at h; simpa using h
      have HG := Lib.hid hg
      have HCR := Lib.hid hr
      clear h hs hg hr
      have HB0 : Hid (Below w.heap.size w (w.alloc (.cells #[.int .i64 n, .slice A rs.length c] 24))) := (Below.refl _ w).alloc (Nat.le_refl _) _
      have HA0 := Lib.hid (hA.below HB0.out (Nat.le_refl _))
      have hgm := Blk.new w (.cells #[.int .i64 n, .slice A rs.length c] 24)
      go_enter Try.func7, Try.ntmps7
      go_wp2_with fail
      obtain ⟨W, hW⟩ : ∃ W, w.alloc (.cells #[.int .i64 n, .slice A rs.length c] 24) = W := ⟨_, rfl⟩
      rw [hW] at HB0 HA0 hgm
      rw [hW]
      have c0 := hgm.cell 0 (v := .int .i64 n) rfl
      have c1 := hgm.cell 1 (v := .slice A rs.length c) rfl
      have hl0 := hgm.lt
      have HGK := Lib.hid hgm
      clear hW hgm
      refine (small_any n A rs.length c W).mono ?_
      rintro e w1 ⟨rfl, hB1⟩
      rw [HS.out]
      have x0 := cell_chain hB1 hl0 c0
      have x1 := cell_chain hB1 hl0 c1
      go_wp2_with fail
      clear x0 x1
      refine (group_any n A c rs w1 (HA0.out.below hB1 (Nat.le_refl _))).mono ?_
      rintro e w2 ⟨rfl, hB2⟩
      rw [HG.out]
      have hI2 := below_in hB1 hB2
      have x0 := cell_chain hI2 hl0 c0
      have x1 := cell_chain hI2 hl0 c1
      have HD0 := Lib.hid (hD.below HB0.out (Nat.le_refl _))
      go_wp2_with fail
      clear x0 x1
      refine (Come_any n A c rs D f l w2 (HD0.out.below hI2 (Nat.le_refl _))).mono ?_
      rintro e w3 ⟨rfl, hB3⟩
      rw [HCR.out]
      have hI3 := below_in hI2 hB3
      go_wp2_with (go_at_call 20; go_must (refine (known_any _).mono ?_); rintro e wz ⟨rfl, hBz⟩)
      go_ret
      exact ⟨rfl, below_in HB0.out (below_in hI3 hBz)⟩

set_option maxRecDepth 100000 in
set_option maxHeartbeats 8000000 in
theorem turns_yes (n : Int) (A : Option Addr) (c : Nat) (rs : List Int) (D : Option Addr) (f : Nat) (l : List Int) (w : World) (hA : Cells w A (ints rs)) (hD : Cells w D (ints l)) (h : (decide (rs.length ≤ 30) && grpOk n rs && comeR n l) = true) :
    Calls Try.prog 7 #[.agg #[.int .i64 n, .slice A rs.length c], .slice D l.length f] w fun e w' => e = .returned (.bool true) ∧ Below w.heap.size w w' := by
  simp only [Bool.and_eq_true] at h
  obtain ⟨⟨hs, hg⟩, hr⟩ := h
  have ho : comeI n rs l = true := by
    have e : comeI n rs l = (grpOk n rs && comeR n l) := by unfold comeI comeR; rw [Bool.and_assoc]
    rw [e, hg, hr]; rfl
  have hr' := hr
  simp only [comeR, Bool.and_eq_true, decide_eq_true_eq, Bool.not_eq_true'] at hr'
  obtain ⟨hl60, hbad⟩ := hr'
  obtain ⟨hn1, hn6, hrl, _⟩ := grpOk_true hg
  obtain ⟨N, hN⟩ := Int.eq_ofNat_of_zero_le (show 0 ≤ n by omega)
  have hnN : n.toNat = N := by omega
  have HN : Hid ((N : Int) = n) := hN.symm
  have hl : Hid (∀ x ∈ l, 0 ≤ x ∧ x < (N : Int)) := by
    intro x hx
    have hb : badC n x = false := by
      rw [List.any_eq_false] at hbad
      simpa using hbad x hx
    simp [badC] at hb
    omega
  have HTF : Hid _ := @turn_fair N rs l
  have HPL : Hid (PlayOk N rs l (qTo rs chFair N (List.replicate rs.length 0) l l.length).out (qTo rs chFair N (List.replicate rs.length 0) l l.length).many (fun k => (qTo rs chFair N (List.replicate rs.length 0) l k).many)) :=
    qTo_play (fair_choice 0 0 rs.length (by omega)).mem
  obtain ⟨Mk, hMk⟩ : ∃ Mk : Nat → List Int, (fun k => (qTo rs chFair N (List.replicate rs.length 0) l k).many) = Mk := ⟨_, rfl⟩
  obtain ⟨Q, hQ⟩ : ∃ Q, qTo rs chFair N (List.replicate rs.length 0) l l.length = Q := ⟨_, rfl⟩
  have HGD : Hid (∀ k, k < l.length → turnGood rs.length (wTo turnNx (List.replicate rs.length 0) rs l Q.out Mk k) k (Q.out.getD k 0) (readyL rs (setQ (incAt (Mk k) (l.getD k 0))))) := by
    intro k hk
    have e := (HTF.out k (by omega)).2 hk
    rw [hQ, hMk] at e
    rw [← hMk] at e ⊢
    exact e
  rw [hQ, hMk] at HPL
  have HR : Hid (fairR n rs l = Q.out) := by show _ = _; unfold fairR fairQ; rw [ho, hnN, hQ]; rfl
  have HL : Hid (fairL n rs l = Q.many) := by show _ = _; unfold fairL fairQ; rw [ho, hnN, hQ]; rfl
  have HE : Hid (errI (comeI n rs l) = 0) := by show _ = _; rw [ho]; rfl
  have HS := Lib.hid hs
  have HG := Lib.hid hg
  have HCR := Lib.hid hr
  obtain ⟨i0, hi, hz0, hz1, hz2⟩ := info_parts info3
  clear hs hg hr ho hbad hnN hN hMk hQ HTF hn1 hn6
  have HB0 : Hid (Below w.heap.size w (w.alloc (.cells #[.int .i64 n, .slice A rs.length c] 24))) := (Below.refl _ w).alloc (Nat.le_refl _) _
  have HA0 := Lib.hid (hA.below HB0.out (Nat.le_refl _))
  have hgm := Blk.new w (.cells #[.int .i64 n, .slice A rs.length c] 24)
  go_enter Try.func7, Try.ntmps7
  go_wp2_with fail
  obtain ⟨W, hW⟩ : ∃ W, w.alloc (.cells #[.int .i64 n, .slice A rs.length c] 24) = W := ⟨_, rfl⟩
  rw [hW] at HB0 HA0 hgm
  rw [hW]
  have c0 := hgm.cell 0 (v := .int .i64 n) rfl
  have c1 := hgm.cell 1 (v := .slice A rs.length c) rfl
  have hl0 := hgm.lt
  have HGK := Lib.hid hgm
  clear hW hgm
  refine (small_any n A rs.length c W).mono ?_
  rintro e w1 ⟨rfl, hB1⟩
  rw [HS.out]
  have x0 := cell_chain hB1 hl0 c0
  have x1 := cell_chain hB1 hl0 c1
  go_wp2_with fail
  clear x0 x1
  refine (group_any n A c rs w1 (HA0.out.below hB1 (Nat.le_refl _))).mono ?_
  rintro e w2 ⟨rfl, hB2⟩
  rw [HG.out]
  have hI2 := below_in hB1 hB2
  have x0 := cell_chain hI2 hl0 c0
  have x1 := cell_chain hI2 hl0 c1
  have HD0 := Lib.hid (hD.below HB0.out (Nat.le_refl _))
  go_wp2_with fail
  clear x0 x1
  refine (Come_any n A c rs D f l w2 (HD0.out.below hI2 (Nat.le_refl _))).mono ?_
  rintro e w3 ⟨rfl, hB3⟩
  rw [HCR.out]
  have hI3 := below_in hI2 hB3
  have x0 := cell_chain hI3 hl0 c0
  have x1 := cell_chain hI3 hl0 c1
  go_wp2_with fail
  clear x0 x1
  refine (Fair_any n A c rs D f l w3 (HA0.out.below hI3 (Nat.le_refl _)) (HD0.out.below hI3 (Nat.le_refl _))).mono ?_
  rintro e w4 ⟨A4, c4, B4, d4, rfl, hC4, hE4, hB4⟩
  rw [HR.out] at hC4 ⊢
  rw [HL.out] at hE4 ⊢
  rw [HE.out]
  have hI4 := below_in hI3 hB4
  have HC4 := Lib.hid hC4
  have HE4 := Lib.hid hE4
  have HI4 := Lib.hid hI4
  have x0 := cell_chain hI4 hl0 c0
  have x1 := cell_chain hI4 hl0 c1
  have lx : w.heap.size < w4.heap.size := Nat.lt_of_lt_of_le hl0 hI4.size
  have HBG4 : Hid (∀ z, Below w4.heap.size w4 z → z.cell? ⟨w.heap.size, 0, none⟩ = some (.int .i64 n) ∧ z.cell? ⟨w.heap.size, 1, none⟩ = some (.slice A rs.length c)) := fun z hz => ⟨cell_chain (below_in hI4 hz) hl0 c0, cell_chain (below_in hI4 hz) hl0 c1⟩
  clear hC4 hE4 hB4 hI2 hI3 hI4 hB1 hB2 hB3
  go_wp2_with (first
    | (at_make; go_must (refine wpList_make_full _ rfl _ _ 22 rfl w4.heap.size 3 i0 (.int .i64 0) 1 Try.underlying22 hi hz0 hz1 .i64 .i64 rs.length rs.length rs.length rfl rfl rfl rfl (by rw [hz2]; omega) (by unfold maxLen; omega) (Nat.le_refl _) ?_); intro w5 ho5 hg5; have hs5 := hg5.size; have hB5 : Below w4.heap.size w4 w5 := (Below.refl _ _).grown hg5 (Nat.le_refl _) (fun k e => by cases e); have y0 := (HBG4.out w5 hB5).1; have y1 := (HBG4.out w5 hB5).2; have ly : w.heap.size < w5.heap.size := Nat.lt_of_lt_of_le lx hs5)
    | fail)
  obtain ⟨w6, hw6⟩ : ∃ w6, w5.alloc (.cells #[.slice (some ⟨w4.heap.size, 0, none⟩) rs.length rs.length] 22) = w6 := ⟨_, rfl⟩
  rw [hw6]
  rw [made_ints] at ho5
  have hbM5 : Blk w5 w4.heap.size (.cells (ints (List.replicate rs.length 0)).toArray 3) := own_full ho5
  have hB46 : Below w4.heap.size w4 w6 := by rw [← hw6]; exact hB5.alloc (by omega) _
  have hbM : Blk w6 w4.heap.size (.cells (ints (List.replicate rs.length 0)).toArray 3) := by rw [← hw6]; exact hbM5.alloc _
  have hbb : Blk w6 w5.heap.size (.cells #[.slice (some ⟨w4.heap.size, 0, none⟩) rs.length rs.length] 22) := by rw [← hw6]; exact Blk.new _ _
  have hbg : Blk w6 w.heap.size (.cells #[.int .i64 n, .slice A rs.length c] 24) := HGK.out.below (below_in HI4.out hB46) hl0
  have hinv : TurnInv n A c rs.length w5.heap.size w4.heap.size w.heap.size (List.replicate rs.length 0) w6 := ⟨hbb, hbM, by simp, hbg, fun x hx => by simp at hx; omega⟩
  have hlt6 : w4.heap.size < w6.heap.size := hbM.lt
  have HB46 := Lib.hid hB46
  have e39 := followed_any 40 #[.pointer (some ⟨w5.heap.size, 0, none⟩), .pointer (some ⟨w.heap.size, 0, none⟩)] (fun b => b = w4.heap.size) (TurnInv n A c rs.length w5.heap.size w4.heap.size w.heap.size) turnNx (turnGood rs.length) (List.replicate rs.length 0)
    N A c rs D f l A4 c4 Q.out B4 d4 Q.many Mk w4 w6 (turn_watch n A c rs.length _ _ _ (by omega)) HPL.out (HA0.out.below HI4.out (Nat.le_refl _)) (HD0.out.below HI4.out (Nat.le_refl _)) HC4.out HE4.out hB46 hinv
    (fun b hb => by subst hb; exact ⟨Nat.le_refl _, hlt6⟩) (by rw [HN.out]; exact HG.out) hl hl60 HGD.out
  rw [HN.out] at e39
  clear hw6 ho5 hg5 hbM5 hbM hbb hbg hinv hB46 hB5 y0 y1 x0 x1
  refine e39.mono ?_
  rintro e w7 ⟨rfl, _, hF7⟩
  have hB7 : Below w4.heap.size w6 w7 := hF7.below (B := w4.heap.size) (fun b hb => by omega) (by omega)
  have HB47 : Hid (Below w4.heap.size w4 w7) := HB46.out.trans hB7
  clear e39 hF7 hB7
  go_wp2_with (go_at_call 20; go_must (refine (known_any _).mono ?_); rintro e wz ⟨rfl, hBz⟩)
  go_ret
  exact ⟨rfl, below_in HB0.out (below_in (below_in HI4.out HB47.out) hBz)⟩

theorem walk_turns (n : Int) (A : Option Addr) (c : Nat) (rs : List Int) (D : Option Addr) (f : Nat) (l : List Int) (w : World) (hA : Cells w A (ints rs)) (hD : Cells w D (ints l)) :
    Calls Try.prog 7 #[.agg #[.int .i64 n, .slice A rs.length c], .slice D l.length f] w fun e w' => e = .returned (.bool true) ∧ Below w.heap.size w w' := by
  cases h : (decide (rs.length ≤ 30) && grpOk n rs && comeR n l) with
  | false => exact turns_no n A c rs D f l w hA hD h
  | true => exact turns_yes n A c rs D f l w hA hD h
end Go.Proofs.Ytlnonadkdonhmaa

/- AutoTurns returns true for every group and list of messages, and leaves its arguments as they were. No condition. -/
namespace Go.Proofs.Ytlnonadkdonhmaa
open Go.ChangeShapes Go.WideShapes Go.ChangeAt Go.RowKit

theorem own_turns : ownKnob Try.prog.godebug = none := by kernel_rfl
theorem laid_turns : laidOutB Try.prog = true := by kernel_rfl

set_option maxRecDepth 100000 in
theorem lifted_turns (os : Os) (started : os.Started) (H : Type) (enc : TypeId × Value → H) :
    ReturnsInHanded {} Try.checked os 7 .any (Rows.autoTurnsSpec.pre6 enc Try.prog Try.f7 Rows.autoTurnsRow.domain false) (Rows.autoTurnsSpec.post enc Try.prog Try.f7 false true false false) := by
  refine returnsInHanded_of_change_sized (C := Try.checked) own_turns started (by kernel_rfl) Try.func7
    (ChangeSpec.witness6 (enc := enc) (C := Try.checked) false ⟨#[], #[.agg #[.int .i64 0, .slice none 0 0], .slice none 0 0], []⟩ 8 (by kernel_rfl) (by kernel_rfl) (by kernel_rfl) (by kernel_rfl)) ?_
  intro W base args ds gs before hval0 hW hcnd hsz0 _
  have hval : ∀ (j : Nat) t v, Try.f7.params[j]? = some t → args[j]? = some v → Value.okWide Try.prog W .any base t v := hval0
  have hsz : (DataW.weightsEach Try.prog (Try.f7.params.toList ++ Rows.autoTurnsSpec.plain.varTypes Try.prog) (ds ++ gs)).all (· ≤ reachBytes) = true := hsz0
  have hW' := hW
  obtain ⟨p, q, hA0, hV, rfl, hfz, hnd⟩ := hW
  have hA : DataW.TrodAll enc Try.prog W 0 (fun _ => true) true Try.f7.params.toList args.toList ds p := hA0
  rw [Try.params7] at hA hval hsz
  obtain ⟨v0, vs0, d0, ds0, p0, q0, hargs, rfl, rfl, h0, r0⟩ := trodAll_cons hA
  obtain ⟨v1, vs1, d1, ds1, p1, q1, rfl, rfl, rfl, h1, r1⟩ := trodAll_cons r0
  obtain ⟨rfl, rfl, rfl⟩ := trodAll_nil r1
  obtain rfl : args = #[v0, v1] := by cases args; simp_all
  obtain ⟨rfl, rfl⟩ := trodVars_none hV
  have s0 : sz Try.prog 24 d0 := sz_arg hsz (j := 0) rfl rfl
  obtain ⟨n0, A0, rs0, c0, rfl, hC0, hw0⟩ := arg_group (hval 0 24 v0 rfl rfl) h0 s0
  have k0 := h0
  have lt0 : ∀ x ∈ p0, x.block < W.heap.size := by obtain ⟨m, hm⟩ := k0; exact DataW.trod_lt m _ _ _ hm
  have s1 : sz Try.prog 22 d1 := sz_arg hsz (j := 1) rfl rfl
  obtain ⟨D1, xs1, f1, rfl, hC1⟩ := arg_slI (hval 1 22 v1 rfl rfl) h1 s1
  have k1 := h1
  have lt1 : ∀ x ∈ p1, x.block < W.heap.size := by obtain ⟨m, hm⟩ := k1; exact DataW.trod_lt m _ _ _ hm
  clear hA0 hval0
  refine (walk_turns n0 A0 c0 rs0 D1 f1 xs1 W hC0 hC1).mono fun e W' ⟨he, bel⟩ => ?_
  subst he
  exact ⟨_, rfl, _, _, _, [], _, [], hW', trodAll_mk1 (shut_bool Try.underlying4 _), (trodAll_cons_mk (Below.trod laid_turns (by kernel_rfl) (of_decide_eq_true (by kernel_rfl)) k0 bel lt0) (trodAll_cons_mk (Below.trod laid_turns (by kernel_rfl) (of_decide_eq_true (by kernel_rfl)) k1 bel lt1) trodAll_mk0)), rfl, bel.frame _, fun h => by cases h⟩

theorem turns_holds : Rows.AutoTurnsSaid :=
  OpenClaim.holds_of_wide 7 Try.f7 rfl rfl rfl rfl rfl rfl rfl ⟨rfl, rfl, rfl, rfl, rfl⟩ rfl rfl rfl rfl rfl (by kernel_rfl) Try.func7 (by kernel_rfl)
    (of_decide_eq_true (by kernel_rfl)) (by unfold Func.isWrapper; first | (rw [if_pos (by decide +kernel)]; kernel_rfl) | (rw [if_neg (by decide +kernel)]; exact ⟨rfl, rfl⟩))
    (fun os started H enc _ => lifted_turns os started H enc)
#print axioms turns_holds
end Go.Proofs.Ytlnonadkdonhmaa
