/- AutoChooses returns true for every group, list of messages and picks, and leaves its arguments as they were. No condition. -/
import Derived.Test.YtlnonadkdonhmaaL16
import Derived.Test.YtlnonadkdonhmaaL14
import Derived.Laws.CopyOwn
import Derived.Test.YtlnonadkdonhmaaL9
import Derived.Test.YtlnonadkdonhmaaL10
import Derived.Test.YtlnonadkdonhmaaRows

/- Picks: another pick for the last message. Contract: the closure of AutoChooses. -/
namespace Go.Proofs.Ytlnonadkdonhmaa
open Go.RowKit Go.Maps

/-- The picks with another one for the last of L messages. -/
def ownP (p : List Int) (L : Nat) (n : Int) : List Int := (p.take L ++ List.replicate (L - p.length) 0).set (L - 1) n
theorem ownP_len (p : List Int) (L : Nat) (n : Int) : (ownP p L n).length = L := by
  unfold ownP
  simp
  omega
theorem ownP_get {p : List Int} {L i : Nat} {n : Int} (hi : i + 1 < L) : (ownP p L n).getD i 0 = p.getD i 0 := by
  unfold ownP
  rw [List.getD_eq_getElem?_getD, List.getElem?_set_ne (by omega)]
  rcases Nat.lt_or_ge i p.length with h | h
  · rw [List.getElem?_append_left (by simp; omega), List.getElem?_take_of_lt (by omega), List.getD_eq_getElem?_getD]
  · rw [List.getElem?_append_right (by simp; omega), List.getD_eq_getElem?_getD, List.getElem?_eq_none h, List.getElem?_replicate]
    split <;> rfl
theorem ownP_last {p : List Int} {L : Nat} {n : Int} (hL : 0 < L) : (ownP p L n).getD (L - 1) 0 = n := by
  have h : L - 1 < (p.take L ++ List.replicate (L - p.length) 0).length := by simp; omega
  unfold ownP
  rw [List.getD_eq_getElem?_getD, List.getElem?_set_self h]
  rfl
theorem ownP_nn {p : List Int} {L : Nat} {n : Int} (hp : ∀ x ∈ p, 0 ≤ x) (hn : 0 ≤ n) : ∀ x ∈ ownP p L n, 0 ≤ x := by
  intro x hx
  rcases List.mem_or_eq_of_mem_set hx with h | h
  · rcases List.mem_append.1 h with h | h
    · exact hp x (List.mem_of_mem_take h)
    · have := (List.mem_replicate.1 h).2
      omega
  · omega

theorem own_same {rs l p : List Int} {N : Nat} {n : Int} : ∀ k, k + 1 ≤ l.length → qTo rs (chPick (ownP p l.length n)) N () l k = qTo rs (chPick p) N () l k
  | 0, _ => rfl
  | k + 1, hk => by
    have ih := own_same (rs := rs) (l := l) (p := p) (N := N) (n := n) k (by omega)
    have hc : ∀ rd, chPick (ownP p l.length n) () k rd = chPick p () k rd := by
      intro rd
      unfold chPick
      rw [ownP_get (by omega)]
    show qStep rs (chPick (ownP p l.length n)) (qTo rs (chPick (ownP p l.length n)) N () l k) k (l.getD k 0) = qStep rs (chPick p) (qTo rs (chPick p) N () l k) k (l.getD k 0)
    rw [ih]
    unfold qStep
    cases readyL rs (setQ (incAt (qTo rs (chPick p) N () l k).many (l.getD k 0))) with
    | nil => rfl
    | cons r t =>
      simp only
      rw [show (qTo rs (chPick p) N () l k).st = () from rfl, hc]
/-- The rules that are ready at the last message. -/
def lastRd (rs l p : List Int) (N : Nat) : List Int := readyL rs (setQ (incAt (qTo rs (chPick p) N () l (l.length - 1)).many (l.getD (l.length - 1) 0)))
theorem own_last {rs l p : List Int} {N : Nat} {n : Nat} {r : Int} (hL : 0 < l.length) (hr : (lastRd rs l p N)[n]? = some r) :
    (qTo rs (chPick (ownP p l.length (n : Int))) N () l l.length).out[l.length - 1]? = some r := by
  have hs := own_same (rs := rs) (l := l) (p := p) (N := N) (n := (n : Int)) (l.length - 1) (by omega)
  have hx : l[l.length - 1]? = some l[l.length - 1] := List.getElem?_eq_getElem (by omega)
  have hgx : l.getD (l.length - 1) 0 = l[l.length - 1] := by simp [List.getD, hx]
  have hne : lastRd rs l p N ≠ [] := by intro h; rw [h] at hr; simp at hr
  have hlt := (List.getElem?_eq_some_iff.1 hr).1
  have hmem : r ∈ lastRd rs l p N := List.mem_of_getElem? hr
  obtain ⟨b, q, hb, hbr, hw⟩ := ready_mem hmem
  have hch : (chPick (ownP p l.length (n : Int)) () (l.length - 1) (lastRd rs l p N)).1 = r := by
    unfold chPick
    rw [ownP_last hL, Int.toNat_natCast, Nat.mod_eq_of_lt hlt]
    simp [List.getD, hr]
  have e := qTo_some (rs := rs) (ch := chPick (ownP p l.length (n : Int))) (N := N) (s0 := ()) (l := l) (k := l.length - 1) (r := q) (rd := lastRd rs l p N) rfl hx (by rw [hs, ← hgx]; rfl) hne (by
    show rs[(chPick (ownP p l.length (n : Int)) () (l.length - 1) (lastRd rs l p N)).1.toNat]? = _
    rw [hch, hb]; simpa using hbr)
  exact qTo_out (by omega) (by rw [e]; show _ ++ [(chPick (ownP p l.length (n : Int)) () (l.length - 1) (lastRd rs l p N)).1] = _; rw [hch])

/-! ### the closure keeps the list of the ready ones -/
def chsNx (_ : List Int) (_ : Nat) (_ : Int) (rd : List Int) : List Int := rd
def ChsInv (bb : Nat) (s : List Int) (w : World) : Prop := ∃ R c, Blk w bb (.cells #[.slice R s.length c] 22) ∧ Cells w R (ints s) ∧ ∀ a, R = some a → a.block ≠ bb
theorem cells_map {w : World} {A : Option Addr} {cs : List Value} {a : Addr} (h : Cells w A cs) (hn : cs ≠ []) (ha : A = some a) {mm : List (Value × Value)} (hm : MapIs Try.prog 3 w a.block mm) : False := by
  obtain ⟨_, b, off, _, hA, hc⟩ := h
  obtain ⟨h1, _⟩ := hA hn
  rw [ha] at h1
  injection h1 with h1
  subst h1
  obtain ⟨es, ck, hb, _⟩ := hm
  obtain ⟨x, xs, rfl⟩ := List.exists_cons_of_ne_nil hn
  have e := hc 0 x rfl
  unfold Blk at hb
  simp only [World.cell?, hb] at e
  cases e

set_option maxRecDepth 100000 in
set_option maxHeartbeats 1000000 in
theorem chs1_any (bb : Nat) (s : List Int) (i : Nat) (rule : Int) (rd : List Int) (R : Option Addr) (c : Nat) (w : World) (hI : ChsInv bb s w) (hR : Cells w R (ints rd)) (hRS : ∀ a, R = some a → a.block ≠ bb) :
    Calls Try.prog 47 #[.int .i64 (i : Int), .int .i64 rule, .slice R rd.length c, .pointer (some ⟨bb, 0, none⟩)] w fun e w' => e = .returned (.bool true) ∧ ChsInv bb rd w' ∧ Frame (fun b => b = bb) w w' := by
  obtain ⟨R0, c0, hb, _, _⟩ := hI
  have hf := hb.free 0
  have hc := hb.cell 0 (v := .slice R0 s.length c0) rfl
  have hl := hb.lt
  have HF : Hid (Frame (fun b => b = bb) w (w.setCell ⟨bb, 0, none⟩ (.slice R rd.length c))) := (Frame.refl (fun b => b = bb) w).setCell (p := ⟨bb, 0, none⟩) (.inl rfl) _
  have HB : Hid (Blk (w.setCell ⟨bb, 0, none⟩ (.slice R rd.length c)) bb (.cells #[.slice R rd.length c] 22)) := hb.set1 _
  clear hb
  go_enter Try.func47, Try.ntmps47
  go_wp2
  go_ret
  exact ⟨rfl, ⟨R, c, HB.out, hR.frame HF.out (fun _ a ha => hRS a ha), hRS⟩, HF.out⟩

theorem chs_watch (bb L : Nat) : WatchOk 47 #[.pointer (some ⟨bb, 0, none⟩)] L (fun b => b = bb) (ChsInv bb) chsNx (fun _ _ _ _ => True) where
  enter := enters_of Try.func47 (by kernel_rfl) rfl
  keep := by
    rintro s T w w' ⟨R, c, hb, hR, hne⟩ hF hT
    refine ⟨R, c, hb.frame hF ?_, hR.frame hF ?_, hne⟩
    · intro hTb
      obtain ⟨mm, hm⟩ := hT bb hb.lt hTb
      exact hm.not_blk hb rfl
    · intro hn a ha hTa
      obtain ⟨mm, hm⟩ := hT a.block (hR.lt hn ha) hTa
      exact cells_map hR hn ha hm
  calls := by
    intro s i rule rd R c w hI _ _ _ hR hRS
    exact chs1_any bb s i rule rd R c w hI hR hRS
end Go.Proofs.Ytlnonadkdonhmaa

/- The walk of AutoChooses. -/
namespace Go.Proofs.Ytlnonadkdonhmaa
open Go.RowKit Go.Maps

theorem cells_src {w : World} {A : Option Addr} {xs : List Value} (h : Cells w A xs) (hn : xs ≠ []) : ∃ ad, A = some ad ∧ ∀ (j : Nat) (v : Value), xs[j]? = some v → w.cell? (ad.add j) = some v := by
  obtain ⟨_, b, off, _, hA, hc⟩ := h
  refine ⟨⟨b, off, none⟩, (hA hn).1, fun j v hj => ?_⟩
  have h2 : ((⟨b, off, none⟩ : Addr).add j) = ⟨b, off + j, none⟩ := by
    unfold Addr.add; split <;> simp_all
  rw [h2]
  exact hc j v hj
theorem splice_own (p : List Int) (L : Nat) : splice (ints (List.replicate L 0)) 0 (ints (p.take L)) = ints (p.take L ++ List.replicate (L - p.length) 0) := by
  unfold splice ints
  rw [List.take_zero, List.nil_append, Nat.zero_add, List.map_append, List.length_map, ← List.map_drop, List.drop_replicate, List.length_take]
  congr 3
  omega
theorem ownP_picks {p : List Int} {L : Nat} {n : Nat} (hp : ∀ x ∈ p, 0 ≤ x) (hL : L ≤ 60) : picksB (ownP p L (n : Int)) = true := by
  unfold picksB
  rw [ownP_len, Bool.and_eq_true]
  refine ⟨?_, by simpa using hL⟩
  rw [Bool.not_eq_true', List.any_eq_false]
  intro x hx
  have := ownP_nn hp (n := (n : Int)) (by omega) x hx
  simp [negB]
  omega
theorem last_rdn (rs l p : List Int) (N : Nat) : (lastRd rs l p N).length ≤ rs.length := pickTo_len _ _

def chsB (n : Int) (rs l p : List Int) : Bool := decide (rs.length ≤ 30) && grpOk n rs && comeR n l && picksB p


set_option maxRecDepth 100000 in
set_option maxHeartbeats 4000000 in
theorem chooses_no (n : Int) (A : Option Addr) (c : Nat) (rs : List Int) (D : Option Addr) (f : Nat) (l : List Int) (E : Option Addr) (g : Nat) (p : List Int) (w : World) (hA : Cells w A (ints rs)) (hD : Cells w D (ints l)) (hE : Cells w E (ints p)) (h : chsB n rs l p = false) :
    Calls Try.prog 10 #[.agg #[.int .i64 n, .slice A rs.length c], .slice D l.length f, .slice E p.length g] w fun e w' => e = .returned (.bool true) ∧ Below w.heap.size w w' := by
  unfold chsB at h
  cases hs : decide (rs.length ≤ 30) with
  | false =>
    have HS := Lib.hid hs
    clear h hs
    have HB0 : Hid (Below w.heap.size w (w.alloc (.cells #[.int .i64 n, .slice A rs.length c] 24))) := (Below.refl _ w).alloc (Nat.le_refl _) _
    have HA0 := Lib.hid (hA.below HB0.out (Nat.le_refl _))
    have hgm := Blk.new w (.cells #[.int .i64 n, .slice A rs.length c] 24)
    go_enter Try.func10, Try.ntmps10
    go_wp2_with fail
    obtain ⟨W, hW⟩ : ∃ W, w.alloc (.cells #[.int .i64 n, .slice A rs.length c] 24) = W := ⟨_, rfl⟩
    rw [hW] at HB0 HA0 hgm
    rw [hW]
    have c0 := hgm.cell 0 (v := .int .i64 n) rfl
    have c1 := hgm.cell 1 (v := .slice A rs.length c) rfl
    have hl0 := hgm.lt
    clear hW hgm
    refine (small_any n A rs.length c W).mono ?_
    rintro e w1 ⟨rfl, hB1⟩
    rw [HS.out]
    go_wp2_with (go_at_call 20; go_must (refine (known_any _).mono ?_); rintro e wz ⟨rfl, hBz⟩)
    go_ret
    exact ⟨rfl, below_in HB0.out (below_in hB1 hBz)⟩
  | true =>
    have HS := Lib.hid hs
    cases hg : grpOk n rs with
    | false =>
      have HG := Lib.hid hg
      clear h hs hg
      have HB0 : Hid (Below w.heap.size w (w.alloc (.cells #[.int .i64 n, .slice A rs.length c] 24))) := (Below.refl _ w).alloc (Nat.le_refl _) _
      have HA0 := Lib.hid (hA.below HB0.out (Nat.le_refl _))
      have hgm := Blk.new w (.cells #[.int .i64 n, .slice A rs.length c] 24)
      go_enter Try.func10, Try.ntmps10
      go_wp2_with fail
      obtain ⟨W, hW⟩ : ∃ W, w.alloc (.cells #[.int .i64 n, .slice A rs.length c] 24) = W := ⟨_, rfl⟩
      rw [hW] at HB0 HA0 hgm
      rw [hW]
      have c0 := hgm.cell 0 (v := .int .i64 n) rfl
      have c1 := hgm.cell 1 (v := .slice A rs.length c) rfl
      have hl0 := hgm.lt
      clear hW hgm
      refine (small_any n A rs.length c W).mono ?_
      rintro e w1 ⟨rfl, hB1⟩
      rw [HS.out]
      have x0 := cell_chain hB1 hl0 c0
      have x1 := cell_chain hB1 hl0 c1
      go_wp2_with fail
      clear x0 x1
      refine (group_any n A c rs w1 (HA0.out.below hB1 (Nat.le_refl _))).mono ?_
      rintro e w2 ⟨rfl, hB2⟩
      rw [HG.out]
      have hI2 := below_in hB1 hB2
      go_wp2_with (go_at_call 20; go_must (refine (known_any _).mono ?_); rintro e wz ⟨rfl, hBz⟩)
      go_ret
      exact ⟨rfl, below_in HB0.out (below_in hI2 hBz)⟩
    | true =>
      have HG := Lib.hid hg
      cases hr : comeR n l with
      | false =>
        have HCR := Lib.hid hr
        clear h hs hg hr
        have HB0 : Hid (Below w.heap.size w (w.alloc (.cells #[.int .i64 n, .slice A rs.length c] 24))) := (Below.refl _ w).alloc (Nat.le_refl _) _
        have HA0 := Lib.hid (hA.below HB0.out (Nat.le_refl _))
        have hgm := Blk.new w (.cells #[.int .i64 n, .slice A rs.length c] 24)
        go_enter Try.func10, Try.ntmps10
        go_wp2_with fail
        obtain ⟨W, hW⟩ : ∃ W, w.alloc (.cells #[.int .i64 n, .slice A rs.length c] 24) = W := ⟨_, rfl⟩
        rw [hW] at HB0 HA0 hgm
        rw [hW]
        have c0 := hgm.cell 0 (v := .int .i64 n) rfl
        have c1 := hgm.cell 1 (v := .slice A rs.length c) rfl
        have hl0 := hgm.lt
        clear hW hgm
        refine (small_any n A rs.length c W).mono ?_
        rintro e w1 ⟨rfl, hB1⟩
        rw [HS.out]
        have x0 := cell_chain hB1 hl0 c0
        have x1 := cell_chain hB1 hl0 c1
        go_wp2_with fail
        clear x0 x1
        refine (group_any n A c rs w1 (HA0.out.below hB1 (Nat.le_refl _))).mono ?_
        rintro e w2 ⟨rfl, hB2⟩
        rw [HG.out]
        have hI2 := below_in hB1 hB2
        have x0 := cell_chain hI2 hl0 c0
        have x1 := cell_chain hI2 hl0 c1
        have HD0 := Lib.hid (hD.below HB0.out (Nat.le_refl _))
        go_wp2_with fail
        clear x0 x1
        refine (Come_any n A c rs D f l w2 (HD0.out.below hI2 (Nat.le_refl _))).mono ?_
        rintro e w3 ⟨rfl, hB3⟩
        rw [HCR.out]
        have hI3 := below_in hI2 hB3
        go_wp2_with (go_at_call 20; go_must (refine (known_any _).mono ?_); rintro e wz ⟨rfl, hBz⟩)
        go_ret
        exact ⟨rfl, below_in HB0.out (below_in hI3 hBz)⟩
      | true =>
        have hpk : picksB p = false := by rw [hs, hg, hr] at h; simpa using h
        have HCR := Lib.hid hr
        have HPK := Lib.hid hpk
        clear h hs hg hr hpk
        have HB0 : Hid (Below w.heap.size w (w.alloc (.cells #[.int .i64 n, .slice A rs.length c] 24))) := (Below.refl _ w).alloc (Nat.le_refl _) _
        have HA0 := Lib.hid (hA.below HB0.out (Nat.le_refl _))
        have hgm := Blk.new w (.cells #[.int .i64 n, .slice A rs.length c] 24)
        go_enter Try.func10, Try.ntmps10
        go_wp2_with fail
        obtain ⟨W, hW⟩ : ∃ W, w.alloc (.cells #[.int .i64 n, .slice A rs.length c] 24) = W := ⟨_, rfl⟩
        rw [hW] at HB0 HA0 hgm
        rw [hW]
        have c0 := hgm.cell 0 (v := .int .i64 n) rfl
        have c1 := hgm.cell 1 (v := .slice A rs.length c) rfl
        have hl0 := hgm.lt
        clear hW hgm
        refine (small_any n A rs.length c W).mono ?_
        rintro e w1 ⟨rfl, hB1⟩
        rw [HS.out]
        have x0 := cell_chain hB1 hl0 c0
        have x1 := cell_chain hB1 hl0 c1
        go_wp2_with fail
        clear x0 x1
        refine (group_any n A c rs w1 (HA0.out.below hB1 (Nat.le_refl _))).mono ?_
        rintro e w2 ⟨rfl, hB2⟩
        rw [HG.out]
        have hI2 := below_in hB1 hB2
        have x0 := cell_chain hI2 hl0 c0
        have x1 := cell_chain hI2 hl0 c1
        have HD0 := Lib.hid (hD.below HB0.out (Nat.le_refl _))
        go_wp2_with fail
        clear x0 x1
        refine (Come_any n A c rs D f l w2 (HD0.out.below hI2 (Nat.le_refl _))).mono ?_
        rintro e w3 ⟨rfl, hB3⟩
        rw [HCR.out]
        have hI3 := below_in hI2 hB3
        have HE0 := Lib.hid (hE.below HB0.out (Nat.le_refl _))
        go_wp2_with fail
        refine (Picks_any p E g w3 (HE0.out.below hI3 (Nat.le_refl _))).mono ?_
        rintro e wp ⟨rfl, rfl⟩
        rw [HPK.out]
        go_wp2_with (go_at_call 20; go_must (refine (known_any _).mono ?_); rintro e wz ⟨rfl, hBz⟩)
        go_ret
        exact ⟨rfl, below_in HB0.out (below_in hI3 hBz)⟩

set_option maxRecDepth 100000 in
set_option maxHeartbeats 8000000 in
theorem chooses_yes (n : Int) (A : Option Addr) (c : Nat) (rs : List Int) (D : Option Addr) (f : Nat) (l : List Int) (E : Option Addr) (g : Nat) (p : List Int) (w : World) (hA : Cells w A (ints rs)) (hD : Cells w D (ints l)) (hE : Cells w E (ints p)) (h : chsB n rs l p = true) :
    Calls Try.prog 10 #[.agg #[.int .i64 n, .slice A rs.length c], .slice D l.length f, .slice E p.length g] w fun e w' => e = .returned (.bool true) ∧ Below w.heap.size w w' := by
  simp only [chsB, Bool.and_eq_true] at h
  obtain ⟨⟨⟨hs, hg⟩, hr⟩, hpk⟩ := h
  have ho : comeI n rs l = true := by
    have e : comeI n rs l = (grpOk n rs && comeR n l) := by unfold comeI comeR; rw [Bool.and_assoc]
    rw [e, hg, hr]; rfl
  have hr' := hr
  simp only [comeR, Bool.and_eq_true, decide_eq_true_eq, Bool.not_eq_true'] at hr'
  obtain ⟨hl60, hbad⟩ := hr'
  obtain ⟨hn1, hn6, hrl, _⟩ := grpOk_true hg
  obtain ⟨N, hN⟩ := Int.eq_ofNat_of_zero_le (show 0 ≤ n by omega)
  have hnN : n.toNat = N := by omega
  have HN : Hid ((N : Int) = n) := hN.symm
  have hl : Hid (∀ x ∈ l, 0 ≤ x ∧ x < (N : Int)) := by
    intro x hx
    have hb : badC n x = false := by
      rw [List.any_eq_false] at hbad
      simpa using hbad x hx
    simp [badC] at hb
    omega
  have hpn : ∀ x ∈ p, 0 ≤ x := by
    intro x hx
    have e := hpk
    simp only [picksB, Bool.and_eq_true, Bool.not_eq_true', List.any_eq_false] at e
    have := e.1 x hx
    simp [negB] at this
    exact this
  have HPN := Lib.hid hpn
  have HPL : Hid (PlayOk N rs l (qTo rs (chPick p) N () l l.length).out (qTo rs (chPick p) N () l l.length).many (fun k => (qTo rs (chPick p) N () l k).many)) := qTo_play (fun s i rd h => chPick_mem p s i rd h)
  obtain ⟨Mk, hMk⟩ : ∃ Mk : Nat → List Int, (fun k => (qTo rs (chPick p) N () l k).many) = Mk := ⟨_, rfl⟩
  obtain ⟨Q, hQ⟩ : ∃ Q, qTo rs (chPick p) N () l l.length = Q := ⟨_, rfl⟩
  rw [hQ, hMk] at HPL
  have HMK := Lib.hid hMk
  have hpb : pickedB n rs l p = true := by unfold pickedB; rw [ho, hpk]; rfl
  have HR : Hid (pickedR n rs l p = Q.out) := by show _ = _; unfold pickedR pickedQ; rw [hpb, hnN, hQ]; rfl
  have HL : Hid (pickedL n rs l p = Q.many) := by show _ = _; unfold pickedL pickedQ; rw [hpb, hnN, hQ]; rfl
  have HE : Hid (errI (pickedB n rs l p) = 0) := by show _ = _; rw [hpb]; rfl
  have HCI := Lib.hid ho
  have HNN := Lib.hid hnN
  have HS := Lib.hid hs
  have HG := Lib.hid hg
  have HCR := Lib.hid hr
  have HPK := Lib.hid hpk
  obtain ⟨i0, hi, hz0, hz1, hz2⟩ := info_parts info3
  clear hs hg hr ho hbad hnN hN hMk hQ hn1 hn6 hpk hpn hpb
  have HB0 : Hid (Below w.heap.size w (w.alloc (.cells #[.int .i64 n, .slice A rs.length c] 24))) := (Below.refl _ w).alloc (Nat.le_refl _) _
  have HA0 := Lib.hid (hA.below HB0.out (Nat.le_refl _))
  have hgm := Blk.new w (.cells #[.int .i64 n, .slice A rs.length c] 24)
  go_enter Try.func10, Try.ntmps10
  go_wp2_with fail
  obtain ⟨W, hW⟩ : ∃ W, w.alloc (.cells #[.int .i64 n, .slice A rs.length c] 24) = W := ⟨_, rfl⟩
  rw [hW] at HB0 HA0 hgm
  rw [hW]
  have c0 := hgm.cell 0 (v := .int .i64 n) rfl
  have c1 := hgm.cell 1 (v := .slice A rs.length c) rfl
  have hl0 := hgm.lt
  clear hW hgm
  refine (small_any n A rs.length c W).mono ?_
  rintro e w1 ⟨rfl, hB1⟩
  rw [HS.out]
  have x0 := cell_chain hB1 hl0 c0
  have x1 := cell_chain hB1 hl0 c1
  go_wp2_with fail
  clear x0 x1
  refine (group_any n A c rs w1 (HA0.out.below hB1 (Nat.le_refl _))).mono ?_
  rintro e w2 ⟨rfl, hB2⟩
  rw [HG.out]
  have hI2 := below_in hB1 hB2
  have x0 := cell_chain hI2 hl0 c0
  have x1 := cell_chain hI2 hl0 c1
  have HD0 := Lib.hid (hD.below HB0.out (Nat.le_refl _))
  go_wp2_with fail
  clear x0 x1
  refine (Come_any n A c rs D f l w2 (HD0.out.below hI2 (Nat.le_refl _))).mono ?_
  rintro e w3 ⟨rfl, hB3⟩
  rw [HCR.out]
  have hI3 := below_in hI2 hB3
  have HE0 := Lib.hid (hE.below HB0.out (Nat.le_refl _))
  go_wp2_with fail
  refine (Picks_any p E g w3 (HE0.out.below hI3 (Nat.le_refl _))).mono ?_
  rintro e wp ⟨rfl, rfl⟩
  rw [HPK.out]
  have x0 := cell_chain hI3 hl0 c0
  have x1 := cell_chain hI3 hl0 c1
  go_wp2_with fail
  clear x0 x1
  refine (Picked_any n A c rs D f l E g p w3 (HA0.out.below hI3 (Nat.le_refl _)) (HD0.out.below hI3 (Nat.le_refl _)) (HE0.out.below hI3 (Nat.le_refl _))).mono ?_
  rintro e w4 ⟨A4, c4, B4, d4, rfl, hC4, hE4, hB4⟩
  rw [HR.out] at hC4 ⊢
  rw [HL.out] at hE4 ⊢
  rw [HE.out]
  have hI4 := below_in hI3 hB4
  have HC4 := Lib.hid hC4
  have HE4 := Lib.hid hE4
  have HI4 := Lib.hid hI4
  have x0 := cell_chain hI4 hl0 c0
  have x1 := cell_chain hI4 hl0 c1
  have lx : w.heap.size < w4.heap.size := Nat.lt_of_lt_of_le hl0 hI4.size
  clear hC4 hE4 hB4 hI2 hI3 hI4 hB1 hB2 hB3
  go_wp2_with fail
  obtain ⟨w6, hw6⟩ : ∃ w6, (w4.alloc (.cells #[] 3)).alloc (.cells #[.slice (some ⟨w4.heap.size, 0, none⟩) 0 0] 22) = w6 := ⟨_, rfl⟩
  rw [hw6]
  have hbb : Blk w6 (w4.heap.size + 1) (.cells #[.slice (some ⟨w4.heap.size, 0, none⟩) 0 0] 22) := by
    have e := Blk.new (w4.alloc (.cells #[] 3)) (.cells #[.slice (some ⟨w4.heap.size, 0, none⟩) 0 0] 22)
    rw [hw6, World.size_alloc] at e
    exact e
  have hB46 : Below w4.heap.size w4 w6 := by rw [← hw6]; exact ((Below.refl _ _).alloc (Nat.le_refl _) _).alloc (by simp) _
  have hinv : ChsInv (w4.heap.size + 1) [] w6 := ⟨some ⟨w4.heap.size, 0, none⟩, 0, hbb, Cells.nil _ _, fun a ha => by injection ha with ha; subst ha; simp⟩
  have hlt6 := hbb.lt
  have e39 := followed_any 47 #[.pointer (some ⟨w4.heap.size + 1, 0, none⟩)] (fun b => b = w4.heap.size + 1) (ChsInv (w4.heap.size + 1)) chsNx (fun _ _ _ _ => True) []
    N A c rs D f l A4 c4 Q.out B4 d4 Q.many Mk w4 w6 (chs_watch _ _) HPL.out (HA0.out.below HI4.out (Nat.le_refl _)) (HD0.out.below HI4.out (Nat.le_refl _)) HC4.out HE4.out hB46 hinv
    (fun b hb => by subst hb; exact ⟨by omega, hlt6⟩) (by rw [HN.out]; exact HG.out) hl hl60 (fun _ _ => trivial)
  rw [HN.out] at e39
  have HB46 := Lib.hid hB46
  clear hw6 hbb hinv hB46 x0 x1
  refine e39.mono ?_
  rintro e w7 ⟨rfl, hI7, hF7⟩
  have hB7 : Below w4.heap.size w6 w7 := hF7.below (B := w4.heap.size) (fun b hb => by have hb : b = w4.heap.size + 1 := hb; omega) (by omega)
  have HB47 : Hid (Below w4.heap.size w4 w7) := HB46.out.trans hB7
  clear e39 hF7 hB7
  by_cases hL : l.length = 0
  · have hz : ((l.length : Int) == 0) = true := by simp [hL]
    clear hI7 hL
    go_wp2_with (go_at_call 20; go_must (refine (known_any _).mono ?_); rintro e wz ⟨rfl, hBz⟩)
    go_ret
    exact ⟨rfl, below_in HB0.out (below_in (below_in HI4.out HB47.out) hBz)⟩
  · have hz : ((l.length : Int) == 0) = false := by rw [beq_eq_false_iff_ne]; omega
    have hLast : wTo chsNx [] rs l Q.out Mk l.length = lastRd rs l p N := by
      obtain ⟨k, hk⟩ : ∃ k, l.length = k + 1 := ⟨l.length - 1, by omega⟩
      unfold lastRd
      rw [hk, wTo, ← HMK.out]
      rfl
    rw [hLast] at hI7
    obtain ⟨R7, c7, hb7, hR7, _⟩ := hI7
    obtain ⟨L, HLR⟩ : ∃ L, Hid (lastRd rs l p N = L) := ⟨_, rfl⟩
    rw [HLR.out] at hb7 hR7
    have hLl : L.length ≤ 100 := by have := last_rdn rs l p N; rw [HLR.out] at this; omega
    have q0 := hb7.cell 0 (v := .slice R7 L.length c7) rfl
    have q1 := hb7.lt
    have HR7 := Lib.hid hR7
    have HI7 : Hid (Below w.heap.size w w7) := below_in HB0.out (below_in HI4.out HB47.out)
    have HJ7 : Hid (Below W.heap.size W w7) := below_in HI4.out HB47.out
    have HKE : Hid (∀ (k : Nat) (r : Int), L[k]? = some r → ∀ (V : World) (O : Option Addr), Below W.heap.size W V → Cells V O (ints (ownP p l.length (k : Int))) →
        Calls Try.prog 46 #[.agg #[.int .i64 n, .slice A rs.length c], .slice D l.length f, .slice O l.length l.length] V fun e w' => ∃ A' c' B' z d' xs, e = .returned (.tuple #[.slice A' l.length c', .slice B' z d', .int .i64 0]) ∧ xs.length = l.length ∧ xs[l.length - 1]? = some r ∧ Cells w' A' (ints xs) ∧ Below V.heap.size V w') := by
      intro k r hk V O hV hO
      have hO' := hO
      have e46 := Picked_any n A c rs D f l O l.length (ownP p l.length (k : Int)) V (HA0.out.below hV (Nat.le_refl _)) (HD0.out.below hV (Nat.le_refl _)) hO'
      rw [ownP_len] at e46
      have hpb : pickedB n rs l (ownP p l.length (k : Int)) = true := by unfold pickedB; rw [HCI.out, ownP_picks HPN.out hl60]; rfl
      have hR : pickedR n rs l (ownP p l.length (k : Int)) = (qTo rs (chPick (ownP p l.length (k : Int))) N () l l.length).out := by unfold pickedR pickedQ; rw [hpb, HNN.out]; rfl
      rw [hR, hpb] at e46
      have hlen : (qTo rs (chPick (ownP p l.length (k : Int))) N () l l.length).out.length = l.length := (qTo_ok (by decide) _).2
      rw [hlen] at e46
      refine e46.mono ?_
      rintro e w' ⟨A', c', B', d', rfl, h1, _, h3⟩
      exact ⟨A', c', B', _, d', _, rfl, hlen, own_last (by omega) (by rw [HLR.out]; exact hk), h1, h3⟩
    have HEW := Lib.hid (HE0.out.below HJ7.out (Nat.le_refl _))
    have hlp : l.length ≤ 60 := hl60
    have hplen : p.length ≤ 17592186043904 := by simpa [ints] using hE.1
    have HGW : Hid (∀ z, Below W.heap.size W z → z.cell? ⟨w.heap.size, 0, none⟩ = some (.int .i64 n) ∧ z.cell? ⟨w.heap.size, 1, none⟩ = some (.slice A rs.length c)) := fun z hz => ⟨cell_chain hz hl0 c0, cell_chain hz hl0 c1⟩
    have hWl := hl0
    have hs7 := HJ7.out.size
    clear hb7 hR7 hL hLast c0 c1 hl0
    go_wp2
    clear q0 q1
    go_loopw [68] (fun i wr => ∃ k : Nat, k ≤ L.length ∧ i = .int .i64 k ∧ Below w7.heap.size w7 wr) (fun i _ => L.length - (intOf i).toNat)
    case atStart => exact ⟨0, Nat.zero_le _, rfl, Below.refl _ _⟩
    case round =>
      obtain ⟨k, hk, rfl, hB⟩ := hrel
      have HB := Lib.hid hB
      have hszr := hB.size
      clear hB
      by_cases hkt : k < L.length
      · obtain ⟨r, b, o, hr, hb, hix, hcx⟩ := ints_at (c := c7) (HR7.out.below HB.out (Nat.le_refl _)) Try.underlying22 szInt hkt
        have HJr : Hid (Below W.heap.size W wr) := HJ7.out.trans (HB.out.mono hs7)
        have HK46 := Lib.hid (HKE.out k r hr)
        have HEr := Lib.hid (HEW.out.below HB.out (Nat.le_refl _))
        clear hr
        obtain ⟨CP, hCP⟩ : ∃ CP, ints (p.take l.length) = CP := ⟨_, rfl⟩
        have HCP := Lib.hid hCP
        have HCN : Hid (CP.length = Nat.min p.length l.length) := by
          show _ = _
          rw [← hCP]
          show (List.map _ (List.take l.length p)).length = min p.length l.length
          rw [List.length_map, List.length_take, Nat.min_comm]
        have HCF : Hid (0 + CP.length ≤ (ints (List.replicate l.length 0)).length) := by
          rw [← hCP]
          show 0 + (List.map _ (List.take l.length p)).length ≤ (List.map _ (List.replicate l.length (0 : Int))).length
          simp
          omega
        have HCO : Hid (∀ v ∈ CP, v.oneCell' = true) := by
          rw [← hCP]
          intro v hv
          obtain ⟨x, _, rfl⟩ := List.mem_map.1 hv
          rfl
        have HCS : Hid (∀ V : World, Below wr.heap.size wr V → 0 < CP.length → (some (⟨wr.heap.size, 0, none⟩ : Addr) = some ⟨wr.heap.size, 0, none⟩ ∧ ∃ ad, E = some ad ∧ ∀ (j : Nat) (v : Value), CP[j]? = some v → V.cell? (ad.add j) = some v)) := by
          intro V hV hpos
          have hne : ints p ≠ [] := by
            rintro e
            have : p = [] := by simpa [ints] using e
            subst this
            rw [← hCP] at hpos
            simp [ints] at hpos
          obtain ⟨ad, h1, h2⟩ := cells_src (HEr.out.below hV (Nat.le_refl _)) hne
          refine ⟨rfl, ad, h1, fun j v hv => h2 j v ?_⟩
          rw [← hCP] at hv
          unfold ints at hv ⊢
          rw [List.getElem?_map, List.getElem?_take] at hv
          rw [List.getElem?_map]
          split at hv
          · exact hv
          · cases hv
        clear hCP
        obtain ⟨OW, hOW⟩ : ∃ OW, p.take l.length ++ List.replicate (l.length - p.length) 0 = OW := ⟨_, rfl⟩
        have HSP : Hid (splice (ints (List.replicate l.length 0)) 0 CP = ints OW) := by
          show _ = _
          rw [← HCP.out, splice_own, hOW]
        have HOWP : Hid (OW.set (l.length - 1) (k : Int) = ownP p l.length (k : Int)) := by
          show _ = _
          unfold ownP
          rw [hOW]
        have hOL : OW.length = l.length := by rw [← hOW]; simp; omega
        have hlpos : 0 < l.length := by
          have : ¬ l.length = 0 := by simpa using hz
          omega
        obtain ⟨v, HV⟩ : ∃ v, Hid (OW[l.length - 1]? = some v) := ⟨_, List.getElem?_eq_getElem (by omega)⟩
        have hixm := ix_own (b := wr.heap.size) (n := l.length) (c := l.length) (k := l.length - 1) Try.underlying22 szInt (by omega)
        rw [show ((l.length - 1 : Nat) : Int) = (l.length : Int) - 1 by omega] at hixm
        clear hOW hOL
        go_wp2_with (first
          | (at_make; go_must (refine wpList_make_full _ rfl _ _ 22 rfl wr.heap.size 3 i0 (.int .i64 0) 1 Try.underlying22 hi hz0 hz1 .i64 .i64 l.length l.length l.length rfl rfl rfl rfl (by rw [hz2]; omega) (by unfold maxLen; omega) (Nat.le_refl _) ?_); intro w8 ho8 hg8; have hs8 := hg8.size; rw [made_ints] at ho8; have hb8 : Blk w8 wr.heap.size (.cells (ints (List.replicate l.length 0)).toArray 3) := own_full ho8; have hB8 : Below wr.heap.size wr w8 := (Below.refl _ _).grown hg8 (Nat.le_refl _) (fun k e => by cases e); have HB8 := Lib.hid hB8; have HO8 := Lib.hid hb8; clear ho8 hg8 hb8 hB8)
          | (refine wpList_copy_splice rfl _ _ 22 22 rfl 3 Try.underlying22 szInt _ E l.length l.length p.length g rfl rfl wr.heap.size 0 (ints (List.replicate l.length 0)) 3 HO8.out CP HCN.out (HCS.out w8 HB8.out) HCF.out HCO.out wr.heap.size wr HB8.out (Nat.le_refl _) ?_; intro w9 hr9 hB9; go_must (have hb9 : Blk w9 wr.heap.size (.cells (ints OW).toArray 3) := (by have e := hr9.out; rw [HSP.out] at e; exact e); have k9 := hb9.cell (l.length - 1) (ints_get HV.out); have f9 := hb9.free (l.length - 1); have l9 := hb9.lt; have HO9 := Lib.hid hb9; have HB9 := Lib.hid hB9; have s9 := hB9.size; have g0 := (HGW.out w9 (HJr.out.trans (hB9.mono (by have := HJr.out.size; omega)))).1; have g1 := (HGW.out w9 (HJr.out.trans (hB9.mono (by have := HJr.out.size; omega)))).2; have gl : w.heap.size < w9.heap.size := (by have := HJr.out.size; omega); clear hr9 hb9 hB9))
          | fail)
        have hb10 : Blk (w9.setCell ⟨wr.heap.size, l.length - 1, none⟩ (.int .i64 (k : Int))) wr.heap.size (.cells (ints (ownP p l.length (k : Int))).toArray 3) := by
          have e := HO9.out.set (l.length - 1) (.int .i64 (k : Int))
          rw [ints_set, HOWP.out] at e
          exact e
        have hB10 : Below wr.heap.size wr (w9.setCell ⟨wr.heap.size, l.length - 1, none⟩ (.int .i64 (k : Int))) := HB9.out.setCell (Nat.le_refl _) _
        obtain ⟨w10, hw10⟩ : ∃ w10, w9.setCell ⟨wr.heap.size, l.length - 1, none⟩ (.int .i64 (k : Int)) = w10 := ⟨_, rfl⟩
        rw [hw10] at hb10 hB10 ⊢
        have HB10 := Lib.hid hB10
        clear hw10 k9 f9 l9 g0 g1 gl hixm
        refine (HK46.out w10 (some ⟨wr.heap.size, 0, none⟩) (HJr.out.trans (hB10.mono (by have := HJr.out.size; omega))) (blk_cells hb10 (by rw [show (ints (ownP p l.length (k : Int))).length = (ownP p l.length (k : Int)).length by simp [ints], ownP_len]; omega))).mono ?_
        rintro e w11 ⟨A11, c11, B11, z11, d11, xs, rfl, hxl, hxr, hxs, hB11⟩
        obtain ⟨x2, b2, o2, hx2, hb2, hix2, hcx2⟩ := ints_at (c := c11) (k := l.length - 1) hxs Try.underlying22 szInt (by omega)
        obtain rfl : r = x2 := by rw [hxr] at hx2; injection hx2
        rw [hxl, show ((l.length - 1 : Nat) : Int) = (l.length : Int) - 1 by omega] at hix2
        have hne1 : ((l.length : Int) != (l.length : Int)) = false := by simp
        have hne2 : (r != r) = false := by simp
        have HB11 : Hid (Below w7.heap.size w7 w11) := HB.out.trans ((hB10.mono hszr).trans (hB11.mono (by have := hB10.size; omega)))
        clear hxl hxr hx2 hb10 hB10 hB11 hxs
        go_wp2
        go_roundw
        case rel => exact ⟨k + 1, by omega, by go_num, HB11.out⟩
        case measure => simp [intOf]; omega
      · obtain rfl : k = L.length := by omega
        go_wp2_with (go_at_call 20; go_must (refine (known_any _).mono ?_); rintro e wz ⟨rfl, hBz⟩)
        go_ret
        exact ⟨rfl, below_in HI7.out (below_in HB.out hBz)⟩

theorem walk_chooses (n : Int) (A : Option Addr) (c : Nat) (rs : List Int) (D : Option Addr) (f : Nat) (l : List Int) (E : Option Addr) (g : Nat) (p : List Int) (w : World) (hA : Cells w A (ints rs)) (hD : Cells w D (ints l)) (hE : Cells w E (ints p)) :
    Calls Try.prog 10 #[.agg #[.int .i64 n, .slice A rs.length c], .slice D l.length f, .slice E p.length g] w fun e w' => e = .returned (.bool true) ∧ Below w.heap.size w w' := by
  cases h : chsB n rs l p with
  | false => exact chooses_no n A c rs D f l E g p w hA hD hE h
  | true => exact chooses_yes n A c rs D f l E g p w hA hD hE h
end Go.Proofs.Ytlnonadkdonhmaa

/- AutoChooses returns true for every group, list of messages and picks, and leaves its arguments as they were. No condition. -/
namespace Go.Proofs.Ytlnonadkdonhmaa
open Go.ChangeShapes Go.WideShapes Go.ChangeAt Go.RowKit

theorem own_chooses : ownKnob Try.prog.godebug = none := by kernel_rfl
theorem laid_chooses : laidOutB Try.prog = true := by kernel_rfl

set_option maxRecDepth 100000 in
theorem lifted_chooses (os : Os) (started : os.Started) (H : Type) (enc : TypeId × Value → H) :
    ReturnsInHanded {} Try.checked os 10 .any (Rows.autoChoosesSpec.pre6 enc Try.prog Try.f10 Rows.autoChoosesRow.domain false) (Rows.autoChoosesSpec.post enc Try.prog Try.f10 false true false false) := by
  refine returnsInHanded_of_change_sized (C := Try.checked) own_chooses started (by kernel_rfl) Try.func10
    (ChangeSpec.witness6 (enc := enc) (C := Try.checked) false ⟨#[], #[.agg #[.int .i64 0, .slice none 0 0], .slice none 0 0, .slice none 0 0], []⟩ 8 (by kernel_rfl) (by kernel_rfl) (by kernel_rfl) (by kernel_rfl)) ?_
  intro W base args ds gs before hval0 hW hcnd hsz0 _
  have hval : ∀ (j : Nat) t v, Try.f10.params[j]? = some t → args[j]? = some v → Value.okWide Try.prog W .any base t v := hval0
  have hsz : (DataW.weightsEach Try.prog (Try.f10.params.toList ++ Rows.autoChoosesSpec.plain.varTypes Try.prog) (ds ++ gs)).all (· ≤ reachBytes) = true := hsz0
  have hW' := hW
  obtain ⟨p, q, hA0, hV, rfl, hfz, hnd⟩ := hW
  have hA : DataW.TrodAll enc Try.prog W 0 (fun _ => true) true Try.f10.params.toList args.toList ds p := hA0
  rw [Try.params10] at hA hval hsz
  obtain ⟨v0, vs0, d0, ds0, p0, q0, hargs, rfl, rfl, h0, r0⟩ := trodAll_cons hA
  obtain ⟨v1, vs1, d1, ds1, p1, q1, rfl, rfl, rfl, h1, r1⟩ := trodAll_cons r0
  obtain ⟨v2, vs2, d2, ds2, p2, q2, rfl, rfl, rfl, h2, r2⟩ := trodAll_cons r1
  obtain ⟨rfl, rfl, rfl⟩ := trodAll_nil r2
  obtain rfl : args = #[v0, v1, v2] := by cases args; simp_all
  obtain ⟨rfl, rfl⟩ := trodVars_none hV
  have s0 : sz Try.prog 24 d0 := sz_arg hsz (j := 0) rfl rfl
  obtain ⟨n0, A0, rs0, c0, rfl, hC0, hw0⟩ := arg_group (hval 0 24 v0 rfl rfl) h0 s0
  have k0 := h0
  have lt0 : ∀ x ∈ p0, x.block < W.heap.size := by obtain ⟨m, hm⟩ := k0; exact DataW.trod_lt m _ _ _ hm
  have s1 : sz Try.prog 22 d1 := sz_arg hsz (j := 1) rfl rfl
  obtain ⟨D1, xs1, f1, rfl, hC1⟩ := arg_slI (hval 1 22 v1 rfl rfl) h1 s1
  have k1 := h1
  have lt1 : ∀ x ∈ p1, x.block < W.heap.size := by obtain ⟨m, hm⟩ := k1; exact DataW.trod_lt m _ _ _ hm
  have s2 : sz Try.prog 22 d2 := sz_arg hsz (j := 2) rfl rfl
  obtain ⟨D2, xs2, f2, rfl, hC2⟩ := arg_slI (hval 2 22 v2 rfl rfl) h2 s2
  have k2 := h2
  have lt2 : ∀ x ∈ p2, x.block < W.heap.size := by obtain ⟨m, hm⟩ := k2; exact DataW.trod_lt m _ _ _ hm
  clear hA0 hval0
  refine (walk_chooses n0 A0 c0 rs0 D1 f1 xs1 D2 f2 xs2 W hC0 hC1 hC2).mono fun e W' ⟨he, bel⟩ => ?_
  subst he
  exact ⟨_, rfl, _, _, _, [], _, [], hW', trodAll_mk1 (shut_bool Try.underlying4 _), (trodAll_cons_mk (Below.trod laid_chooses (by kernel_rfl) (of_decide_eq_true (by kernel_rfl)) k0 bel lt0) (trodAll_cons_mk (Below.trod laid_chooses (by kernel_rfl) (of_decide_eq_true (by kernel_rfl)) k1 bel lt1) (trodAll_cons_mk (Below.trod laid_chooses (by kernel_rfl) (of_decide_eq_true (by kernel_rfl)) k2 bel lt2) trodAll_mk0))), rfl, bel.frame _, fun h => by cases h⟩

theorem chooses_holds : Rows.AutoChoosesSaid :=
  OpenClaim.holds_of_wide 10 Try.f10 rfl rfl rfl rfl rfl rfl rfl ⟨rfl, rfl, rfl, rfl, rfl⟩ rfl rfl rfl rfl rfl (by kernel_rfl) Try.func10 (by kernel_rfl)
    (of_decide_eq_true (by kernel_rfl)) (by unfold Func.isWrapper; first | (rw [if_pos (by decide +kernel)]; kernel_rfl) | (rw [if_neg (by decide +kernel)]; exact ⟨rfl, rfl⟩))
    (fun os started H enc _ => lifted_chooses os started H enc)
#print axioms chooses_holds
end Go.Proofs.Ytlnonadkdonhmaa
