/- Contracts and lemmas that a claim of this seat uses. -/
import Derived.Test.YtlnonadkdonhmaaL14
import Derived.Test.YtlnonadkdonhmaaL11

/- A map of counts in memory. Contract: count. -/
namespace Go.Proofs.Ytlnonadkdonhmaa
open Go.RowKit Go.Maps
open Go.ChangeMaps (setBlock)

section
variable {P : Program} {kt : TypeId} {w : World} {b : Nat} {m : List (Value × Value)}
theorem modify_set {α : Type} {l : List α} {j : Nat} {x : α} (f : α → α) (h : l[j]? = some x) : l.modify j f = l.set j (f x) := by
  apply List.ext_getElem?
  intro i
  rw [List.getElem?_modify, List.getElem?_set]
  have hlt := (List.getElem?_eq_some_iff.1 h).1
  by_cases e : j = i
  · subst e
    have hx : l[j] = x := by rw [List.getElem?_eq_getElem hlt] at h; injection h
    simp [hlt, hx]
  · simp [e]
/-- A key that is there gets another value. -/
theorem MapIs.put_old {t et : TypeId} (K : Keyed P kt) (ht : P.underlying t = some (.map kt et)) (h : MapIs P kt w b m) {k u v : Value} {l : Lit} (hk : keyOf P kt k = some l) (hin : (k, u) ∈ m) :
    ∃ w' m', (Instr.mapUpdate t (.map (some b)) k v).run P w = .ok () w' ∧ MapIs P kt w' b m' ∧ w.grownBy w' (some b) ∧ m'.map (·.1) = m.map (·.1) ∧ (k, v) ∈ m' ∧ ∀ p ∈ m, p.1 ≠ k → p ∈ m' := by
  obtain ⟨es, c, hb, he, hks, hnd⟩ := h
  have hin' := hin
  rw [← he] at hin'
  obtain ⟨e0, he0, hkv⟩ := List.mem_map.1 hin'
  rcases K.find w hk es.toList (entries_keys hks he) with ⟨_, hn⟩ | ⟨j, e, hr, hj, hek⟩
  · exact absurd (by injection hkv) (hn e0 he0)
  · have hj' : es[j]? = some e := by simpa using hj
    have hlist : (es.modify j (fun e' => { e' with key := k, val := v })).toList = es.toList.set j { e with key := k, val := v } := by
      rw [Array.toList_modify, modify_set _ hj]
    have hmap : (es.modify j (fun e' => { e' with key := k, val := v })).toList.map (fun e => (e.key, e.val)) = m.set j (k, v) := by
      rw [hlist, List.map_set, he]
    have hmj : m[j]? = some (e.key, e.val) := by rw [← he, List.getElem?_map, hj]; rfl
    have hjl : j < m.length := (List.getElem?_eq_some_iff.1 hmj).1
    have hfst : (m.set j (k, v)).map (·.1) = m.map (·.1) := by
      rw [List.map_set]
      apply List.ext_getElem?
      intro i
      rw [List.getElem?_set]
      by_cases e1 : j = i
      · subst e1
        rw [if_pos rfl, if_pos (by simpa using hjl), List.getElem?_map, hmj, ← hek]
        rfl
      · rw [if_neg e1]
    refine ⟨setBlock w b (.map (es.modify j (fun e' => { e' with key := k, val := v })) c), m.set j (k, v), ?_, ⟨_, c, ?_, hmap, ?_, ?_⟩, ?_, hfst, ?_, ?_⟩
    · simp [Instr.mapUpdate, run_underlying ht, MapKept.run_getObj_map hb, K.check w false hk, hr, hj', hek, K.stays w hk, MapKept.run_setObj_map _ hb, Result.andThen, setBlock]
    · have hlt := hb.lt
      show (w.heap.setIfInBounds b _)[b]? = _
      simp [hlt]
    · intro p hp
      rcases List.mem_or_eq_of_mem_set hp with hp | hp
      · exact hks p hp
      · subst hp; exact ⟨l, hk⟩
    · rw [hfst]; exact hnd
    · exact ⟨rfl, rfl, rfl, by simp [setBlock], fun i hi hne => by
        show (w.heap.setIfInBounds b _)[i]? = _
        rw [Array.getElem?_setIfInBounds, if_neg (by rintro rfl; exact hne rfl)]⟩
    · exact List.mem_of_getElem? (i := j) (by rw [List.getElem?_set]; simp [hjl])
    · intro p hp hne
      obtain ⟨i, hi⟩ := List.getElem?_of_mem hp
      refine List.mem_of_getElem? (i := i) ?_
      rw [List.getElem?_set, if_neg ?_]
      · exact hi
      · rintro rfl
        rw [hmj] at hi
        injection hi with hi
        rw [← hi] at hne
        exact hne hek
end

/-- The map says how many each queue has. -/
def CntAt (w : World) (b : Nat) (many : List Int) : Prop :=
  ∃ m, MapIs Try.prog 3 w b m ∧ ∀ c : Nat, c < 6 → (Value.int .i64 (c : Int), Value.int .i64 (many.getD c 0)) ∈ m ∨ ((∀ p ∈ m, p.1 ≠ Value.int .i64 (c : Int)) ∧ many.getD c 0 = 0)
section
variable {w w' : World} {b : Nat} {many : List Int} {S : Nat → Prop}
theorem CntAt.frame (h : CntAt w b many) (hf : Frame S w w') (hn : ¬ S b) : CntAt w' b many := by
  obtain ⟨m, h1, h2⟩ := h
  exact ⟨m, h1.frame hf hn, h2⟩
theorem CntAt.lt (h : CntAt w b many) : b < w.heap.size := by
  obtain ⟨m, h1, _⟩ := h
  exact h1.lt
theorem CntAt.new (w : World) (N : Nat) : CntAt (w.alloc (.map #[] 0)) w.heap.size (List.replicate N 0) :=
  ⟨[], MapIs.new Try.prog 3 w, fun c _ => .inr ⟨by simp, by
    rw [List.getD_eq_getElem?_getD, List.getElem?_replicate]
    split <;> rfl⟩⟩
theorem key3 {c : Nat} (hc : c < 6) : keyOf Try.prog 3 (.int .i64 (c : Int)) = some (.int .i64 (c : Int)) := keyOf_int_mk Try.underlying3 (WalkArith.wf_i64 (by omega))
theorem keyed3 : Keyed Try.prog 3 := int_keyed Try.underlying3
theorem CntAt.look (h : CntAt w b many) {c : Nat} (hc : c < 6) : (Instr.lookup 108 (.map (some b)) (.int .i64 (c : Int)) false).run Try.prog w = .ok (.int .i64 (many.getD c 0)) w := by
  obtain ⟨m, h1, h2⟩ := h
  have hz : (zeroValue 3).run Try.prog w = .ok (.int .i64 0) w := by kernel_rfl
  rcases h2 c hc with h3 | ⟨h3, h4⟩
  · have := h1.look_yes keyed3 Try.underlying108 (key3 hc) h3 false
    simpa using this
  · have := h1.look_no keyed3 Try.underlying108 (key3 hc) h3 hz false
    rw [h4]
    simpa using this
theorem int_inj {a b : Int} (h : Value.int .i64 a = Value.int .i64 b) : a = b := by injection h
theorem CntAt.put (h : CntAt w b many) {c : Nat} (hc : c < 6) (hl : c < many.length) (v : Int) :
    ∃ w', (Instr.mapUpdate 108 (.map (some b)) (.int .i64 (c : Int)) (.int .i64 v)).run Try.prog w = .ok () w' ∧ CntAt w' b (many.set c v) ∧ w.grownBy w' (some b) := by
  obtain ⟨m, h1, h2⟩ := h
  have hget : (many.set c v).getD c 0 = v := by simp [List.getD, hl]
  have hget' : ∀ c' : Nat, c' ≠ c → (many.set c v).getD c' 0 = many.getD c' 0 := fun c' hne => by simp [List.getD, List.getElem?_set_ne (Ne.symm hne)]
  rcases h2 c hc with h3 | ⟨h3, _⟩
  · obtain ⟨w', m', hr, hm, hg, hf, hin, hall⟩ := h1.put_old keyed3 Try.underlying108 (key3 hc) h3 (v := .int .i64 v)
    refine ⟨w', hr, ⟨m', hm, fun c' hc' => ?_⟩, hg⟩
    by_cases e : c' = c
    · subst e
      rw [hget]
      exact .inl hin
    · rw [hget' c' e]
      rcases h2 c' hc' with h4 | ⟨h4, h5⟩
      · exact .inl (hall _ h4 (fun he => e (by have := int_inj he; omega)))
      · refine .inr ⟨fun p hp he => ?_, h5⟩
        have hpm : p.1 ∈ m'.map (·.1) := List.mem_map_of_mem hp
        rw [hf] at hpm
        obtain ⟨q, hq, hqe⟩ := List.mem_map.1 hpm
        exact h4 q hq (hqe.trans he)
  · obtain ⟨w', hr, hm, hg⟩ := h1.put_new keyed3 Try.underlying108 (key3 hc) h3 (v := .int .i64 v)
    refine ⟨w', hr, ⟨_, hm, fun c' hc' => ?_⟩, hg⟩
    by_cases e : c' = c
    · subst e
      rw [hget]
      exact .inl (by simp)
    · rw [hget' c' e]
      rcases h2 c' hc' with h4 | ⟨h4, h5⟩
      · exact .inl (List.mem_append_left _ h4)
      · refine .inr ⟨fun p hp he => ?_, h5⟩
        rcases List.mem_append.1 hp with hp | hp
        · exact h4 p hp he
        · simp at hp
          subst hp
          exact e (by have := int_inj he; omega)
end

/-- Whether each channel of a set has a message. -/
def cntTo (many : List Int) (set : Int) (k : Nat) : Bool := (List.range k).all fun c => !(inI set c) || decide (0 < many.getD c 0)
theorem cnt_within {many : List Int} {set : Int} (hs : isB set) (hm : many.length ≤ 6) : cntTo many set 6 = withinI set (setQ many) := by
  rw [Bool.eq_iff_iff, within_iff hs (setQ_isB hm)]
  unfold cntTo
  rw [List.all_eq_true]
  have key : ∀ c : Nat, c < 6 → (inI (setQ many) c = true ↔ 0 < many.getD c 0) := by
    intro c hc
    rw [show setQ many = setTo many many.length from rfl, inI_setTo hm many.length (Nat.le_refl _) c hc]
    simp only [Bool.and_eq_true, decide_eq_true_eq]
    constructor
    · exact fun h => h.2
    · intro h
      refine ⟨?_, h⟩
      rcases Nat.lt_or_ge c many.length with h1 | h1
      · exact h1
      · simp [List.getD, List.getElem?_eq_none h1] at h
  constructor
  · intro h c hc hin
    have := h c (List.mem_range.2 hc)
    rw [hin] at this
    rw [key c hc]
    simpa using this
  · intro h c hc
    have hc' := List.mem_range.1 hc
    cases hin : inI set c with
    | false => rfl
    | true =>
      have := (key c hc').1 (h c hc' hin)
      simpa using this
theorem cntTo_step {many : List Int} {set : Int} {k : Nat} (h : cntTo many set k = true) (hk : (!(inI set k) || decide (0 < many.getD k 0)) = true) : cntTo many set (k + 1) = true := by
  unfold cntTo at h ⊢
  rw [List.range_succ, List.all_append, h]
  simpa using hk
theorem cntTo_no {many : List Int} {set : Int} {k n : Nat} (hk : k < n) (h1 : inI set k = true) (h2 : many.getD k 0 < 1) : cntTo many set n = false := by
  unfold cntTo
  rw [List.all_eq_false]
  exact ⟨k, List.mem_range.2 hk, by rw [h1, decide_eq_false (show ¬ 0 < many.getD k 0 by omega)]; simp⟩

set_option maxRecDepth 100000 in
set_option maxHeartbeats 2000000 in
theorem count_any94 (bm : Nat) (many : List Int) (set : Int) (w : World) (h : CntAt w bm many) (hs : isB set) (hm : many.length ≤ 6) :
    Calls Try.prog 94 #[.map (some bm), .int .i64 set] w fun e w' => e = .returned (.bool (withinI set (setQ many))) ∧ w = w' := by
  rw [← cnt_within hs hm]
  have H := Lib.hid h
  clear h
  obtain ⟨hs0, hs1⟩ := hs
  go_enter Try.func94, Try.ntmps94
  go_wp2
  go_loop [5] (fun i => ∃ k : Nat, k ≤ 6 ∧ i = .int .i64 k ∧ cntTo many set k = true) (fun i => 6 - (intOf i).toNat)
  case atStart => exact ⟨0, Nat.zero_le _, rfl, rfl⟩
  case round =>
    obtain ⟨k, hk, rfl, hc⟩ := hrel
    have HC := Lib.hid hc
    clear hc
    by_cases hlt : k < 6
    · cases hin : inI set k with
      | false =>
        have HI := Lib.hid hin
        clear hin
        go_wp2_with (go_at_call 66; go_must (refine (has_any set k _ (by omega) (by omega)).mono ?_); rintro e w1 ⟨rfl, rfl⟩; rw [HI.out])
        go_round
        case rel => exact ⟨k + 1, by omega, by go_num, cntTo_step HC.out (by rw [HI.out]; rfl)⟩
        case measure => simp [intOf]; omega
      | true =>
        have HI := Lib.hid hin
        have hlook := H.out.look hlt
        obtain ⟨v, HV⟩ : ∃ v, Hid (many.getD k 0 = v) := ⟨_, rfl⟩
        rw [HV.out] at hlook
        clear hin
        by_cases hv : v < 1
        · have HR : Hid (cntTo many set 6 = false) := cntTo_no hlt HI.out (by rw [HV.out]; exact hv)
          go_wp2_with (go_at_call 66; go_must (refine (has_any set k _ (by omega) (by omega)).mono ?_); rintro e w1 ⟨rfl, rfl⟩; rw [HI.out])
          go_ret
          exact ⟨by rw [HR.out]; rfl, rfl⟩
        · have hd : decide (v < 1) = false := by simp <;> omega
          go_wp2_with (go_at_call 66; go_must (refine (has_any set k _ (by omega) (by omega)).mono ?_); rintro e w1 ⟨rfl, rfl⟩; rw [HI.out])
          go_round
          case rel => exact ⟨k + 1, by omega, by go_num, cntTo_step HC.out (by rw [HI.out, HV.out]; simp; omega)⟩
          case measure => simp [intOf]; omega
    · obtain rfl : k = 6 := by omega
      go_wp2
      go_ret
      exact ⟨by rw [HC.out]; rfl, rfl⟩
end Go.Proofs.Ytlnonadkdonhmaa

/- Plays over queues, plainly: what is at rest stays so. -/
namespace Go.Proofs.Ytlnonadkdonhmaa
open Go.RowKit Go.Maps

/-- A play: what the queues hold ahead of each message, and the rules that react. -/
structure PlayOk (N : Nat) (rs l rules left : List Int) (Mk : Nat → List Int) : Prop where
  zero : Mk 0 = List.replicate N 0
  len : rules.length = l.length
  left : Mk l.length = left
  idle : ∀ (k : Nat) (x : Int), l[k]? = some x → readyL rs (setQ (incAt (Mk k) x)) = [] → rules[k]? = some (-1) ∧ Mk (k + 1) = incAt (Mk k) x
  acts : ∀ (k : Nat) (x : Int), l[k]? = some x → readyL rs (setQ (incAt (Mk k) x)) ≠ [] → ∃ (b : Nat) (r : Int), rules[k]? = some (b : Int) ∧ rs[b]? = some r ∧ withinI r (setQ (incAt (Mk k) x)) = true ∧ Mk (k + 1) = takeQ r (incAt (Mk k) x)

section
variable {N : Nat} {rs l rules left : List Int} {Mk : Nat → List Int}
theorem PlayOk.q (h : PlayOk N rs l rules left Mk) : ∀ k, k ≤ l.length → QOk N k (Mk k)
  | 0, _ => by
    rw [h.zero]
    exact ⟨by simp, fun x hx => by simp at hx; omega⟩
  | k + 1, hk => by
    have hx : l[k]? = some l[k] := List.getElem?_eq_getElem (by omega)
    have ih := h.q k (by omega)
    by_cases hr : readyL rs (setQ (incAt (Mk k) l[k])) = []
    · rw [(h.idle k _ hx hr).2]; exact ih.inc _
    · obtain ⟨b, r, _, _, _, e⟩ := h.acts k _ hx hr
      rw [e]
      exact ih.step _ _
end

theorem dec_get : ∀ (cs m : List Int), (cs.map Int.toNat).Nodup → ∀ c : Nat, c < m.length → (cs.foldl decAt m).getD c 0 = m.getD c 0 - (if c ∈ cs.map Int.toNat then 1 else 0)
  | [], m, _, c, _ => by simp
  | x :: cs, m, hd, c, hc => by
    rw [List.map_cons, List.nodup_cons] at hd
    rw [List.foldl_cons, dec_get cs (decAt m x) hd.2 c (by rw [decAt_len]; exact hc)]
    by_cases e : x.toNat = c
    · subst e
      have h1 : (decAt m x).getD x.toNat 0 = m.getD x.toNat 0 - 1 := by simp [decAt, List.getD, hc]
      rw [h1, if_neg hd.1, if_pos (by simp)]
      omega
    · have h1 : (decAt m x).getD c 0 = m.getD c 0 := by simp [decAt, List.getD, List.getElem?_set_ne e]
      rw [h1]
      have h2 : c ∈ (x :: cs).map Int.toNat ↔ c ∈ cs.map Int.toNat := by
        rw [List.map_cons, List.mem_cons]
        exact ⟨fun h => h.resolve_left (fun h => e h.symm), .inr⟩
      simp only [h2]
theorem memL_nat (r : Int) : (memL r).map Int.toNat = (List.range 6).filter (fun i : Nat => inI r (i : Int)) := by
  unfold memL pickTo
  rw [List.map_map]
  have : (Int.toNat ∘ Int.ofNat) = id := by funext i; rfl
  rw [this, List.map_id]
theorem takeQ_get {r : Int} {m : List Int} {c : Nat} (hc : c < m.length) (h6 : c < 6) : (takeQ r m).getD c 0 = m.getD c 0 - (if inI r c then 1 else 0) := by
  unfold takeQ
  rw [dec_get (memL r) m (by rw [memL_nat]; exact List.Pairwise.sublist List.filter_sublist List.nodup_range) c hc, memL_nat]
  have e : c ∈ (List.range 6).filter (fun i : Nat => inI r (i : Int)) ↔ inI r c = true := by
    rw [List.mem_filter, List.mem_range]
    exact ⟨fun h => h.2, fun h => ⟨h6, h⟩⟩
  simp only [e]
theorem incAt_get {m : List Int} {x c : Nat} (hx : x < m.length) : (incAt m x).getD c 0 = m.getD c 0 + (if c = x then 1 else 0) := by
  unfold incAt
  rw [Int.toNat_natCast]
  by_cases e : c = x
  · subst e; simp [List.getD, hx]
  · rw [if_neg e]
    have : x ≠ c := fun h => e h.symm
    simp [List.getD, List.getElem?_set_ne this]
theorem inI_setQ {m : List Int} (hm : m.length ≤ 6) {c : Nat} (hc : c < 6) : inI (setQ m) c = (decide (c < m.length) && decide (0 < m.getD c 0)) := inI_setTo hm m.length (Nat.le_refl _) c hc
theorem setQ_zero {N : Nat} (_hN : N ≤ 6) : setQ (List.replicate N 0) = 0 := by
  have gen : ∀ k, setTo (List.replicate N 0) k = 0 := by
    intro k
    induction k with
    | zero => rfl
    | succ k ih =>
      have e : (List.replicate N (0 : Int)).getD k 0 = 0 := by
        rw [List.getD_eq_getElem?_getD, List.getElem?_replicate]
        split <;> rfl
      rw [setTo, if_neg (by rw [e]; omega), ih]
  exact gen _

/-- What is left when a ready rule has taken its messages is within what was there ahead of the message that came. -/
theorem take_sub {rs : List Int} (hb : bAll rs) {m : List Int} {x : Nat} {r : Int} (hm : m.length ≤ 6) (hx : x < m.length) (hr : r ∈ rs) (hrest : readyL rs (setQ m) = []) (hw : withinI r (setQ (incAt m x)) = true) : withinI (setQ (takeQ r (incAt m x))) (setQ m) = true := by
  have hl1 : (incAt m x).length = m.length := incAt_len _ _
  have hl2 : (takeQ r (incAt m x)).length = m.length := by rw [takeQ_len, hl1]
  have hrb := hb r hr
  have hwi := (within_iff hrb (setQ_isB (by omega))).1 hw
  have hxr : inI r x = true := by
    cases hin : inI r x with
    | true => rfl
    | false =>
      exfalso
      have hws : withinI r (setQ m) = true := by
        rw [within_iff hrb (setQ_isB hm)]
        intro c hc hcr
        have h1 := hwi c hc hcr
        rw [inI_setQ (by omega) hc, hl1, incAt_get hx] at h1
        have hne : c ≠ x := by rintro rfl; rw [hin] at hcr; cases hcr
        rw [if_neg hne, Int.add_zero] at h1
        rw [inI_setQ hm hc]
        exact h1
      have := rest_iff.1 hrest r hr
      rw [hws] at this
      cases this
  rw [within_iff (setQ_isB (by omega)) (setQ_isB hm)]
  intro c hc hin
  rw [inI_setQ (by omega) hc, hl2] at hin
  simp only [Bool.and_eq_true, decide_eq_true_eq] at hin
  obtain ⟨h1, h2⟩ := hin
  rw [takeQ_get (by omega) hc, incAt_get hx] at h2
  rw [inI_setQ hm hc]
  simp only [Bool.and_eq_true, decide_eq_true_eq]
  refine ⟨h1, ?_⟩
  by_cases e : c = x
  · subst e
    rw [if_pos rfl, if_pos hxr] at h2
    omega
  · rw [if_neg e] at h2
    split at h2 <;> omega

theorem PlayOk.rest {N : Nat} {n : Int} {rs l rules left : List Int} {Mk : Nat → List Int} (h : PlayOk N rs l rules left Mk) (hg : grpOk n rs = true) (hN : N ≤ 6) (hl : ∀ x ∈ l, 0 ≤ x ∧ x < (N : Int)) : ∀ k, k ≤ l.length → readyL rs (setQ (Mk k)) = []
  | 0, _ => by
    rw [h.zero, setQ_zero hN]
    exact rest_zero hg
  | k + 1, hk => by
    have hx : l[k]? = some l[k] := List.getElem?_eq_getElem (by omega)
    have hxb := hl _ (List.mem_of_getElem? hx)
    obtain ⟨x, hxe⟩ := Int.eq_ofNat_of_zero_le hxb.1
    have ih := h.rest hg hN hl k (by omega)
    have hq := h.q k (by omega)
    rw [hxe] at hx hxb
    by_cases hr : readyL rs (setQ (incAt (Mk k) (x : Int))) = []
    · rw [(h.idle k _ hx hr).2]; exact hr
    · obtain ⟨b, r, _, hbr, hw, e⟩ := h.acts k _ hx hr
      rw [e]
      have hm : (Mk k).length ≤ 6 := by rw [hq.len]; exact hN
      have hs := take_sub (bAll_of hg) hm (by rw [hq.len]; omega) (List.mem_of_getElem? hbr) ih hw
      have hl1 : (takeQ r (incAt (Mk k) (x : Int))).length ≤ 6 := by rw [takeQ_len, incAt_len]; exact hm
      exact rest_sub (bAll_of hg) (setQ_isB hm) (setQ_isB hl1) hs ih

/-! ### runs are plays -/
section
variable {σ : Type} {rs : List Int} {ch : σ → Nat → List Int → Int × σ} {N : Nat} {s0 : σ} {l : List Int}
theorem qTo_outpre : ∀ d k, k + d ≤ l.length → (qTo rs ch N s0 l k).out <+: (qTo rs ch N s0 l (k + d)).out
  | 0, k, _ => List.prefix_refl _
  | d + 1, k, hk => by
    refine List.IsPrefix.trans (qTo_outpre d k (by omega)) ?_
    rw [← Nat.add_assoc]
    show _ <+: (qStep rs ch (qTo rs ch N s0 l (k + d)) (k + d) (l.getD (k + d) 0)).out
    unfold qStep
    split <;> exact List.prefix_append _ _
theorem qTo_out {k : Nat} {z : Int} (hk : k < l.length) (h : (qTo rs ch N s0 l (k + 1)).out = (qTo rs ch N s0 l k).out ++ [z]) : (qTo rs ch N s0 l l.length).out[k]? = some z := by
  have hp := qTo_outpre (rs := rs) (ch := ch) (N := N) (s0 := s0) (l := l) (l.length - (k + 1)) (k + 1) (by omega)
  rw [show k + 1 + (l.length - (k + 1)) = l.length by omega, h] at hp
  obtain ⟨t, ht⟩ := hp
  have hlen : (qTo rs ch N s0 l k).out.length = k := (qTo_ok (by decide) k).2
  rw [← ht, List.append_assoc, List.getElem?_append_right (by omega), hlen, Nat.sub_self]
  rfl
/-- A run by a choice of a ready rule is a play. -/
theorem qTo_play (hmem : ∀ (s : σ) (i : Nat) (rd : List Int), rd ≠ [] → (ch s i rd).1 ∈ rd) : PlayOk N rs l (qTo rs ch N s0 l l.length).out (qTo rs ch N s0 l l.length).many (fun k => (qTo rs ch N s0 l k).many) where
  zero := rfl
  len := (qTo_ok (by decide) _).2
  left := rfl
  idle := by
    intro k x hx hr
    have hk := (List.getElem?_eq_some_iff.1 hx).1
    have e := qTo_none (rs := rs) (ch := ch) (N := N) (s0 := s0) rfl hx hr
    refine ⟨qTo_out hk (by rw [e]), by rw [e]⟩
  acts := by
    intro k x hx hr
    have hk := (List.getElem?_eq_some_iff.1 hx).1
    have hm := hmem (qTo rs ch N s0 l k).st k _ hr
    obtain ⟨b, r, hb, hbr, hw⟩ := ready_mem hm
    have e := qTo_some (rs := rs) (ch := ch) (N := N) (s0 := s0) (r := r) rfl hx rfl hr (by rw [hb]; simpa using hbr)
    rw [hb] at e
    exact ⟨b, r, qTo_out hk (by rw [e]), hbr, hw, by rw [e]⟩
end
end Go.Proofs.Ytlnonadkdonhmaa

/- Contract: followed, for a play. -/
namespace Go.Proofs.Ytlnonadkdonhmaa
open Go.RowKit Go.Maps

/-- What looks on: the function F over what it captured. -/
structure WatchOk (F : Nat) (caps : Array Value) {σ : Type} (L : Nat) (S : Nat → Prop) (Inv : σ → World → Prop) (nx : σ → Nat → Int → List Int → σ) (good : σ → Nat → Int → List Int → Prop) : Prop where
  enter : ∀ args w, (callFunc F args).run Try.prog w = .ok (.enter F args) w
  keep : ∀ s (T : Nat → Prop) w w', Inv s w → Frame T w w' → (∀ b, b < w.heap.size → T b → ∃ mm, MapIs Try.prog 3 w b mm) → Inv s w'
  calls : ∀ (s : σ) (i : Nat) (rule : Int) (rd : List Int) (R : Option Addr) (c : Nat) (w : World), Inv s w → (∀ x ∈ rd, 0 ≤ x ∧ x < L) → i < 100 → good s i rule rd → Cells w R (ints rd) → (∀ a, R = some a → ¬ S a.block) →
    Calls Try.prog F (#[.int .i64 (i : Int), .int .i64 rule, .slice R rd.length c] ++ caps) w fun e w' => e = .returned (.bool true) ∧ Inv (nx s i rule rd) w' ∧ Frame S w w'

def wTo {σ : Type} (nx : σ → Nat → Int → List Int → σ) (s0 : σ) (rs l rules : List Int) (Mk : Nat → List Int) : Nat → σ
  | 0 => s0
  | k + 1 => nx (wTo nx s0 rs l rules Mk k) k (rules.getD k 0) (readyL rs (setQ (incAt (Mk k) (l.getD k 0))))

set_option maxRecDepth 100000 in
set_option maxHeartbeats 8000000 in
theorem followed_any {σ : Type} (F : Nat) (caps : Array Value) (S : Nat → Prop) (Inv : σ → World → Prop) (nx : σ → Nat → Int → List Int → σ) (good : σ → Nat → Int → List Int → Prop) (s0 : σ)
    (N : Nat) (A : Option Addr) (c : Nat) (rs : List Int) (D : Option Addr) (f : Nat) (l : List Int) (E : Option Addr) (g : Nat) (rules : List Int) (G : Option Addr) (h : Nat) (left : List Int) (Mk : Nat → List Int) (wl w : World)
    (hC : WatchOk F caps rs.length S Inv nx good) (hP : PlayOk N rs l rules left Mk) (hA : Cells wl A (ints rs)) (hD : Cells wl D (ints l)) (hE : Cells wl E (ints rules)) (hG : Cells wl G (ints left)) (hBl : Below wl.heap.size wl w) (hI : Inv s0 w)
    (hS : ∀ b, S b → wl.heap.size ≤ b ∧ b < w.heap.size) (hg : grpOk N rs = true) (hl : Hid (∀ x ∈ l, 0 ≤ x ∧ x < (N : Int))) (hll : l.length ≤ 60)
    (hgood : ∀ k, k < l.length → good (wTo nx s0 rs l rules Mk k) k (rules.getD k 0) (readyL rs (setQ (incAt (Mk k) (l.getD k 0))))) :
    Calls Try.prog 39 #[.agg #[.int .i64 (N : Int), .slice A rs.length c], .slice D l.length f, .slice E rules.length g, .slice G left.length h, .func (.func F) #[] caps] w fun e w' =>
      e = .returned (.bool true) ∧ Inv (wTo nx s0 rs l rules Mk l.length) w' ∧ Frame S w w' := by
  obtain ⟨hn1, hn6, hrl, hgood6⟩ := grpOk_true hg
  have HBA := Lib.hid (bAll_of hg)
  have HGood : Hid (∀ r ∈ rs, goodR N r = true) := by rw [List.all_eq_true] at hgood6; exact hgood6
  have HREST : Hid (∀ k, k ≤ l.length → readyL rs (setQ (Mk k)) = []) := hP.rest hg (by omega) hl.out
  have HQ : Hid (∀ k, k ≤ l.length → QOk N k (Mk k)) := fun k hk => hP.q k hk
  have HP := Lib.hid hP
  have HC := Lib.hid hC
  have HI := Lib.hid hI
  have HS := Lib.hid hS
  have HGD := Lib.hid hgood
  have hcall := hC.enter
  have hlr : rules.length = l.length := hP.len
  have hlm : left.length = N := by rw [← hP.left]; exact (hP.q _ (Nat.le_refl _)).len
  have HLR := Lib.hid hlr
  have HLM := Lib.hid hlm
  have hd1 : ((rules.length : Int) != (l.length : Int)) = false := by simp [hlr]
  have hd2 : ((left.length : Int) != (N : Int)) = false := by simp [hlm]
  have hmm := @run_makeMap Try.prog
  obtain ⟨W, hW⟩ : ∃ W, w.alloc (.cells #[.int .i64 (N : Int), .slice A rs.length c] 24) = W := ⟨_, rfl⟩
  have hgb := Blk.new w (.cells #[.int .i64 (N : Int), .slice A rs.length c] 24)
  have hsW : W.heap.size = w.heap.size + 1 := by rw [← hW]; simp
  have hBW : Below w.heap.size w W := by rw [← hW]; exact (Below.refl _ w).alloc (Nat.le_refl _) _
  rw [hW] at hgb
  have HGB := Lib.hid hgb
  have hszl := hBl.size
  obtain ⟨bm, hbm⟩ : ∃ bm, w.heap.size + 1 = bm := ⟨_, rfl⟩
  have HCN : Hid (CntAt (W.alloc (.map #[] 0)) bm (Mk 0)) := by
    rw [hP.zero, ← hbm, ← hsW]
    exact CntAt.new W N
  have HFr0 : Hid (Frame S w (W.alloc (.map #[] 0))) := (Frame.of_all (S := S) hBW).alloc _
  have HI0 : Hid (Inv s0 (W.alloc (.map #[] 0))) := hC.keep s0 (fun _ => False) w _ hI ((Frame.of_all (S := fun _ => False) hBW).alloc _) (fun _ _ h => h.elim)
  have HBA0 : Hid (Below w.heap.size w W) := hBW
  have HBL := Lib.hid hBl
  have HWS := Lib.hid hsW
  have hbm1 : w.heap.size < bm := by omega
  have hbm2 : bm ≤ w.heap.size + 1 := by omega
  have c0 := hgb.cell 0 (v := .int .i64 (N : Int)) rfl
  have lg0 := hgb.lt
  have hWm : W.heap.size < (W.alloc (.map #[] 0)).heap.size := by simp
  clear hC hP hI hS hgood hlr hlm hBW hgb hBl hgood6
  go_enter Try.func39, Try.ntmps39
  go_wp2
  obtain ⟨W1, hW1⟩ : ∃ W1, W.alloc (.map #[] 0) = W1 := ⟨_, rfl⟩
  rw [hW1] at HCN HFr0 HI0 hWm
  rw [hW1]
  have HG1 : Hid (Blk W1 w.heap.size (.cells #[.int .i64 (N : Int), .slice A rs.length c] 24)) := by rw [← hW1]; exact HGB.out.alloc _
  have HBlW : Hid (Below wl.heap.size wl W1) := by
    rw [← hW1]
    exact (HBL.out.trans (HBA0.out.mono hszl)).alloc (by have := HWS.out; omega) _
  have hW1s : w.heap.size < W1.heap.size := HG1.out.lt
  clear hW1 hbm c0 lg0 hWm hW hsW
  go_wp2
  go_loopw [37] (fun i wr => ∃ k : Nat, k ≤ l.length ∧ i = .int .i64 k ∧ CntAt wr bm (Mk k) ∧ Inv (wTo nx s0 rs l rules Mk k) wr ∧ Frame (fun b => b = bm ∨ S b) W1 wr) (fun i _ => l.length - (intOf i).toNat)
  case atStart => exact ⟨0, Nat.zero_le _, rfl, HCN.out, HI0.out, Frame.refl _ _⟩
  case round =>
    obtain ⟨k, hk, rfl, hcnt, hinv, hF⟩ := hrel
    have HCNT := Lib.hid hcnt
    have HINV := Lib.hid hinv
    have HF := Lib.hid hF
    have HBr : Hid (Below wl.heap.size wl wr) := HBlW.out.trans (hF.below (B := wl.heap.size) (fun b e => by rcases e with e | e; omega; exact (HS.out b e).1) (by omega))
    have HGr : Hid (Blk wr w.heap.size (.cells #[.int .i64 (N : Int), .slice A rs.length c] 24)) := HG1.out.frame hF (fun e => by rcases e with e | e; omega; have := (HS.out _ e).2; omega)
    have hszr := hF.size
    have hqk := HQ.out k hk
    clear hcnt hinv hF
    by_cases hlt : k < l.length
    · obtain ⟨x, bx, ox, hx, hbx, hix, hcx⟩ := ints_at (c := f) (hD.below HBr.out (Nat.le_refl _)) Try.underlying22 szInt hlt
      have hxb := hl.out x (List.mem_of_getElem? hx)
      obtain ⟨x, rfl⟩ := Int.eq_ofNat_of_zero_le hxb.1
      have HX := Lib.hid hx
      have hx6 : x < 6 := by omega
      have hxl : x < (Mk k).length := by rw [hqk.len]; omega
      obtain ⟨v, hv⟩ : ∃ v, (Mk k).getD x 0 = v := ⟨_, rfl⟩
      have hvb : -1000 ≤ v ∧ v ≤ 1000 := by
        have e : (Mk k)[x]? = some v := by rw [← hv, List.getElem?_eq_getElem hxl]; simp [List.getD, hxl]
        have := hqk.bd v (List.mem_of_getElem? e)
        omega
      have hlook := HCNT.out.look hx6
      rw [hv] at hlook
      obtain ⟨w2, hput, hcnt2, hg2⟩ := HCNT.out.put hx6 hxl (v + 1)
      obtain ⟨m1, HM1⟩ : ∃ m1, Hid (incAt (Mk k) x = m1) := ⟨_, rfl⟩
      have hm1 : (Mk k).set x (v + 1) = m1 := by rw [← HM1.out]; unfold incAt; rw [Int.toNat_natCast, hv]
      rw [hm1] at hcnt2
      have HC2 := Lib.hid hcnt2
      have hml : m1.length = N := by rw [← HM1.out, incAt_len]; exact hqk.len
      have hml6 : m1.length ≤ 6 := by omega
      have hbd1 : ∀ z ∈ m1, -1000 ≤ z ∧ z ≤ 1000 := by
        rw [← HM1.out]
        intro z hz
        have := (hqk.inc x).bd z hz
        push_cast at this
        omega
      have HBD1 := Lib.hid hbd1
      have hF2 := Frame.of_grown hg2
      have HF2 : Hid (Frame (fun b => b = bm ∨ S b) W1 w2) := HF.out.trans hF2 (fun b _ e => .inl (by injection e with e; exact e.symm))
      have HI2 : Hid (Inv (wTo nx s0 rs l rules Mk k) w2) := by
        obtain ⟨mm, hmm2, _⟩ := HCNT.out
        exact HC.out.keep _ _ _ _ HINV.out hF2 (fun b _ e => by injection e with e; subst e; exact ⟨mm, hmm2⟩)
      have HG2 : Hid (Blk w2 w.heap.size (.cells #[.int .i64 (N : Int), .slice A rs.length c] 24)) := HGr.out.frame hF2 (fun e => by injection e with e; omega)
      have HB2 : Hid (Below wl.heap.size wl w2) := HBr.out.trans (hF2.below (B := wl.heap.size) (fun b e => by injection e with e; omega) (by have := HBr.out.size; omega))
      have g1 := HG2.out.cell 1 (v := .slice A rs.length c) rfl
      have lg := HG2.out.lt
      have hs2 := hg2.size
      have HML := Lib.hid hml
      clear hx hv hcnt2 hg2 hm1 hbd1 hF2 hqk hml
      go_wp2
      clear hput hlook hix hcx
      obtain ⟨S1, HS1⟩ : ∃ S1, Hid (setQ m1 = S1) := ⟨_, rfl⟩
      go_loopw [14, 49] (fun v i wr => ∃ j : Nat, j ≤ rs.length ∧ i = .int .i64 j ∧ wr.ownsRow w2.heap.size 3 1 v (pickTo (readyP rs S1) j).length (ints (pickTo (readyP rs S1) j)) ∧ Below w2.heap.size w2 wr) (fun _ i _ => rs.length - (intOf i).toNat)
      case atStart => exact ⟨0, Nat.zero_le _, rfl, World.ownsRow_nil _ _ _ _, Below.refl _ _⟩
      case round =>
        obtain ⟨j, hj, rfl, hown, hB3⟩ := hrel
        have HB3 := Lib.hid hB3
        have HOWN := Lib.hid hown
        have hs3 := hB3.size
        have hplen : (pickTo (readyP rs S1) j).length ≤ j := pickTo_len _ _
        by_cases hjt : j < rs.length
        · obtain ⟨r, b3, o3, hr, hb3, hix3, hc3⟩ := ints_at (c := c) ((hA.below HB2.out (Nat.le_refl _)).below hB3 (Nat.le_refl _)) Try.underlying22 szInt hjt
          have hrB := HBA.out r (List.mem_of_getElem? hr)
          have hc94 := count_any94 bm m1 r wr (HC2.out.frame (Frame.of_all (S := fun _ => False) hB3) (fun h => h)) hrB hml6
          rw [HS1.out] at hc94
          have HC94 := Lib.hid hc94
          have hrp : readyP rs S1 j = withinI r S1 := readyP_of hr
          clear hr hrB hc94 hB3 hown
          cases hw : withinI r S1 with
          | true =>
            have HPK : Hid (pickTo (readyP rs S1) (j + 1) = pickTo (readyP rs S1) j ++ [(j : Int)]) := pickTo_hit (by rw [hrp, hw])
            rw [hw] at HC94
            clear hrp hw
            obtain ⟨pl, hpl⟩ : ∃ pl, pickTo (readyP rs S1) j = pl := ⟨_, rfl⟩
            rw [hpl] at HOWN HPK hplen
            clear hpl
            go_wp2_with fail
            refine HC94.out.mono ?_
            rintro e w4 ⟨rfl, rfl⟩
            go_wp2_with (at_builtin; go_must (refine wpList_app1' rInt _ rfl _ _ rfl HOWN.out rfl [_] 1 rfl rfl (by simp [Value.oneCell']) (by omega) (by omega) ?_); intro v6 w6 hown6 hB6 hg6 hloc6)
            go_roundw
            case rel => exact ⟨j + 1, by omega, by go_num, by rw [HPK.out]; simpa [ints] using hown6, HB3.out.trans hB6⟩
            case measure => simp [intOf]; omega
          | false =>
            have HPK : Hid (pickTo (readyP rs S1) (j + 1) = pickTo (readyP rs S1) j) := pickTo_miss (by rw [hrp, hw])
            rw [hw] at HC94
            clear hrp hw
            go_wp2_with fail
            refine HC94.out.mono ?_
            rintro e w4 ⟨rfl, rfl⟩
            go_wp2
            go_roundw
            case rel => exact ⟨j + 1, by omega, by go_num, by rw [HPK.out]; exact HOWN.out, HB3.out⟩
            case measure => simp [intOf]; omega
        · obtain rfl : j = rs.length := by omega
          obtain ⟨rd, HRD⟩ : ∃ rd, Hid (readyL rs S1 = rd) := ⟨_, rfl⟩
          have hpk : pickTo (readyP rs S1) rs.length = rd := HRD.out
          rw [hpk] at hown hplen
          obtain ⟨R, cR, hvR, hnew⟩ := own_new hown (by simp [ints]; omega)
          subst hvR
          have HCR := Lib.hid hnew.1
          have HRS : Hid (∀ a, R = some a → ¬ S a.block) := fun a ha e => by have := hnew.2 a ha; have := (HS.out _ e).2; have := HF2.out.size; omega
          have HB3w : Hid (Below wl.heap.size wl wr) := HB2.out.trans (hB3.mono (by have := HB2.out.size; omega))
          have HI3 : Hid (Inv (wTo nx s0 rs l rules Mk k) wr) := HC.out.keep _ (fun _ => False) _ _ HI2.out (Frame.of_all hB3) (fun _ _ h => h.elim)
          have HF3 : Hid (Frame (fun b => b = bm ∨ S b) W1 wr) := HF2.out.trans (Frame.of_all (S := fun _ => False) hB3) (fun _ _ h => h.elim)
          have HC3 : Hid (CntAt wr bm m1) := HC2.out.frame (Frame.of_all (S := fun _ => False) hB3) (fun h => h)
          have HG3 : Hid (Blk wr w.heap.size (.cells #[.int .i64 (N : Int), .slice A rs.length c] 24)) := HG2.out.below hB3 lg
          obtain ⟨rk, b4, o4, hrk, hb4, hix4, hc4⟩ := ints_at (c := g) hE Try.underlying22 szInt (k := k) (by rw [HLR.out]; exact hlt)
          have HRK := Lib.hid hrk
          have k4 := cell_chain HB3w.out hb4 hc4
          have s4 : b4 < wr.heap.size := Nat.lt_of_lt_of_le hb4 HB3w.out.size
          have HXG : Hid (l.getD k 0 = (x : Int)) := by show _ = _; simp [List.getD, HX.out]
          have HRG : Hid (rules.getD k 0 = rk) := by show _ = _; simp [List.getD, hrk]
          have HST : Hid (wTo nx s0 rs l rules Mk (k + 1) = nx (wTo nx s0 rs l rules Mk k) k rk rd) := by
            show _ = _
            rw [wTo, HXG.out, HRG.out, HM1.out, HS1.out, HRD.out]
          have HGO : Hid (good (wTo nx s0 rs l rules Mk k) k rk rd) := by
            have e := HGD.out k hlt
            rw [HXG.out, HRG.out, HM1.out, HS1.out, HRD.out] at e
            exact e
          have HRDB : Hid (∀ z ∈ rd, 0 ≤ z ∧ z < (rs.length : Int)) := by rw [← HRD.out]; exact fun z hz => readyL_bd hz
          clear hpk hown hnew hrk hB3
          go_wp2_with fail
          refine (HC.out.calls _ k rk rd R cR wr HI3.out HRDB.out (by omega) HGO.out HCR.out HRS.out).mono ?_
          rintro e w5 ⟨rfl, hI5, hF5⟩
          rw [← HST.out] at hI5
          have HI5 := Lib.hid hI5
          have HF5 : Hid (Frame (fun b => b = bm ∨ S b) W1 w5) := HF3.out.trans hF5 (fun b _ e => .inr e)
          have hnbm : ¬ S bm := fun e => by have := (HS.out bm e).2; omega
          have HC5 : Hid (CntAt w5 bm m1) := HC3.out.frame hF5 hnbm
          have HG5 : Hid (Blk w5 w.heap.size (.cells #[.int .i64 (N : Int), .slice A rs.length c] 24)) := HG3.out.frame hF5 (fun e => by have := (HS.out _ e).2; omega)
          have HB5 : Hid (Below wl.heap.size wl w5) := HB3w.out.trans (hF5.below (B := wl.heap.size) (fun b e => (HS.out b e).1) (by have := HB3w.out.size; omega))
          have hs5 := hF5.size
          have y0 := HG5.out.cell 0 (v := .int .i64 (N : Int)) rfl
          have y1 := HG5.out.cell 1 (v := .slice A rs.length c) rfl
          have ly := HG5.out.lt
          clear hI5 hF5 k4 s4
          have k4 := cell_chain HB5.out hb4 hc4
          have s4 : b4 < w5.heap.size := Nat.lt_of_lt_of_le hb4 HB5.out.size
          by_cases hrd : rd = []
          · have hz : ((rd.length : Int) == 0) = true := by rw [hrd]; rfl
            obtain ⟨h1, h2⟩ := HP.out.idle k x HX.out (by rw [HM1.out, HS1.out, HRD.out]; exact hrd)
            have hrk1 : rk = -1 := by rw [HRK.out] at h1; injection h1
            rw [HM1.out] at h2
            have HMN := Lib.hid h2
            subst hrk1
            clear hrd h1 h2 y0 y1
            go_wp2
            go_roundw
            case rel => exact ⟨k + 1, by omega, by go_num, by rw [HMN.out]; exact HC5.out, HI5.out, HF5.out⟩
            case measure => simp [intOf]; omega
          · have hz : ((rd.length : Int) == 0) = false := by
              have := List.length_pos_iff.2 hrd
              simp; omega
            obtain ⟨b, r, h1, hbr, hwr, h2⟩ := HP.out.acts k x HX.out (by rw [HM1.out, HS1.out, HRD.out]; exact hrd)
            have hrk1 : rk = (b : Int) := by rw [HRK.out] at h1; injection h1
            rw [HM1.out] at h2
            rw [HM1.out] at hwr
            subst hrk1
            have hbl : b < rs.length := (List.getElem?_eq_some_iff.1 hbr).1
            have hrB := HBA.out r (List.mem_of_getElem? hbr)
            have hrG := HGood.out r (List.mem_of_getElem? hbr)
            have HRB := Lib.hid hrB
            have HMN := Lib.hid h2
            have HLMm : Hid (∀ z ∈ memL r, z.toNat < m1.length) := by
              intro z hz
              have := memL_bd (n := N) (by omega) hrG hz
              rw [HML.out]
              simpa using this
            obtain ⟨r', b6, o6, hr6, hb6, hix6, hc6⟩ := ints_at (c := c) hA Try.underlying22 szInt hbl
            obtain rfl : r = r' := by rw [hbr] at hr6; injection hr6
            have k6 := cell_chain HB5.out hb6 hc6
            have s6 : b6 < w5.heap.size := Nat.lt_of_lt_of_le hb6 HB5.out.size
            have hge : decide ((rs.length : Int) ≤ (b : Int)) = false := by simp; omega
            have hgeN : decide (rs.length ≤ b) = false := by simp; omega
            have HC94 : Hid (∀ w', Below w5.heap.size w5 w' → Calls Try.prog 94 #[.map (some bm), .int .i64 r] w' fun e w'' => e = .returned (.bool true) ∧ w'' = w') := by
              intro w' hI
              have e := count_any94 bm m1 r w' (HC5.out.frame (Frame.of_all (S := fun _ => False) hI) (fun h => h)) hrB hml6
              rw [hwr] at e
              exact e.mono fun _ _ h => ⟨h.1, h.2.symm⟩
            clear hrd h1 h2 hbr hwr hrB hrG hr6
            go_wp2
            refine draw (fun w' => Below w5.heap.size w5 w') 28 rfl (by kernel_rfl) (fun Qd hQd => ?_)
            apply anyI_step 0 rfl (by kernel_rfl)
            focus (intro wI hI Kv hKv; have t1 := cell_chain hI ly y1; have t4 := cell_chain hI s4 k4; have t6 := cell_chain hI s6 k6; go_simp; exact hKv)
            intro Kd hKd
            go_simp
            refine hKd _ ?_
            clear hKd Kd
            apply anyI_step 1 rfl (by kernel_rfl)
            focus (intro wI hI Kv hKv; have t1 := cell_chain hI ly y1; have t4 := cell_chain hI s4 k4; have t6 := cell_chain hI s6 k6; go_simp; exact hKv)
            intro Kd hKd
            go_simp
            refine hKd _ ?_
            clear hKd Kd
            apply anyI_step 2 rfl (by kernel_rfl)
            focus (intro wI hI Kv hKv; have t1 := cell_chain hI ly y1; have t4 := cell_chain hI s4 k4; have t6 := cell_chain hI s6 k6; go_simp; exact hKv)
            intro Kd hKd
            go_simp
            refine hKd _ ?_
            clear hKd Kd
            apply anyI_step 3 rfl (by kernel_rfl)
            focus (intro wI hI Kv hKv; have t1 := cell_chain hI ly y1; have t4 := cell_chain hI s4 k4; have t6 := cell_chain hI s6 k6; go_simp; exact hKv)
            intro Kd hKd
            go_simp
            refine hKd _ ?_
            clear hKd Kd
            apply anyI_step 4 rfl (by kernel_rfl)
            focus (intro wI hI Kv hKv; have t1 := cell_chain hI ly y1; have t4 := cell_chain hI s4 k4; have t6 := cell_chain hI s6 k6; go_simp; exact hKv)
            intro Kd hKd
            go_simp
            refine hKd _ ?_
            clear hKd Kd
            apply anyI_step 5 rfl (by kernel_rfl)
            focus (intro wI hI Kv hKv; have t1 := cell_chain hI ly y1; have t4 := cell_chain hI s4 k4; have t6 := cell_chain hI s6 k6; go_simp; exact hKv)
            intro Kd hKd
            go_simp
            refine hKd _ ?_
            clear hKd Kd
            apply anyI_step 6 rfl (by kernel_rfl)
            focus (intro wI hI Kv hKv; have t1 := cell_chain hI ly y1; have t4 := cell_chain hI s4 k4; have t6 := cell_chain hI s6 k6; go_simp; exact hKv)
            intro Kd hKd
            go_simp
            refine hKd _ ?_
            clear hKd Kd
            apply anyI_step 7 rfl (by kernel_rfl)
            focus (intro wI hI Kv hKv; have t1 := cell_chain hI ly y1; have t4 := cell_chain hI s4 k4; have t6 := cell_chain hI s6 k6; go_simp; exact hKv)
            intro Kd hKd
            go_simp
            refine hKd _ ?_
            clear hKd Kd
            apply anyI_step 10 rfl (by kernel_rfl)
            focus (intro wI hI Kv hKv; have t1 := cell_chain hI ly y1; have t4 := cell_chain hI s4 k4; have t6 := cell_chain hI s6 k6; go_simp; exact hKv)
            intro Kd hKd
            go_simp
            refine hKd _ ?_
            clear hKd Kd
            apply anyI_step 8 rfl (by kernel_rfl)
            focus (intro wI hI Kv hKv; have t1 := cell_chain hI ly y1; have t4 := cell_chain hI s4 k4; have t6 := cell_chain hI s6 k6; go_simp; exact hKv)
            intro Kd hKd
            go_simp
            refine hKd _ ?_
            clear hKd Kd
            apply anyI_step 11 rfl (by kernel_rfl)
            focus (intro wI hI Kv hKv; have t1 := cell_chain hI ly y1; have t4 := cell_chain hI s4 k4; have t6 := cell_chain hI s6 k6; go_simp; exact hKv)
            intro Kd hKd
            go_simp
            refine hKd _ ?_
            clear hKd Kd
            apply anyI_step 9 rfl (by kernel_rfl)
            focus (intro wI hI Kv hKv; have t1 := cell_chain hI ly y1; have t4 := cell_chain hI s4 k4; have t6 := cell_chain hI s6 k6; go_simp; exact hKv)
            intro Kd hKd
            go_simp
            refine hKd _ ?_
            clear hKd Kd
            apply anyI_step 12 rfl (by kernel_rfl)
            focus (intro wI hI Kv hKv; have t1 := cell_chain hI ly y1; have t4 := cell_chain hI s4 k4; have t6 := cell_chain hI s6 k6; go_simp; exact hKv)
            intro Kd hKd
            go_simp
            refine hKd _ ?_
            clear hKd Kd
            apply anyI_step 13 rfl (by kernel_rfl)
            focus (intro wI hI Kv hKv; have t1 := cell_chain hI ly y1; have t4 := cell_chain hI s4 k4; have t6 := cell_chain hI s6 k6; go_simp; exact hKv)
            intro Kd hKd
            go_simp
            refine hKd _ ?_
            clear hKd Kd
            apply anyI_step 14 rfl (by kernel_rfl)
            focus (intro wI hI Kv hKv; have t1 := cell_chain hI ly y1; have t4 := cell_chain hI s4 k4; have t6 := cell_chain hI s6 k6; go_simp; exact hKv)
            intro Kd hKd
            go_simp
            refine hKd _ ?_
            clear hKd Kd
            apply anyI_step 15 rfl (by kernel_rfl)
            focus (intro wI hI Kv hKv; have t1 := cell_chain hI ly y1; have t4 := cell_chain hI s4 k4; have t6 := cell_chain hI s6 k6; go_simp; exact hKv)
            intro Kd hKd
            go_simp
            refine hKd _ ?_
            clear hKd Kd
            apply anyI_step 16 rfl (by kernel_rfl)
            focus (intro wI hI Kv hKv; have t1 := cell_chain hI ly y1; have t4 := cell_chain hI s4 k4; have t6 := cell_chain hI s6 k6; go_simp; exact hKv)
            intro Kd hKd
            go_simp
            refine hKd _ ?_
            clear hKd Kd
            apply anyI_step 17 rfl (by kernel_rfl)
            focus (intro wI hI Kv hKv; have t1 := cell_chain hI ly y1; have t4 := cell_chain hI s4 k4; have t6 := cell_chain hI s6 k6; go_simp; exact hKv)
            intro Kd hKd
            go_simp
            refine hKd _ ?_
            clear hKd Kd
            apply anyI_step 19 rfl (by kernel_rfl)
            focus (intro wI hI Kv hKv; have t1 := cell_chain hI ly y1; have t4 := cell_chain hI s4 k4; have t6 := cell_chain hI s6 k6; go_simp; exact hKv)
            intro Kd hKd
            go_simp
            refine hKd _ ?_
            clear hKd Kd
            apply anyI_step 20 rfl (by kernel_rfl)
            focus (intro wI hI Kv hKv; have t1 := cell_chain hI ly y1; have t4 := cell_chain hI s4 k4; have t6 := cell_chain hI s6 k6; go_simp; exact hKv)
            intro Kd hKd
            go_simp
            refine hKd _ ?_
            clear hKd Kd
            apply anyI_step 18 rfl (by kernel_rfl)
            focus (intro wI hI Kv hKv; have t1 := cell_chain hI ly y1; have t4 := cell_chain hI s4 k4; have t6 := cell_chain hI s6 k6; go_simp; exact hKv)
            intro Kd hKd
            go_simp
            refine hKd _ ?_
            clear hKd Kd
            apply anyI_step 21 rfl (by kernel_rfl)
            focus (intro wI hI Kv hKv; have t1 := cell_chain hI ly y1; have t4 := cell_chain hI s4 k4; have t6 := cell_chain hI s6 k6; go_simp; exact hKv)
            intro Kd hKd
            go_simp
            refine hKd _ ?_
            clear hKd Kd
            apply anyI_step 22 rfl (by kernel_rfl)
            focus (intro wI hI Kv hKv; have t1 := cell_chain hI ly y1; have t4 := cell_chain hI s4 k4; have t6 := cell_chain hI s6 k6; go_simp; exact hKv)
            intro Kd hKd
            go_simp
            refine hKd _ ?_
            clear hKd Kd
            apply anyI_step 23 rfl (by kernel_rfl)
            focus (intro wI hI Kv hKv; have t1 := cell_chain hI ly y1; have t4 := cell_chain hI s4 k4; have t6 := cell_chain hI s6 k6; go_simp; exact hKv)
            intro Kd hKd
            go_simp
            refine hKd _ ?_
            clear hKd Kd
            apply anyI_step 24 rfl (by kernel_rfl)
            focus (intro wI hI Kv hKv; have t1 := cell_chain hI ly y1; have t4 := cell_chain hI s4 k4; have t6 := cell_chain hI s6 k6; go_simp; exact hKv)
            intro Kd hKd
            go_simp
            refine hKd _ ?_
            clear hKd Kd
            apply anyI_step 25 rfl (by kernel_rfl)
            focus (intro wI hI Kv hKv; go_simp; exact ⟨_, (HC94.out _ hI), hKv⟩)
            intro Kd hKd
            go_simp
            refine hKd _ ?_
            clear hKd Kd
            apply anyI_step 26 rfl (by kernel_rfl)
            focus (intro wI hI Kv hKv; go_simp; exact hKv)
            intro Kd hKd
            go_simp
            refine hKd _ ?_
            clear hKd Kd
            apply anyI_step 27 rfl (by kernel_rfl)
            focus (intro wI hI Kv hKv; go_simp; exact hKv)
            intro Kd hKd
            go_simp
            refine hKd _ ?_
            clear hKd Kd
            refine anyI_end (by kernel_rfl) ((Below.refl _ _).drew) (hQd _ _ ?_)
            clear hQd Qd
            clear k4 s4 k6 s6 y0 y1 ly
            obtain ⟨w6, hw6⟩ : ∃ w6, w5.drew = w6 := ⟨_, rfl⟩
            have hB56 : Below w5.heap.size w5 w6 := by rw [← hw6]; exact (Below.refl _ _).drew
            have HC6 : Hid (CntAt w6 bm m1) := HC5.out.frame (Frame.of_all (S := fun _ => False) hB56) (fun h => h)
            have HG6 := Lib.hid (HG5.out.below hB56 HG5.out.lt)
            have HI6 : Hid (Inv (wTo nx s0 rs l rules Mk (k + 1)) w6) := HC.out.keep _ (fun _ => False) _ _ HI5.out (Frame.of_all hB56) (fun _ _ h => h.elim)
            have HF6 : Hid (Frame (fun b => b = bm ∨ S b) W1 w6) := HF5.out.trans (Frame.of_all (S := fun _ => False) hB56) (fun _ _ h => h.elim)
            have HB6 : Hid (Below wl.heap.size wl w6) := HB5.out.trans (hB56.mono (by have := HB5.out.size; omega))
            rw [hw6]
            clear hw6 hB56
            go_wp2
            go_loopw [17] (fun i wr => ∃ q : Nat, q ≤ N ∧ i = .int .i64 q ∧ CntAt wr bm (decTo r m1 q) ∧ Frame (fun b => b = bm) w6 wr) (fun i _ => N - (intOf i).toNat)
            case atStart => exact ⟨0, Nat.zero_le _, rfl, HC6.out, Frame.refl _ _⟩
            case round =>
              obtain ⟨q, hq, rfl, hcnt, hF⟩ := hrel
              have HCNT7 := Lib.hid hcnt
              have HF7 := Lib.hid hF
              have HB7 : Hid (Below wl.heap.size wl wr) := HB6.out.trans (hF.below (B := wl.heap.size) (fun b e => by omega) (by have := HB6.out.size; omega))
              have HG7 : Hid (Blk wr w.heap.size (.cells #[.int .i64 (N : Int), .slice A rs.length c] 24)) := HG6.out.frame hF (by omega)
              have y0 := HG7.out.cell 0 (v := .int .i64 (N : Int)) rfl
              have y1 := HG7.out.cell 1 (v := .slice A rs.length c) rfl
              have ly := HG7.out.lt
              have k4 := cell_chain HB7.out hb4 hc4
              have k6 := cell_chain HB7.out hb6 hc6
              have s4 : b4 < wr.heap.size := Nat.lt_of_lt_of_le hb4 HB7.out.size
              have s6 : b6 < wr.heap.size := Nat.lt_of_lt_of_le hb6 HB7.out.size
              clear hcnt hF
              by_cases hqt : q < N
              · obtain ⟨v, hv⟩ : ∃ v, (decTo r m1 q).getD q 0 = v := ⟨_, rfl⟩
                have hqm : q < m1.length := by rw [HML.out]; exact hqt
                have hvb : -1000 ≤ v ∧ v ≤ 1000 := by
                  have e : (decTo r m1 q)[q]? = some v := by rw [← hv, List.getElem?_eq_getElem (by rw [decTo_len]; exact hqm)]; simp [List.getD, decTo_len, hqm]
                  rw [decTo_get q q (Nat.le_refl _)] at e
                  exact HBD1.out v (List.mem_of_getElem? e)
                cases hin : inI r q with
                | true =>
                  have H66 : Hid (∀ w', Calls Try.prog 66 #[.int .i64 r, .int .i64 (q : Int)] w' fun e w'' => e = .returned (.bool true) ∧ w'' = w') := by
                    intro w'
                    have e := has_any r q w' (by omega) (by omega)
                    rw [hin] at e
                    exact e.mono fun _ _ h => ⟨h.1, h.2.symm⟩
                  have hlook := HCNT7.out.look (c := q) (by omega)
                  rw [hv] at hlook
                  have HLK : Hid (∀ w', Frame (fun _ => False) wr w' → (Instr.lookup 108 (.map (some bm)) (.int .i64 (q : Int)) false).run Try.prog w' = .ok (.int .i64 v) w') := by
                    intro w' hF
                    have e := (HCNT7.out.frame hF (fun h => h)).look (c := q) (by omega)
                    rw [hv] at e
                    exact e
                  have HDC : Hid (decTo r m1 (q + 1) = (decTo r m1 q).set q (v - 1)) := by
                    show _ = _
                    rw [decTo_hit hin]
                    unfold decAt
                    rw [Int.toNat_natCast, hv]
                  clear hv hin hlook
                  go_wp2
                  refine draw (fun w' => Below wr.heap.size wr w') 10 rfl (by kernel_rfl) (fun Qd hQd => ?_)
                  apply anyI_step 0 rfl (by kernel_rfl)
                  focus (intro wI hI Kv hKv; have t1 := cell_chain hI ly y1; have t4 := cell_chain hI s4 k4; have t6 := cell_chain hI s6 k6; go_simp; exact hKv)
                  intro Kd hKd
                  go_simp
                  refine hKd _ ?_
                  clear hKd Kd
                  apply anyI_step 2 rfl (by kernel_rfl)
                  focus (intro wI hI Kv hKv; have t1 := cell_chain hI ly y1; have t4 := cell_chain hI s4 k4; have t6 := cell_chain hI s6 k6; go_simp; exact hKv)
                  intro Kd hKd
                  go_simp
                  refine hKd _ ?_
                  clear hKd Kd
                  apply anyI_step 3 rfl (by kernel_rfl)
                  focus (intro wI hI Kv hKv; have t1 := cell_chain hI ly y1; have t4 := cell_chain hI s4 k4; have t6 := cell_chain hI s6 k6; go_simp; exact hKv)
                  intro Kd hKd
                  go_simp
                  refine hKd _ ?_
                  clear hKd Kd
                  apply anyI_step 8 rfl (by kernel_rfl)
                  focus (intro wI hI Kv hKv; have t1 := cell_chain hI ly y1; have t4 := cell_chain hI s4 k4; have t6 := cell_chain hI s6 k6; go_simp; exact hKv)
                  intro Kd hKd
                  go_simp
                  refine hKd _ ?_
                  clear hKd Kd
                  apply anyI_step 1 rfl (by kernel_rfl)
                  focus (intro wI hI Kv hKv; have t1 := cell_chain hI ly y1; have t4 := cell_chain hI s4 k4; have t6 := cell_chain hI s6 k6; go_simp; exact hKv)
                  intro Kd hKd
                  go_simp
                  refine hKd _ ?_
                  clear hKd Kd
                  apply anyI_step 4 rfl (by kernel_rfl)
                  focus (intro wI hI Kv hKv; have t1 := cell_chain hI ly y1; have t4 := cell_chain hI s4 k4; have t6 := cell_chain hI s6 k6; go_simp; exact hKv)
                  intro Kd hKd
                  go_simp
                  refine hKd _ ?_
                  clear hKd Kd
                  apply anyI_step 5 rfl (by kernel_rfl)
                  focus (intro wI hI Kv hKv; have t1 := cell_chain hI ly y1; have t4 := cell_chain hI s4 k4; have t6 := cell_chain hI s6 k6; go_simp; exact hKv)
                  intro Kd hKd
                  go_simp
                  refine hKd _ ?_
                  clear hKd Kd
                  apply anyI_step 6 rfl (by kernel_rfl)
                  focus (intro wI hI Kv hKv; have t1 := cell_chain hI ly y1; have t4 := cell_chain hI s4 k4; have t6 := cell_chain hI s6 k6; go_simp; exact hKv)
                  intro Kd hKd
                  go_simp
                  refine hKd _ ?_
                  clear hKd Kd
                  apply anyI_step 7 rfl (by kernel_rfl)
                  focus (intro wI hI Kv hKv; have t1 := cell_chain hI ly y1; have t4 := cell_chain hI s4 k4; have t6 := cell_chain hI s6 k6; go_simp; exact hKv)
                  intro Kd hKd
                  go_simp
                  refine hKd _ ?_
                  clear hKd Kd
                  apply anyI_step 9 rfl (by kernel_rfl)
                  focus (intro wI hI Kv hKv; go_simp; exact ⟨_, (H66.out _), hKv⟩)
                  intro Kd hKd
                  go_simp
                  refine hKd _ ?_
                  clear hKd Kd
                  refine anyI_end (by kernel_rfl) ((Below.refl _ _).drew) (hQd _ _ ?_)
                  clear hQd Qd
                  obtain ⟨w8, hw8⟩ : ∃ w8, wr.drew = w8 := ⟨_, rfl⟩
                  have hF78 : Frame (fun _ => False) wr w8 := by rw [← hw8]; exact (Frame.refl _ wr).drew
                  rw [hw8]
                  have hlook := HLK.out w8 hF78
                  obtain ⟨w9, hput, hcnt9, hg9⟩ := (HCNT7.out.frame hF78 (fun h => h)).put (c := q) (by omega) (by rw [decTo_len]; exact hqm) (v - 1)
                  rw [← HDC.out] at hcnt9
                  have HC9 := Lib.hid hcnt9
                  have HF9 : Hid (Frame (fun b => b = bm) w6 w9) := (HF7.out.trans hF78 (fun _ _ h => h.elim)).trans (Frame.of_grown hg9) (fun b _ e => by injection e with e; exact e.symm)
                  clear hw8 hF78 hcnt9 hg9 y0 y1 k4 k6
                  go_wp2
                  go_roundw
                  case rel => exact ⟨q + 1, by omega, by go_num, HC9.out, HF9.out⟩
                  case measure => simp [intOf]; omega
                | false =>
                  have H66 : Hid (∀ w', Calls Try.prog 66 #[.int .i64 r, .int .i64 (q : Int)] w' fun e w'' => e = .returned (.bool false) ∧ w'' = w') := by
                    intro w'
                    have e := has_any r q w' (by omega) (by omega)
                    rw [hin] at e
                    exact e.mono fun _ _ h => ⟨h.1, h.2.symm⟩
                  have HDC : Hid (decTo r m1 (q + 1) = decTo r m1 q) := decTo_miss hin
                  clear hv hin
                  go_wp2
                  refine draw (fun w' => Below wr.heap.size wr w') 10 rfl (by kernel_rfl) (fun Qd hQd => ?_)
                  apply anyI_step 0 rfl (by kernel_rfl)
                  focus (intro wI hI Kv hKv; have t1 := cell_chain hI ly y1; have t4 := cell_chain hI s4 k4; have t6 := cell_chain hI s6 k6; go_simp; exact hKv)
                  intro Kd hKd
                  go_simp
                  refine hKd _ ?_
                  clear hKd Kd
                  apply anyI_step 2 rfl (by kernel_rfl)
                  focus (intro wI hI Kv hKv; have t1 := cell_chain hI ly y1; have t4 := cell_chain hI s4 k4; have t6 := cell_chain hI s6 k6; go_simp; exact hKv)
                  intro Kd hKd
                  go_simp
                  refine hKd _ ?_
                  clear hKd Kd
                  apply anyI_step 3 rfl (by kernel_rfl)
                  focus (intro wI hI Kv hKv; have t1 := cell_chain hI ly y1; have t4 := cell_chain hI s4 k4; have t6 := cell_chain hI s6 k6; go_simp; exact hKv)
                  intro Kd hKd
                  go_simp
                  refine hKd _ ?_
                  clear hKd Kd
                  apply anyI_step 8 rfl (by kernel_rfl)
                  focus (intro wI hI Kv hKv; have t1 := cell_chain hI ly y1; have t4 := cell_chain hI s4 k4; have t6 := cell_chain hI s6 k6; go_simp; exact hKv)
                  intro Kd hKd
                  go_simp
                  refine hKd _ ?_
                  clear hKd Kd
                  apply anyI_step 1 rfl (by kernel_rfl)
                  focus (intro wI hI Kv hKv; have t1 := cell_chain hI ly y1; have t4 := cell_chain hI s4 k4; have t6 := cell_chain hI s6 k6; go_simp; exact hKv)
                  intro Kd hKd
                  go_simp
                  refine hKd _ ?_
                  clear hKd Kd
                  apply anyI_step 4 rfl (by kernel_rfl)
                  focus (intro wI hI Kv hKv; have t1 := cell_chain hI ly y1; have t4 := cell_chain hI s4 k4; have t6 := cell_chain hI s6 k6; go_simp; exact hKv)
                  intro Kd hKd
                  go_simp
                  refine hKd _ ?_
                  clear hKd Kd
                  apply anyI_step 5 rfl (by kernel_rfl)
                  focus (intro wI hI Kv hKv; have t1 := cell_chain hI ly y1; have t4 := cell_chain hI s4 k4; have t6 := cell_chain hI s6 k6; go_simp; exact hKv)
                  intro Kd hKd
                  go_simp
                  refine hKd _ ?_
                  clear hKd Kd
                  apply anyI_step 6 rfl (by kernel_rfl)
                  focus (intro wI hI Kv hKv; have t1 := cell_chain hI ly y1; have t4 := cell_chain hI s4 k4; have t6 := cell_chain hI s6 k6; go_simp; exact hKv)
                  intro Kd hKd
                  go_simp
                  refine hKd _ ?_
                  clear hKd Kd
                  apply anyI_step 7 rfl (by kernel_rfl)
                  focus (intro wI hI Kv hKv; have t1 := cell_chain hI ly y1; have t4 := cell_chain hI s4 k4; have t6 := cell_chain hI s6 k6; go_simp; exact hKv)
                  intro Kd hKd
                  go_simp
                  refine hKd _ ?_
                  clear hKd Kd
                  apply anyI_step 9 rfl (by kernel_rfl)
                  focus (intro wI hI Kv hKv; go_simp; exact ⟨_, (H66.out _), hKv⟩)
                  intro Kd hKd
                  go_simp
                  refine hKd _ ?_
                  clear hKd Kd
                  refine anyI_end (by kernel_rfl) ((Below.refl _ _).drew) (hQd _ _ ?_)
                  clear hQd Qd
                  have HC9 : Hid (CntAt wr.drew bm (decTo r m1 (q + 1))) := by rw [HDC.out]; exact HCNT7.out.frame (S := fun _ => False) (Frame.refl _ wr).drew (fun h => h)
                  clear y0 y1 k4 k6
                  go_wp2
                  go_roundw
                  case rel => exact ⟨q + 1, by omega, by go_num, HC9.out, HF7.out.drew⟩
                  case measure => simp [intOf]; omega
              · obtain rfl : q = N := by omega
                have hdt : decTo r m1 q = Mk (k + 1) := by
                  rw [HMN.out, ← decTo_takeQ HLMm.out hml6, HML.out]
                rw [hdt] at HCNT7
                have hr7 := HREST.out (k + 1) (by omega)
                have hml7 : (Mk (k + 1)).length ≤ 6 := by have := (HQ.out (k + 1) (by omega)).len; omega
                have HR7 := Lib.hid hr7
                have HI7 : Hid (Inv (wTo nx s0 rs l rules Mk (k + 1)) wr) := by
                  obtain ⟨mm, hmm6, _⟩ := HC6.out
                  exact HC.out.keep _ _ _ _ HI6.out HF7.out (fun b _ e => by subst e; exact ⟨mm, hmm6⟩)
                have HF7W : Hid (Frame (fun b => b = bm ∨ S b) W1 wr) := HF6.out.trans HF7.out (fun b _ e => .inl e)
                obtain ⟨w7, rfl⟩ : ∃ w7 : World, w7 = wr := ⟨_, rfl⟩
                clear hdt hr7 k4 k6
                go_wp2
                clear y0 y1
                go_loopw [130] (fun i wr => ∃ j : Nat, j ≤ rs.length ∧ i = .int .i64 j ∧ Below w7.heap.size w7 wr) (fun i _ => rs.length - (intOf i).toNat)
                case atStart => exact ⟨0, Nat.zero_le _, rfl, Below.refl _ _⟩
                case round =>
                  obtain ⟨j, hj, rfl, hB8⟩ := hrel
                  have HB8 := Lib.hid hB8
                  clear hB8
                  by_cases hjt : j < rs.length
                  · obtain ⟨r2, b8, o8, hr8, hb8, hix8, hc8⟩ := ints_at (c := c) ((hA.below HB7.out (Nat.le_refl _)).below HB8.out (Nat.le_refl _)) Try.underlying22 szInt hjt
                    have hmem := List.mem_of_getElem? hr8
                    have e94 := count_any94 bm (Mk (k + 1)) r2 wr (HCNT7.out.frame (Frame.of_all (S := fun _ => False) HB8.out) (fun h => h)) (HBA.out r2 hmem) hml7
                    rw [rest_iff.1 HR7.out r2 hmem] at e94
                    have HE94 := Lib.hid e94
                    clear hr8 hmem e94
                    go_wp2_with fail
                    refine HE94.out.mono ?_
                    rintro e w9 ⟨rfl, rfl⟩
                    go_wp2
                    go_roundw
                    case rel => exact ⟨j + 1, by omega, by go_num, HB8.out⟩
                    case measure => simp [intOf]; omega
                  · obtain rfl : j = rs.length := by omega
                    have HC9 : Hid (CntAt wr bm (Mk (k + 1))) := HCNT7.out.frame (Frame.of_all (S := fun _ => False) HB8.out) (fun h => h)
                    have HI9 : Hid (Inv (wTo nx s0 rs l rules Mk (k + 1)) wr) := HC.out.keep _ (fun _ => False) _ _ HI7.out (Frame.of_all HB8.out) (fun _ _ h => h.elim)
                    have HF9 : Hid (Frame (fun b => b = bm ∨ S b) W1 wr) := HF7W.out.trans (Frame.of_all (S := fun _ => False) HB8.out) (fun _ _ h => h.elim)
                    go_wp2
                    go_roundw
                    case rel => exact ⟨k + 1, by omega, by go_num, HC9.out, HI9.out, HF9.out⟩
                    case measure => simp [intOf]; omega
    · obtain rfl : k = l.length := by omega
      have HFS : Hid (Frame S w wr) := HFr0.out.trans HF.out (fun b hb e => by rcases e with e | e; omega; exact e)
      obtain ⟨w9, rfl⟩ : ∃ w9 : World, w9 = wr := ⟨_, rfl⟩
      have HMS := HP.out.left
      rw [HMS] at HCNT
      have hlm2 : left.length ≤ 6 := by have := HLM.out; omega
      go_wp2
      go_loopw [141] (fun i wr => ∃ q : Nat, q ≤ left.length ∧ i = .int .i64 q ∧ wr = w9) (fun i _ => left.length - (intOf i).toNat)
      case atStart => exact ⟨0, Nat.zero_le _, rfl, rfl⟩
      case round =>
        obtain ⟨q, hq, rfl, rfl⟩ := hrel
        by_cases hqt : q < left.length
        · obtain ⟨z, b8, o8, hz8, hb8, hix8, hc8⟩ := ints_at (c := h) (hG.below HBr.out (Nat.le_refl _)) Try.underlying22 szInt hqt
          have hlook := HCNT.out.look (c := q) (by omega)
          have hzz : left.getD q 0 = z := by simp [List.getD, hz8]
          rw [hzz] at hlook
          have hzn : (z != z) = false := by simp
          clear hz8 hzz
          go_wp2
          go_roundw
          case rel => exact ⟨q + 1, by omega, by go_num, trivial⟩
          case measure => simp [intOf]; omega
        · obtain rfl : q = left.length := by omega
          go_wp2
          go_ret
          exact ⟨rfl, HINV.out, HFS.out⟩
end Go.Proofs.Ytlnonadkdonhmaa
