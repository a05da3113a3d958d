/- Contracts and lemmas that a claim of this seat uses. -/
import Derived.Test.YtlnonadkdonhmaaL3
import Derived.Test.YtlnonadkdonhmaaL2
import Derived.Test.YtlnonadkdonhmaaL1

/- The reference's next sets are the program's. -/
namespace Go.Proofs.Ytlnonadkdonhmaa
open Go.RowKit

theorem ofInt_bits_small {x : BitVec 64} (h : x.toNat < 9223372036854775808) : BitVec.ofInt 64 (IntKind.i64.wrap (x.toNat : Int)) = x := by
  rw [wrap_small (by omega) (by omega), BitVec.ofInt_natCast, BitVec.ofNat_toNat, BitVec.setWidth_eq]

theorem bv_small {a : Int} (h : isB a) : (BitVec.ofInt 64 a).toNat < 64 := by
  obtain ⟨x, rfl⟩ := Int.eq_ofNat_of_zero_le h.1
  rw [ofInt_small (by have := h.2; omega)]
  have := h.2; omega

theorem andNot_twice {a b c : Int} (ha : isB a) (hb : isB b) (hc : isB c) : bits BinOp.andNot .i64 (bits BinOp.andNot .i64 a b) c = bits BinOp.andNot .i64 a (bits BinOp.or .i64 b c) := by
  have h1 : bits BinOp.andNot .i64 a b = IntKind.i64.wrap ((BitVec.ofInt 64 a &&& ~~~ BitVec.ofInt 64 b).toNat : Int) := rfl
  have h2 : bits BinOp.or .i64 b c = IntKind.i64.wrap ((BitVec.ofInt 64 b ||| BitVec.ofInt 64 c).toNat : Int) := rfl
  have h3 : ∀ x y : Int, bits BinOp.andNot .i64 x y = IntKind.i64.wrap ((BitVec.ofInt 64 x &&& ~~~ BitVec.ofInt 64 y).toNat : Int) := fun _ _ => rfl
  have b1 : (BitVec.ofInt 64 a &&& ~~~ BitVec.ofInt 64 b).toNat < 9223372036854775808 := by
    have := bv_small ha
    rw [BitVec.toNat_and]
    have h : (BitVec.ofInt 64 a).toNat &&& (~~~ BitVec.ofInt 64 b).toNat ≤ (BitVec.ofInt 64 a).toNat := Nat.and_le_left
    omega
  have b2 : (BitVec.ofInt 64 b ||| BitVec.ofInt 64 c).toNat < 9223372036854775808 := by
    have hx := bv_small hb
    have hy := bv_small hc
    rw [BitVec.toNat_or]
    have h : (BitVec.ofInt 64 b).toNat ||| (BitVec.ofInt 64 c).toNat < 2 ^ 6 := Nat.or_lt_two_pow hx hy
    omega
  rw [h3 (bits BinOp.andNot .i64 a b) c, h3 a (bits BinOp.or .i64 b c), h1, h2, ofInt_bits_small b1, ofInt_bits_small b2]
  congr 2
  rw [BitVec.and_assoc]
  congr 2
  ext i
  simp

theorem andNot_zero {a : Int} (ha : isB a) : bits BinOp.andNot .i64 a 0 = a := by
  have h3 : bits BinOp.andNot .i64 a 0 = IntKind.i64.wrap ((BitVec.ofInt 64 a &&& ~~~ BitVec.ofInt 64 0).toNat : Int) := rfl
  obtain ⟨x, rfl⟩ := Int.eq_ofNat_of_zero_le ha.1
  have e : (BitVec.ofInt 64 (x : Int) &&& ~~~ BitVec.ofInt 64 0) = BitVec.ofInt 64 (x : Int) := by rw [show ~~~ BitVec.ofInt 64 0 = BitVec.allOnes 64 by decide, BitVec.and_allOnes]
  rw [h3, e, ofInt_small (by have := ha.2; omega), wrap_small (by omega) (by have := ha.2; omega)]

/-- The channels that are not kept. -/
def maskTo (os : List Int) (kept : Int) : Nat → Int
  | 0 => 0
  | k + 1 => if bit0 kept k then bits BinOp.or .i64 (maskTo os kept k) (2 ^ (os.getD k 0).toNat) else maskTo os kept k

theorem maskTo_isB {os : List Int} {kept : Int} (h : ∀ x ∈ os, 0 ≤ x ∧ x < 6) : ∀ k, k ≤ os.length → isB (maskTo os kept k)
  | 0, _ => ⟨by simp [maskTo], by simp [maskTo]⟩
  | k + 1, hk => by
    unfold maskTo
    have hx : os[k]? = some os[k] := List.getElem?_eq_getElem (by omega)
    have h1 := h os[k] (List.getElem_mem _)
    split
    · refine or_isB (maskTo_isB h k (by omega)) ?_
      simp only [List.getD, hx, Option.getD_some]
      exact pow_isB h1.1 h1.2
    · exact maskTo_isB h k (by omega)

theorem toF_mask {os : List Int} {set kept : Int} (hs : isB set) (h : ∀ x ∈ os, 0 ≤ x ∧ x < 6) : ∀ k, k ≤ os.length → toF os set kept k = bits BinOp.andNot .i64 set (maskTo os kept k)
  | 0, _ => (andNot_zero hs).symm
  | k + 1, hk => by
    have hx : os[k]? = some os[k] := List.getElem?_eq_getElem (by omega)
    have h1 := h os[k] (List.getElem_mem _)
    have hg : os.getD k 0 = os[k] := by simp only [List.getD, hx, Option.getD_some]
    rw [toF, maskTo, toF_mask hs h k (by omega)]
    split
    · rw [andNot_twice hs (maskTo_isB h k (by omega)) (by rw [hg]; exact pow_isB h1.1 h1.2)]
    · rfl

/-- The reference's mask. -/
def maskR (os : List Int) (k : Nat) : Int := bits BinOp.andNot .i64 (keepsI os ((2 ^ os.length : Nat) - 1)) (keepsI os k)

set_option maxRecDepth 100000 in
theorem others_all : ((List.range 64).all fun r => (List.range 6).all fun c => decide (othersA (r : Int) (c : Int) = othersI (r : Int) (c : Int))) = true := by kernel_rfl

set_option maxRecDepth 100000 in
theorem mask_all : ((List.range 64).all fun r => (List.range (2 ^ (memL (r : Int)).length)).all fun k => decide (maskTo (memL (r : Int)) (k : Int) (memL (r : Int)).length = maskR (memL (r : Int)) k)) = true := by kernel_rfl

theorem othersA_eq {r c : Int} (hr : isB r) (h0 : 0 ≤ c) (h1 : c < 6) : othersA r c = othersI r c := by
  obtain ⟨x, rfl⟩ := Int.eq_ofNat_of_zero_le hr.1
  obtain ⟨y, rfl⟩ := Int.eq_ofNat_of_zero_le h0
  have h := others_all
  rw [List.all_eq_true] at h
  have h2 := h x (List.mem_range.2 (by have := hr.2; omega))
  rw [List.all_eq_true] at h2
  exact of_decide_eq_true (h2 y (List.mem_range.2 (by omega)))

theorem stepL_eq {r c set : Int} (hr : isB r) (hs : isB set) : stepL (othersA r c) set = movesL (othersA r c) set := by
  have hm : isB (bits BinOp.andNot .i64 r (2 ^ c.toNat)) := andNot_isB hr
  unfold othersA
  generalize bits BinOp.andNot .i64 r (2 ^ c.toNat) = x at hm
  obtain ⟨x, rfl⟩ := Int.eq_ofNat_of_zero_le hm.1
  have h := mask_all
  rw [List.all_eq_true] at h
  have h2 := h x (List.mem_range.2 (by have := hm.2; omega))
  rw [List.all_eq_true] at h2
  unfold stepL movesL
  refine List.map_congr_left fun k hk => ?_
  have h3 := of_decide_eq_true (h2 k hk)
  have hb : ∀ y ∈ memL (x : Int), 0 ≤ y ∧ y < 6 := fun y hy => by
    obtain ⟨i, rfl, hi, _⟩ := pickTo_mem hy
    omega
  rw [toF_mask hs hb _ (Nat.le_refl _), h3]
  rfl

def movesN (rs : List Int) (set ch : Int) : List Int := match readyL rs (fullI set ch) with | [] => [fullI set ch] | r :: _ => movesL (othersI (rs.getD r.toNat 0) ch) set
theorem movesN_eq {rs : List Int} {set ch : Int} (hrs : ∀ r ∈ rs, isB r) (hs : isB set) (h0 : 0 ≤ ch) (h1 : ch < 6) : movesN rs set ch = stepN rs set ch := by
  unfold movesN stepN
  cases readyL rs (fullI set ch) with
  | nil => rfl
  | cons r L =>
    have hr : isB (rs.getD r.toNat 0) := by
      cases hx : rs[r.toNat]? with
      | none => simp [List.getD, hx, isB]
      | some y => simp only [List.getD, hx, Option.getD_some]; exact hrs y (List.mem_of_getElem? hx)
    simp only
    rw [← othersA_eq hr h0 h1, stepL_eq hr hs]
end Go.Proofs.Ytlnonadkdonhmaa

/- Contracts of the reference: number, moves. -/
namespace Go.Proofs.Ytlnonadkdonhmaa
open Go.RowKit Go.Maps

theorem idx_at {l : List Int} {x : Int} {k : Nat} (hn : x ∉ l.take k) (hk : l[k]? = some x) : l.idxOf x = k ∧ x ∈ l := by
  have hm : x ∈ l := List.mem_of_getElem? hk
  have hlt := (List.getElem?_eq_some_iff.1 hk).1
  refine ⟨?_, hm⟩
  have e : l = l.take k ++ x :: l.drop (k + 1) := by
    have h2 : l.drop k = x :: l.drop (k + 1) := by
      rw [List.drop_eq_getElem_cons hlt]
      have h3 : l[k] = x := by
        rw [List.getElem?_eq_getElem hlt] at hk
        injection hk
      rw [h3]
    rw [← h2, List.take_append_drop]
  rw [e, List.idxOf_append, if_neg hn]
  simp
  omega

set_option maxRecDepth 100000 in
set_option maxHeartbeats 2000000 in
theorem Number_any (base : Nat) (l : List Int) (A : Option Addr) (c : Nat) (x : Int) (w : World) (h : w.ownsRow base 3 1 (.slice A l.length c) l.length (ints l)) (hb : base ≤ w.heap.size) (hl : l.length ≤ 1000000) :
    Calls Try.prog 77 #[.slice A l.length c, .int .i64 x] w fun e w' => ∃ v', e = .returned (.tuple #[.int .i64 (l.idxOf x : Int), v']) ∧ w'.ownsRow base 3 1 v' (addNum l x).length (ints (addNum l x)) ∧
      (∀ g, v'.ownBlock = some g → (Value.slice A l.length c).ownBlock = some g ∨ w.heap.size ≤ g) ∧ Frame (fun b => (Value.slice A l.length c).ownBlock = some b) w w' := by
  obtain ⟨A', c', hv', hcs⟩ := own_out h (by simp [ints]; omega)
  obtain ⟨rfl, rfl⟩ : A = A' ∧ c = c' := by injection hv' with h1 _ h3; exact ⟨h1, h3⟩
  clear hv'
  go_enter Try.func77, Try.ntmps77
  go_wp2
  go_loop [10] (fun i => ∃ k : Nat, k ≤ l.length ∧ i = .int .i64 k ∧ Hid (x ∉ l.take k)) (fun i => l.length - (intOf i).toNat)
  case atStart => exact ⟨0, Nat.zero_le _, rfl, Lib.hid (by simp)⟩
  case round =>
    obtain ⟨k, hk, rfl, HN⟩ := hrel
    by_cases hlt : k < l.length
    · obtain ⟨y, b, o, hy, hbb, hix, hcy⟩ := ints_at (c := c) hcs Try.underlying22 szInt hlt
      have HY := Lib.hid hy
      clear hy
      by_cases hxy : y = x
      · have hd : (y == x) = true := by simp [hxy]
        have HXY := Lib.hid hxy
        clear hxy
        go_wp2
        go_ret2
        obtain ⟨hi, hm⟩ := idx_at HN.out (by rw [HY.out, HXY.out])
        have e : addNum l x = l := by simp [addNum, hm]
        rw [hi, e]
        exact ⟨_, rfl, h, fun g hg => .inl hg, Frame.refl _ _⟩
      · have hd : (y == x) = false := by simp [hxy]
        have HXY := Lib.hid hxy
        clear hxy
        go_wp2
        go_round
        case rel =>
          refine ⟨k + 1, by omega, by go_num, ?_⟩
          refine Lib.hid ?_
          rw [take_succ_of HY.out]
          have e1 := HN.out
          have e2 := HXY.out
          simp only [List.mem_append, List.mem_singleton, not_or]
          exact ⟨e1, fun e => e2 e.symm⟩
        case measure => simp [intOf]; omega
    · obtain rfl : k = l.length := by omega
      have hno : x ∉ l := by have e := HN.out; rwa [List.take_length] at e
      have HM : Hid (addNum l x = l ++ [x]) := by show _ = _; simp [addNum, hno]
      have HI : Hid (l.idxOf x = l.length) := List.idxOf_eq_length hno
      clear hno
      go_wp2_with (at_builtin; go_must (refine wpList_app1' rInt _ rfl _ _ rfl h rfl [_] 1 rfl rfl (by simp [Value.oneCell']) (by omega) (by omega) ?_); intro v2 w2 ho2 hB2 hg2 hloc2)
      go_ret2
      rw [HI.out, HM.out]
      refine ⟨v2, rfl, by simpa [ints] using ho2, hloc2, Frame.of_grown hg2⟩

theorem moves_any (n set ch : Int) (A : Option Addr) (c : Nat) (rs : List Int) (w : World) (hA : Cells w A (ints rs)) (h0 : 0 ≤ ch) (h1 : ch ≤ 60) :
    Calls Try.prog 76 #[.agg #[.int .i64 n, .slice A rs.length c], .int .i64 set, .int .i64 ch] w fun e w' => ∃ A' c', e = .returned (.tuple #[.int .i64 (stepR rs set ch), .slice A' (movesN rs set ch).length c']) ∧ New w' w.heap.size A' (ints (movesN rs set ch)) ∧ Below w.heap.size w w' := by
  cases hl : readyL rs (fullI set ch) with
  | nil =>
    have e1 : stepR rs set ch = -1 := by unfold stepR; rw [hl]
    have e2 : movesN rs set ch = [fullI set ch] := by unfold movesN; rw [hl]
    rw [e1, e2]
    exact moves_none n set ch A c rs w hA h0 h1 hl
  | cons x L =>
    obtain ⟨i, rfl, hi⟩ := readyL_mem (rs := rs) (set := fullI set ch) (r := x) (by rw [hl]; simp)
    have hr : rs[i]? = some rs[i] := List.getElem?_eq_getElem hi
    have e1 : stepR rs set ch = (i : Int) := by unfold stepR; rw [hl]
    have e2 : movesN rs set ch = movesL (othersI rs[i] ch) set := by unfold movesN; rw [hl]; simp [List.getD, hr]
    rw [e1, e2]
    exact moves_some n set ch A c rs w hA h0 h1 i L hl rs[i] hr
end Go.Proofs.Ytlnonadkdonhmaa

/- Memory of the reference's Machine. -/
namespace Go.Proofs.Ytlnonadkdonhmaa
open Go.RowKit Go.Maps

/-- What the reference's Machine has made so far, in memory. -/
structure RSt (w1 : World) (bc base : Nat) (l : List Int) (m : Mach) (acts : List AAct) (vs va vr : Value) (w : World) : Prop where
  num : w.ownsRow base 3 1 vs l.length (ints l)
  mc : Blk w bc (.cells #[vr] 27)
  mach : MachOwn (fun b => ¬ mutS bc bc bc base vs va vr b) w base vr m
  acts : ActsOwn (fun b => ¬ mutS bc bc bc base vs va vr b) w base va acts
  below : Below base w1 w
  lc : base ≤ bc
  lw : base ≤ w1.heap.size

section
variable {w1 w w' : World} {bc base : Nat} {l l' : List Int} {m : Mach} {acts : List AAct} {vs vs' va va' vr vr' : Value}
theorem RSt.later (M : RSt w1 bc base l m acts vs va vr w) (h : Below w.heap.size w w') : RSt w1 bc base l m acts vs va vr w' := by
  have hF : Frame (fun _ => False) w w' := Frame.of_all h
  exact ⟨own_frame M.num hF (fun _ _ h => h), M.mc.frame hF (fun h => h), M.mach.move hF (fun _ _ _ h => h) (fun _ _ h => h) (fun _ _ h => h), M.acts.move hF (fun _ _ _ h => h) (fun _ _ h => h) (fun _ _ h => h), M.below.trans (h.mono (Nat.le_trans M.lw M.below.size)), M.lc, M.lw⟩

theorem RSt.each (M : RSt w1 bc base l m acts vs va vr w) (hF : Frame (fun b => vs.ownBlock = some b) w w') (st : w'.ownsRow base 3 1 vs' l'.length (ints l')) (loc : ∀ g, vs'.ownBlock = some g → vs.ownBlock = some g ∨ w.heap.size ≤ g) :
    RSt w1 bc base l' m acts vs' va vr w' := by
  obtain ⟨hs1, hl1, ho1, _⟩ := M.mach
  obtain ⟨hs2, hl2, ho2, _⟩ := M.acts
  have hS : ∀ b, b < w.heap.size → ¬ mutS bc bc bc base vs va vr b → ¬ vs.ownBlock = some b := fun b _ hn e => hn (.inr (.inr (.inr (.inr (.inl e)))))
  have hP : ∀ b, b < w.heap.size → ¬ mutS bc bc bc base vs va vr b → ¬ mutS bc bc bc base vs' va vr b := by
    intro b hb hn hs
    rcases hs with e | e | e | e | e | e | e
    · exact hn (.inl e)
    · exact hn (.inr (.inl e))
    · exact hn (.inr (.inr (.inl e)))
    · exact hn (.inr (.inr (.inr (.inl e))))
    · rcases loc b e with e | e
      · exact hn (.inr (.inr (.inr (.inr (.inl e)))))
      · omega
    · exact hn (.inr (.inr (.inr (.inr (.inr (.inl e))))))
    · exact hn (.inr (.inr (.inr (.inr (.inr (.inr e))))))
  exact ⟨st, M.mc.frame hF (fun e => own_ne M.num M.mc (by decide) e), M.mach.move hF hS hP (fun g hg e => own_apart ho1 M.num (by decide) g hg e), M.acts.move hF hS hP (fun g hg e => own_apart ho2 M.num (by decide) g hg e),
    M.below.trans (hF.below (fun b e => (M.num.lt b e).1) (Nat.le_trans M.lw M.below.size)), M.lc, M.lw⟩

theorem RSt.act (M : RSt w1 bc base l m acts vs va vr w) {hs : List (Option Addr × Nat)} {a : AAct} {B : Option Addr} {c : Nat} (hl : hs.length = acts.length) (ho : w.ownsRow base 103 2 va acts.length ((acts.zip hs).flatMap actCells))
    (hc : ∀ p ∈ acts.zip hs, CellsP (fun b => ¬ mutS bc bc bc base vs va vr b) w p.2.1 (ints p.1.next)) (hB : CellsP (fun b => ¬ mutS bc bc bc base vs va vr b) w B (ints a.next))
    (ho' : w'.ownsRow base 103 2 va' (acts.length + 1) ((acts.zip hs).flatMap actCells ++ actCells (a, (B, c)))) (hg : w.grownBy w' va.ownBlock) (loc : ∀ g, va'.ownBlock = some g → va.ownBlock = some g ∨ w.heap.size ≤ g) :
    RSt w1 bc base l m (acts ++ [a]) vs va' vr w' := by
  obtain ⟨hs1, hl1, ho1, _⟩ := M.mach
  have hF := Frame.of_grown hg
  have hS : ∀ b, b < w.heap.size → ¬ mutS bc bc bc base vs va vr b → ¬ va.ownBlock = some b := fun b _ hn e => hn (.inr (.inr (.inr (.inr (.inr (.inl e))))))
  have hP : ∀ b, b < w.heap.size → ¬ mutS bc bc bc base vs va vr b → ¬ mutS bc bc bc base vs va' vr b := by
    intro b hb hn hs
    rcases hs with e | e | e | e | e | e | e
    · exact hn (.inl e)
    · exact hn (.inr (.inl e))
    · exact hn (.inr (.inr (.inl e)))
    · exact hn (.inr (.inr (.inr (.inl e))))
    · exact hn (.inr (.inr (.inr (.inr (.inl e)))))
    · rcases loc b e with e | e
      · exact hn (.inr (.inr (.inr (.inr (.inr (.inl e))))))
      · omega
    · exact hn (.inr (.inr (.inr (.inr (.inr (.inr e))))))
  refine ⟨own_frame M.num hF (fun g hg e => own_apart ho M.num (by decide) g e hg),
    M.mc.frame hF (fun e => own_ne ho M.mc (by decide) e), M.mach.move hF hS hP (fun g hg e => own_apart ho1 ho (by decide) g hg e), ActsOwn.snoc hl ho' (fun p hp => (hc p hp).move hF hS hP) (hB.move hF hS hP),
    M.below.trans (hF.below (fun b e => (ho.lt b e).1) (Nat.le_trans M.lw M.below.size)), M.lc, M.lw⟩

theorem RSt.row {B : Option Addr} {c : Nat} (M : RSt w1 bc base l m acts vs (.slice B acts.length c) vr w) {hs : List (Option Addr × Nat)} (hl : hs.length = m.length) (ho : w.ownsRow base 101 1 vr m.length ((m.zip hs).flatMap rowCell))
    (hc : ∀ p ∈ m.zip hs, ActsP (fun b => ¬ mutS bc bc bc base vs (.slice B acts.length c) vr b) w p.2.1 p.1)
    (ho' : w'.ownsRow base 101 1 vr' (m.length + 1) ((m.zip hs).flatMap rowCell ++ rowCell (acts, (B, c)))) (hg : w.grownBy w' vr.ownBlock) (loc : ∀ g, vr'.ownBlock = some g → vr.ownBlock = some g ∨ w.heap.size ≤ g) (hla : acts.length ≤ 1000000) :
    RSt w1 bc base l (m ++ [acts]) [] vs (.slice none 0 0) vr' (w'.setCell ⟨bc, 0, none⟩ vr') := by
  obtain ⟨hs2, hl2, ho2, hc2⟩ := M.acts
  have hg0 : ∀ g, (Value.slice B acts.length c).ownBlock = some g → ¬ mutS bc bc bc base vs (.slice none 0 0) vr g := by
    intro g hg hs
    rcases hs with e | e | e | e | e | e | e
    · have := (ho2.lt g hg).1; omega
    · exact own_ne ho2 M.mc (by decide) (by rw [hg, e])
    · exact own_ne ho2 M.mc (by decide) (by rw [hg, e])
    · exact own_ne ho2 M.mc (by decide) (by rw [hg, e])
    · exact own_apart ho2 M.num (by decide) g hg e
    · cases e
    · exact own_apart ho2 ho (by decide) g hg e
  have hdrop : ∀ b, b < w.heap.size → ¬ mutS bc bc bc base vs (.slice B acts.length c) vr b → ¬ mutS bc bc bc base vs (.slice none 0 0) vr b := by
    intro b _ hn hs
    rcases hs with e | e | e | e | e | e | e
    · exact hn (.inl e)
    · exact hn (.inr (.inl e))
    · exact hn (.inr (.inr (.inl e)))
    · exact hn (.inr (.inr (.inr (.inl e))))
    · exact hn (.inr (.inr (.inr (.inr (.inl e)))))
    · cases e
    · exact hn (.inr (.inr (.inr (.inr (.inr (.inr e))))))
  obtain ⟨A', c', hv, hP⟩ := (M.acts.move (Frame.refl (fun _ => False) w) (fun _ _ _ h => h) hdrop (fun _ _ h => h)).out hg0 hla
  obtain ⟨rfl, rfl⟩ : B = A' ∧ c = c' := by injection hv with h1 _ h3; exact ⟨h1, h3⟩
  have hbc' : Blk w' bc (.cells #[vr] 27) := M.mc.grown hg (own_ne ho M.mc (by decide))
  have hF : Frame (fun b => vr.ownBlock = some b ∨ b = bc) w (w'.setCell ⟨bc, 0, none⟩ vr') := ((Frame.of_grown hg).mono (fun _ _ h => .inl h)).setCell (.inl (.inr rfl)) _
  have hS : ∀ b, b < w.heap.size → ¬ mutS bc bc bc base vs (.slice none 0 0) vr b → ¬ (vr.ownBlock = some b ∨ b = bc) := by
    intro b _ hn hs
    rcases hs with e | e
    · exact hn (.inr (.inr (.inr (.inr (.inr (.inr e))))))
    · exact hn (.inr (.inr (.inr (.inl e))))
  have hP' : ∀ b, b < w.heap.size → ¬ mutS bc bc bc base vs (.slice none 0 0) vr b → ¬ mutS bc bc bc base vs (.slice none 0 0) vr' b := by
    intro b hb hn hs
    rcases hs with e | e | e | e | e | e | e
    · exact hn (.inl e)
    · exact hn (.inr (.inl e))
    · exact hn (.inr (.inr (.inl e)))
    · exact hn (.inr (.inr (.inr (.inl e))))
    · exact hn (.inr (.inr (.inr (.inr (.inl e)))))
    · cases e
    · rcases loc b e with e | e
      · exact hn (.inr (.inr (.inr (.inr (.inr (.inr e))))))
      · omega
  have ho2' := own_frame ho' ((Frame.refl (fun k => k = bc) w').setCell (p := ⟨bc, 0, none⟩) (.inl rfl) vr') (fun g hg e => own_ne ho' hbc' (by decide) (by rw [hg, e]))
  refine ⟨own_frame M.num hF ?_, hbc'.set1 _, MachOwn.snoc hl ho2' (fun p hp => (hc p hp).move hF (fun b hb hn => hS b hb (hdrop b hb hn)) (fun b hb hn => hP' b hb (hdrop b hb hn))) (hP.move hF hS hP'), ActsOwn.nil _ _ _,
    M.below.trans (hF.below ?_ (Nat.le_trans M.lw M.below.size)), M.lc, M.lw⟩
  · rintro g hg (e | e)
    · exact own_apart ho M.num (by decide) g e hg
    · exact own_ne M.num M.mc (by decide) (by rw [hg, e])
  · rintro b (e | e)
    · exact (ho.lt b e).1
    · rw [e]; exact M.lc
end
end Go.Proofs.Ytlnonadkdonhmaa

/- Contract: Machine of the reference. -/
namespace Go.Proofs.Ytlnonadkdonhmaa
open Go.RowKit Go.Maps

theorem results_c {P : Program} {fn : Func} {tmps : Array Value} {w : World} {a : Tmp} {t : TypeId} {p : Addr} {v : Value} (h : fn.results = #[.cell a t]) (ha : tmps.getD a undef = .pointer (some p)) (hl : (loadVar t p).run P w = .ok v w) :
    (results fn tmps).run P w = .ok v w := by
  simp only [Array.getD_eq_getD_getElem?] at ha
  simp [results, h, ha, hl, asAddr]

theorem goodR_isB {n r : Int} (h : goodR n r = true) (hn : n ≤ 6) : isB r := by
  simp only [goodR, setI, Bool.and_eq_true, decide_eq_true_eq] at h
  have h2 : (2 : Int) ^ n.toNat ≤ 2 ^ 6 := by
    have h3 : (2 ^ n.toNat : Nat) ≤ 2 ^ 6 := Nat.pow_le_pow_right (by decide) (by omega)
    exact_mod_cast h3
  exact ⟨by omega, by omega⟩

set_option maxRecDepth 100000 in
set_option maxHeartbeats 8000000 in
theorem MachineR_any (N : Nat) (A : Option Addr) (c : Nat) (rs : List Int) (w : World) (hA : Cells w A (ints rs)) (hg : grpOk (N : Int) rs = true) :
    Calls Try.prog 25 #[.agg #[.int .i64 (N : Int), .slice A rs.length c]] w fun e w' => ∃ A' c', e = .returned (.agg #[.slice A' (machI (N : Int) rs).length c']) ∧ MachAt w' A' (machI (N : Int) rs) ∧ Below w.heap.size w w' := by
  obtain ⟨hn1, hn6, _, hgood⟩ := grpOk_true hg
  have HRB : Hid (∀ r ∈ rs, isB r) := (fun r hr => goodR_isB (List.all_eq_true.1 hgood r hr) hn6)
  clear hg hgood
  obtain ⟨B0, hB0⟩ : ∃ B0, B0 = w.heap.size + 2 := ⟨_, rfl⟩
  obtain ⟨w1, hw1⟩ : ∃ w1 : World, w1 = (w.alloc (.cells #[.int .i64 (N : Int), .slice A rs.length c] 24)).alloc (.cells #[.slice none 0 0] 27) := ⟨_, rfl⟩
  have hsz1 : w1.heap.size = w.heap.size + 2 := by rw [hw1]; simp
  have g0 : w1.cell? ⟨w.heap.size, 0, none⟩ = some (.int .i64 (N : Int)) := by rw [hw1]; go_simp
  have g1 : w1.cell? ⟨w.heap.size, 1, none⟩ = some (.slice A rs.length c) := by rw [hw1]; go_simp
  have HR : Hid (Blk w1 (w.heap.size + 1) (.cells #[.slice none 0 0] 27)) := (by
    have e := Blk.new (w.alloc (.cells #[.int .i64 (N : Int), .slice A rs.length c] 24)) (.cells #[.slice none 0 0] 27)
    simp only [World.size_alloc] at e
    rw [hw1]; exact e)
  have HBw : Hid (Below w.heap.size w w1) := (by rw [hw1]; exact ((Below.refl _ _).alloc (Nat.le_refl _) _).alloc (by simp) _)
  obtain ⟨w3, hw3⟩ : ∃ w3 : World, w3 = (w1.alloc (.cells #[.slice none 0 0] 27)).alloc (.cells #[.int .i64 0] 3) := ⟨_, rfl⟩
  have HST : Hid (RSt w1 w1.heap.size B0 [0] [] [] (.slice (some ⟨w1.heap.size + 1, 0, none⟩) 1 1) (.slice none 0 0) (.slice none 0 0) w3) := by
    rw [hw3]
    refine ⟨?_, (Blk.new w1 _).alloc _, MachOwn.nil _ _ _, ActsOwn.nil _ _ _, ((Below.refl _ w1).alloc (by omega) _).alloc (by simp <;> omega) _, by omega, by omega⟩
    have e := lit_own (w1.alloc (.cells #[.slice none 0 0] 27)) (.int .i64 0) 3 B0 (by simp <;> omega)
    simpa [ints] using e
  go_enter Try.func25, Try.ntmps25
  go_wp2
  rw [show w.heap.size + 1 + 1 = w1.heap.size by omega, ← hw1, ← hw3]
  have hsza : w.heap.size + 2 ≤ w1.heap.size := by omega
  have hszb : w1.heap.size ≤ w.heap.size + 2 := by omega
  clear hw1 hw3 hsz1
  have hszB3 := HST.out.below.size
  go_loopw [4, 5] (fun vs i wr => ∃ k : Nat, i = .int .i64 k ∧ k ≤ (machTo N rs k).2.length ∧ ∃ vr, RSt w1 w1.heap.size B0 (machTo N rs k).2 (machTo N rs k).1 [] vs (.slice none 0 0) vr wr)
    (fun _ i _ => 64 - (intOf i).toNat)
  case atStart => exact ⟨0, rfl, Nat.zero_le _, _, HST.out⟩
  case round =>
    obtain ⟨k, rfl, hk, vr, hst⟩ := hrel
    obtain ⟨m, l, HM⟩ : ∃ m l, Hid (machTo N rs k = (m, l)) := ⟨_, _, rfl⟩
    have HOK : Hid (SetsOk l) := (by
      have e := machTo_ok (n := N) (rs := rs) (by omega) k
      rw [HM.out] at e; exact e)
    have hll := HOK.out.len
    rw [HM.out] at hk hst
    have HST := Lib.hid hst
    have HML : Hid (m.length = k) := (by
      have e := machTo_len (n := N) (rs := rs) (k := k) (by rw [HM.out]; exact hk)
      rw [HM.out] at e; exact e)
    have hml : m.length ≤ 64 := by rw [HML.out]; simp only at hk; omega
    obtain ⟨As, cs, rfl⟩ := own_fits hst.num
    have hszB := hst.below.size
    have y0 := cell_chain hst.below (by omega) g0
    simp only at hk
    clear hst
    by_cases hlt : k < l.length
    · obtain ⟨s, hs⟩ : ∃ s, Hid (l[k]? = some s) := ⟨_, List.getElem?_eq_getElem hlt⟩
      have hsB := HOK.out.all s (List.mem_of_getElem? hs.out)
      go_wp2
      obtain ⟨wo, rfl⟩ : ∃ wo : World, wo = wr := ⟨_, rfl⟩
      go_loopw [4, 6, 7] (fun vs va i wr => ∃ q : Nat, i = .int .i64 q ∧ q ≤ N ∧ RSt w1 w1.heap.size B0 (actsTo rs s l q).2 m (actsTo rs s l q).1 vs va vr wr) (fun _ _ i _ => N - (intOf i).toNat)
      case atStart => exact ⟨0, rfl, Nat.zero_le _, HST.out⟩
      case round =>
        obtain ⟨q, rfl, hq, hst2⟩ := hrel
        obtain ⟨acts, l2, HA⟩ : ∃ acts l2, Hid (actsTo rs s l q = (acts, l2)) := ⟨_, _, rfl⟩
        rw [HA.out] at hst2
        have hst2 : RSt w1 w1.heap.size B0 l2 m acts u4 u6 vr wr := hst2
        have HST2 := Lib.hid hst2
        have hal : acts.length = q := by have e := actsTo_len rs s l q; rw [HA.out] at e; exact e
        have HOK2 : Hid (SetsOk l2) := (by
          have e := actsTo_ok HOK.out hsB (rs := rs) q (by omega)
          rw [HA.out] at e; exact e)
        have hl2 := HOK2.out.len
        have HS2 : Hid (l2[k]? = some s) := (by
          have e := actsTo_pre rs s l q
          rw [HA.out] at e
          obtain ⟨t, rfl⟩ := e
          show _ = _
          rw [List.getElem?_append_left hlt]; exact hs.out)
        have hk2 : k < l2.length := (List.getElem?_eq_some_iff.1 HS2.out).1
        obtain ⟨As2, cs2, rfl⟩ := own_fits hst2.num
        have hszB2 := hst2.below.size
        have z0 := cell_chain hst2.below (by omega) g0
        have z1 := cell_chain hst2.below (by omega) g1
        have hC2 := hA.below (HBw.out.trans (hst2.below.mono (B' := w.heap.size) (by omega))) (Nat.le_refl _)
        obtain ⟨As', cs', hv', hcs2⟩ := own_out hst2.num (by simp [ints]; omega)
        obtain ⟨rfl, rfl⟩ : As2 = As' ∧ cs2 = cs' := by injection hv' with h1 _ h3; exact ⟨h1, h3⟩
        obtain ⟨x, b, o, hx, hb, hix, hcx⟩ := ints_at (c := cs2) hcs2 Try.underlying22 szInt hk2
        obtain rfl : s = x := by rw [HS2.out] at hx; injection hx
        clear hst2 hx hv'
        by_cases hqt : q < N
        · go_wp2
          refine draw (fun w' => Below wr.heap.size wr w') 12 rfl (by kernel_rfl) (fun Qd hQd => ?_)
          have hbg : w.heap.size < wr.heap.size := by omega
          apply anyI_step 0 rfl (by kernel_rfl)
          focus (intro wI hI Kv hKv; have t0 := cell_chain hI hbg z0; have t1 := cell_chain hI hbg z1; have t3 := cell_chain hI hb hcx; go_simp; exact hKv)
          intro Kd hKd
          go_simp
          refine hKd _ ?_
          clear hKd Kd
          apply anyI_step 1 rfl (by kernel_rfl)
          focus (intro wI hI Kv hKv; have t0 := cell_chain hI hbg z0; have t1 := cell_chain hI hbg z1; have t3 := cell_chain hI hb hcx; go_simp; exact hKv)
          intro Kd hKd
          go_simp
          refine hKd _ ?_
          clear hKd Kd
          apply anyI_step 2 rfl (by kernel_rfl)
          focus (intro wI hI Kv hKv; have t0 := cell_chain hI hbg z0; have t1 := cell_chain hI hbg z1; have t3 := cell_chain hI hb hcx; go_simp; exact hKv)
          intro Kd hKd
          go_simp
          refine hKd _ ?_
          clear hKd Kd
          apply anyI_step 3 rfl (by kernel_rfl)
          focus (intro wI hI Kv hKv; have t0 := cell_chain hI hbg z0; have t1 := cell_chain hI hbg z1; have t3 := cell_chain hI hb hcx; go_simp; exact hKv)
          intro Kd hKd
          go_simp
          refine hKd _ ?_
          clear hKd Kd
          apply anyI_step 4 rfl (by kernel_rfl)
          focus (intro wI hI Kv hKv; have t0 := cell_chain hI hbg z0; have t1 := cell_chain hI hbg z1; have t3 := cell_chain hI hb hcx; go_simp; exact hKv)
          intro Kd hKd
          go_simp
          refine hKd _ ?_
          clear hKd Kd
          apply anyI_step 5 rfl (by kernel_rfl)
          focus (intro wI hI Kv hKv; have t0 := cell_chain hI hbg z0; have t1 := cell_chain hI hbg z1; have t3 := cell_chain hI hb hcx; go_simp; exact hKv)
          intro Kd hKd
          go_simp
          refine hKd _ ?_
          clear hKd Kd
          refine anyI_one' 6 rfl (by kernel_rfl) ((Below.refl _ _).drew) (fun Kd hKd => ?_)
          go_wp2_with (go_at_call 76; go_must (refine (moves_any N s q A c rs _ (by exact hC2.drew) (by omega) (by omega)).mono ?_); rintro e w4 ⟨A3, c3, rfl, hnew, hB4⟩)
          have hB4' : Below wr.heap.size wr w4 := (Below.refl _ wr).drew.trans hB4
          apply anyI_step 7 rfl (by kernel_rfl)
          focus (intro wI hI Kv hKv; go_simp; exact hKv)
          intro Kd hKd
          go_simp
          refine hKd _ ?_
          clear hKd Kd
          apply anyI_step 8 rfl (by kernel_rfl)
          focus (intro wI hI Kv hKv; go_simp; exact hKv)
          intro Kd hKd
          go_simp
          refine hKd _ ?_
          clear hKd Kd
          apply anyI_step 9 rfl (by kernel_rfl)
          focus (intro wI hI Kv hKv; go_simp; exact hKv)
          intro Kd hKd
          go_simp
          refine hKd _ ?_
          clear hKd Kd
          apply anyI_step 10 rfl (by kernel_rfl)
          focus (intro wI hI Kv hKv; go_simp; exact hKv)
          intro Kd hKd
          go_simp
          refine hKd _ ?_
          clear hKd Kd
          apply anyI_step 11 rfl (by kernel_rfl)
          focus (intro wI hI Kv hKv; go_simp; exact hKv)
          intro Kd hKd
          go_simp
          refine hKd _ ?_
          clear hKd Kd
          refine anyI_end (by kernel_rfl) (hB4') (hQd _ _ ?_)
          clear hQd Qd
          have hsz4 := hB4'.size
          have hnew : New w4 wr.heap.size A3 (ints (movesN rs s q)) := hnew
          have M4 := Lib.hid (HST2.out.later hB4')
          obtain ⟨nx, HN⟩ : ∃ nx, Hid (stepN rs s q = nx) := ⟨_, rfl⟩
          have hmn : movesN rs s q = nx := by rw [movesN_eq HRB.out hsB (by omega) (by omega)]; exact HN.out
          have hnl : nx.length ≤ 64 := by rw [← HN.out]; exact stepN_len
          rw [hmn] at hnew
          rw [hmn]
          clear hmn
          have HVL := Lib.hid HST2.out.num.lt
          clear hcx hix z0 z1 hB4 hcs2 hC2
          have HAW : Hid (ints nx ≠ [] → ∀ a, A3 = some a → ¬ (Value.slice As2 l2.length cs2).ownBlock = some a.block) := (by
            intro _ a ha e
            have h1 := hnew.2 a ha
            have h2 := (HVL.out _ e).2; omega)
          go_wp2
          obtain ⟨ri, HRI⟩ : ∃ ri, Hid (stepR rs s q = ri) := ⟨_, rfl⟩
          rw [HRI.out]
          go_loopw [4, 41] (fun vs i wr => ∃ j : Nat, i = .int .i64 j ∧ j ≤ nx.length ∧ ∃ vn, wr.ownsRow B0 3 1 vs (foldNum l2 (nx.take j)).2.length (ints (foldNum l2 (nx.take j)).2) ∧ Blk wr w4.heap.size (.cells #[.int .i64 ri, vn] 103) ∧
              wr.ownsRow (w4.heap.size + 1) 3 1 vn j (ints (foldNum l2 (nx.take j)).1) ∧ (∀ g, vs.ownBlock = some g → (Value.slice As2 l2.length cs2).ownBlock = some g ∨ w4.heap.size < g) ∧ (∀ g, vn.ownBlock = some g → vs.ownBlock ≠ some g) ∧
              Frame (fun b => (Value.slice As2 l2.length cs2).ownBlock = some b) w4 wr) (fun _ i _ => nx.length - (intOf i).toNat)
          case atStart =>
            refine ⟨0, rfl, Nat.zero_le _, .slice none 0 0, ?_, Blk.new _ _, World.ownsRow_nil _ _ _ _, fun g hg => .inl hg, fun g hg => (by cases hg), (Frame.refl _ _).alloc _⟩
            exact own_frame M4.out.num ((Frame.refl (fun _ => False) _).alloc _) (fun _ _ h => h)
          case round =>
            obtain ⟨j, rfl, hj, vn, hov, hbx, hon, hloc, hsep, hF⟩ := hrel
            obtain ⟨l3, HL3⟩ : ∃ l3, Hid ((foldNum l2 (nx.take j)).2 = l3) := ⟨_, rfl⟩
            obtain ⟨y3, HY3⟩ : ∃ y3, Hid ((foldNum l2 (nx.take j)).1 = y3) := ⟨_, rfl⟩
            have hl3 : l3.length ≤ 128 := by
              have e := foldNum_len l2 (nx.take j)
              rw [HL3.out, List.length_take] at e; omega
            rw [HL3.out] at hov
            rw [HY3.out] at hon
            have HLOC := Lib.hid hloc
            have HSEP := Lib.hid hsep
            obtain ⟨As3, cs3, rfl⟩ := own_fits hov
            obtain ⟨An, cn, rfl⟩ := own_fits hon
            have hszF := hF.size
            have hbxl := hbx.lt
            clear hloc hsep
            by_cases hjt : j < nx.length
            · obtain ⟨x, b2, o2, hx, hb2, hix2, hcx2⟩ := ints_at (c := c3) (hnew.1.frame hF HAW.out) Try.underlying22 szInt hjt
              have HT : Hid (nx.take (j + 1) = nx.take j ++ [x]) := take_succ_of hx
              clear hx
              go_wp2_with (first
                | (go_at_call 77; go_must (refine (Number_any B0 l3 As3 cs3 x wr hov (by omega) (by omega)).mono ?_); rintro e w5 ⟨v5, rfl, ho5, hloc5, hF5⟩; have hF5s := hF5.size; have bx5 := hbx.frame hF5 (fun e => own_ne hov hbx (by decide) e); have k1 := bx5.cell 1 (v := .slice An j cn) rfl; have hon5 := own_frame hon hF5 (fun g hg e => HSEP.out g hg e); have HLOC5 := Lib.hid hloc5; clear hloc5)
                | (at_builtin; go_must (refine wpList_app1' rInt _ rfl _ _ rfl hon5 rfl [_] 1 rfl rfl (by simp [Value.oneCell']) (by omega) (by omega) ?_); intro v6 w6 ho6 hB6 hg6 hloc6; obtain ⟨g7, cap7, rfl⟩ := ownsRow_succ ho6; have bx6 := bx5.grown hg6 (own_ne hon5 bx5 (by decide)); have k2 := bx6.cell 1 (v := .slice An j cn) rfl; have k3 := bx6.free 1))
              go_roundw
              case rel =>
                have hset : Frame (fun b => b = w4.heap.size) w6 (w6.setCell ⟨w4.heap.size, 1, none⟩ (.slice (some ⟨g7, 0, none⟩) (j + 1) cap7)) := (Frame.refl (fun b => b = w4.heap.size) w6).setCell (p := ⟨w4.heap.size, 1, none⟩) (.inl rfl) _
                have hFg := Frame.of_grown hg6
                have q1 : ∀ g, v5.ownBlock = some g → (Value.slice An j cn).ownBlock ≠ some g := by
                  intro g hg e
                  rcases HLOC5.out g hg with h1 | h1
                  · exact HSEP.out g e h1
                  · have := (hon.lt g e).2; omega
                have ho5' := own_frame (own_frame ho5 hFg q1) hset (fun g hg e => own_ne (own_frame ho5 hFg q1) bx6 (by decide) (by rw [hg, e]))
                have ho6' := own_frame ho6 hset (fun g hg e => own_ne ho6 bx6 (by decide) (by rw [hg, e]))
                refine ⟨j + 1, by go_num, by omega, .slice (some ⟨g7, 0, none⟩) (j + 1) cap7, ?_, bx6.set 1 _, ?_, ?_, ?_, ?_⟩
                · rw [HT.out, foldNum_snoc, HL3.out]; exact ho5'
                · rw [HT.out, foldNum_snoc, HL3.out, HY3.out]; simpa [ints] using ho6'
                · intro g hg
                  rcases HLOC5.out g hg with h1 | h1
                  · exact HLOC.out g h1
                  · exact .inr (by omega)
                · intro g hg e
                  rcases hloc6 g hg with h1 | h1
                  · exact q1 g e h1
                  · have := (ho5.lt g e).2; omega
                · refine ((hF.trans hF5 ?_).trans hFg ?_).trans hset ?_
                  · intro b3 hb3 e
                    rcases HLOC.out b3 e with h1 | h1
                    · exact h1
                    · omega
                  · intro b3 hb3 e
                    have := (hon.lt b3 e).1; omega
                  · intro b3 hb3 e; omega
              case measure => simp [intOf]; omega
            · obtain rfl : j = nx.length := by omega
              rw [List.take_length] at HL3 HY3
              have M5 := Lib.hid (M4.out.each (l' := l3) hF hov (fun g hg => (HLOC.out g hg).imp id (fun h => by omega)))
              have e0 := hbx.cell 0 (v := .int .i64 ri) rfl
              have e1 := hbx.cell 1 (v := .slice An nx.length cn) rfl
              have hyl : y3.length = nx.length := by rw [← HY3.out]; exact foldNum_len1 _ _
              have hn5 := own_new hon (by simp [ints, hyl]; omega)
              obtain ⟨An', cn', hv5, hn5⟩ := hn5
              obtain ⟨rfl, rfl⟩ : An = An' ∧ cn = cn' := by injection hv5 with h1 _ h3; exact ⟨h1, h3⟩
              obtain ⟨hs5, hl5, ho5, hc5⟩ := M5.out.acts
              have HC5 := Lib.hid hc5
              clear hc5 hv5
              go_wp2_with (at_builtin; go_must (refine wpList_app1' rAct _ rfl _ _ rfl ho5 rfl [_, _] 1 rfl rfl (by simp [Value.oneCell']) (by omega) (by omega) ?_); intro va6 w6 ho6 hB6 hg6 hloc6)
              go_roundw
              case rel =>
                have hCP : CellsP (fun b => ¬ mutS w1.heap.size w1.heap.size w1.heap.size B0 (.slice As3 l3.length cs3) u6 vr b) wr An (ints y3) := by
                  refine ⟨hn5.1, fun _ a ha hs => ?_⟩
                  have h1 := hn5.2 a ha
                  obtain ⟨_, _, ho1, _⟩ := M4.out.mach
                  obtain ⟨_, _, ho2, _⟩ := M4.out.acts
                  rcases hs with e | e | e | e | e | e | e
                  · omega
                  · omega
                  · omega
                  · omega
                  · exact HSEP.out a.block (by subst ha; rfl) e
                  · have := (ho2.lt _ e).2; omega
                  · have := (ho1.lt _ e).2; omega
                refine ⟨q + 1, by go_num, by omega, ?_⟩
                rw [actsTo, HA.out, HN.out, HRI.out, HL3.out, HY3.out]
                exact M5.out.act (a := ⟨ri, y3⟩) (B := An) (c := cn) hl5 ho5 HC5.out hCP (by unfold actCells; simp only [hyl]; exact ho6) hg6 hloc6
              case measure => simp [intOf]; omega
        · obtain rfl : q = N := by omega
          obtain ⟨hs5, hl5, ho5, hc5⟩ := HST2.out.mach
          obtain ⟨Ar, cr, rfl⟩ := own_fits ho5
          obtain ⟨hs6, hl6, ho6, hc6⟩ := HST2.out.acts
          obtain ⟨Aa, ca, rfl⟩ := own_fits ho6
          have e1 := HST2.out.mc.cell 0 (v := .slice Ar m.length cr) rfl
          have HC5 := Lib.hid hc5
          have hbm := HST2.out.mc.lt
          clear hc5 hc6
          go_wp2_with (at_builtin; go_must (refine wpList_app1' rRow _ rfl _ _ rfl ho5 rfl [_] 1 rfl rfl (by simp [Value.oneCell']) (by omega) (by omega) ?_); intro vr6 w6 ho7 hB6 hg6 hloc6; obtain ⟨g7, cap7, rfl⟩ := ownsRow_succ ho7; have b6 := HST2.out.mc.grown hg6 (own_ne ho5 HST2.out.mc (by decide)); have e2 := b6.cell 0 (v := .slice Ar m.length cr) rfl; have e3 := b6.free 0)
          go_roundw
          case rel =>
            have R := HST2.out.row hl5 ho5 HC5.out (by unfold rowCell; simp only [hal]; exact ho7) hg6 hloc6 (by omega)
            refine ⟨k + 1, by go_num, ?_, .slice (some ⟨g7, 0, none⟩) (m.length + 1) cap7, ?_⟩
            · rw [machTo_step (by rw [HM.out]; exact hs.out), HM.out, HA.out]
              simp only
              omega
            · rw [machTo_step (by rw [HM.out]; exact hs.out), HM.out, HA.out]
              exact R
          case measure => simp [intOf]; omega
    · have hkl : k = l.length := by omega
      have HMI : Hid (machI (N : Int) rs = m) := (by
        have e := machI_of (n := N) (rs := rs) (k := k) (by omega) (by rw [HM.out]; simp only; omega)
        rw [HM.out] at e; exact e)
      have r0 := HR.out.below HST.out.below (by omega)
      have r1 := r0.cell 0 (v := .slice none 0 0) rfl
      have r2 := r0.free 0
      obtain ⟨Ar, cr, rfl⟩ := own_fits HST.out.mach.choose_spec.2.1
      have e1 := HST.out.mc.cell 0 (v := .slice Ar m.length cr) rfl
      go_wp2
      refine bodyPost_ret (v := .agg #[.slice Ar m.length cr]) (results_c rfl rfl ?_) rfl ?_
      · have q := (r0.set1 (.slice Ar m.length cr)).cell 0 rfl
        go_simp
      · rw [HMI.out]
        have hF : Frame (fun b => b = w.heap.size + 1) wr (wr.setCell ⟨w.heap.size + 1, 0, none⟩ (.slice Ar m.length cr)) := (Frame.refl (fun b => b = w.heap.size + 1) wr).setCell (p := ⟨w.heap.size + 1, 0, none⟩) (.inl rfl) _
        obtain ⟨A', c', hv, hM⟩ := (HST.out.mach.move hF (fun b _ hn e => hn (.inl (by omega))) (fun _ _ h => h) (fun g hg e => by have := (HST.out.mach.choose_spec.2.1.lt g hg).1; omega)).out (by omega)
        obtain ⟨rfl, rfl⟩ : Ar = A' ∧ cr = c' := by injection hv with h1 _ h3; exact ⟨h1, h3⟩
        exact ⟨Ar, ⟨cr, rfl⟩, hM, HBw.out.trans ((HST.out.below.mono (by omega)).trans (hF.below (fun b e => by omega) (by omega)))⟩
end Go.Proofs.Ytlnonadkdonhmaa

/- Contracts: isState, next. -/
namespace Go.Proofs.Ytlnonadkdonhmaa
open Go.RowKit

def isStateA (n : Int) (rs : List Int) (m : Mach) (s : Int) : Bool := formedA n rs m && stateB m s

set_option maxRecDepth 100000 in
set_option maxHeartbeats 2000000 in
theorem isState_any (n : Int) (A : Option Addr) (c : Nat) (rs : List Int) (B : Option Addr) (d : Nat) (m : Mach) (s : Int) (w : World) (hA : Cells w A (ints rs)) (hM : MachAt w B m) :
    Calls Try.prog 79 #[.agg #[.int .i64 n, .slice A rs.length c], .agg #[.slice B m.length d], .int .i64 s] w fun e w' => e = .returned (.bool (isStateA n rs m s)) ∧ Below w.heap.size w w' := by
  have HB2 := Lib.hid (gbox_below w n A rs.length c B m.length d)
  have HA2 := Lib.hid (hA.below HB2.out (Nat.le_refl _))
  have HM2 := Lib.hid (hM.below HB2.out (Nat.le_refl _))
  by_cases hf : formedA n rs m = true
  · have HF : Hid (errI (formedA n rs m) = 0) := by show _ = _; rw [hf]; rfl
    have HI : Hid (isStateA n rs m s = (decide (0 ≤ s) && decide (s < m.length))) := by show _ = _; simp [isStateA, hf, stateB]
    rw [HI.out]
    clear hf
    by_cases h0 : 0 ≤ s
    · go_enter Try.func79, Try.ntmps79
      go_wp2_with (go_at_call 22; go_must (refine (Formed_any n A c rs B d m _ HA2.out HM2.out).mono ?_); rintro e w1 ⟨rfl, hB1⟩; rw [HF.out]; have g0 := cell_chain (b := w.heap.size + 1) (i := 0) (v := .slice B m.length d) hB1 (by simp <;> omega) (by go_simp))
      go_ret
      refine ⟨?_, HB2.out.trans (hB1.mono (by simp <;> omega))⟩
      simp [h0]
    · go_enter Try.func79, Try.ntmps79
      go_wp2_with (go_at_call 22; go_must (refine (Formed_any n A c rs B d m _ HA2.out HM2.out).mono ?_); rintro e w1 ⟨rfl, hB1⟩; rw [HF.out])
      go_ret
      refine ⟨?_, HB2.out.trans (hB1.mono (by simp <;> omega))⟩
      simp <;> omega
  · simp only [Bool.not_eq_true] at hf
    have HF : Hid (errI (formedA n rs m) = 2) := by show _ = _; rw [hf]; rfl
    have HI : Hid (isStateA n rs m s = false) := by show _ = _; simp [isStateA, hf]
    rw [HI.out]
    clear hf
    go_enter Try.func79, Try.ntmps79
    go_wp2_with (go_at_call 22; go_must (refine (Formed_any n A c rs B d m _ HA2.out HM2.out).mono ?_); rintro e w1 ⟨rfl, hB1⟩; rw [HF.out])
    go_ret
    exact ⟨rfl, HB2.out.trans (hB1.mono (by simp <;> omega))⟩

/-! ### next -/
def nextI (rs : List Int) (a : AAct) (x : Lt) : Int := if a.rule < 0 then a.next.getD 0 0 else a.next.getD (placeI (othersA (rs.getD a.rule.toNat 0) x.ch) x.keep).toNat 0

set_option maxRecDepth 100000 in
theorem or_join_all : ((List.range 6).all fun i => (List.range (2 ^ i)).all fun x => decide (bits BinOp.or .i64 (x : Int) (2 ^ i) = (x : Int) + 2 ^ i)) = true := by kernel_rfl
theorem or_join {i : Nat} {x : Int} (hi : i < 6) (h0 : 0 ≤ x) (h1 : x < 2 ^ i) : bits BinOp.or .i64 x (2 ^ i) = x + 2 ^ i := by
  obtain ⟨y, rfl⟩ := Int.eq_ofNat_of_zero_le h0
  have h := or_join_all
  rw [List.all_eq_true] at h
  have h2 := h i (List.mem_range.2 hi)
  rw [List.all_eq_true] at h2
  exact of_decide_eq_true (h2 y (List.mem_range.2 (by exact_mod_cast h1)))

theorem place_lt (os : List Int) (keep : Int) : ∀ k, 0 ≤ sumTo (placeF os keep) k ∧ sumTo (placeF os keep) k < 2 ^ k
  | 0 => by simp [sumTo]
  | k + 1 => by
    have h := place_lt os keep k
    have e : (2 : Int) ^ (k + 1) = 2 ^ k + 2 ^ k := by rw [Int.pow_succ]; omega
    have hp : (0 : Int) < 2 ^ k := Int.pow_pos (by decide)
    have hF : placeF os keep k = 0 ∨ placeF os keep k = 2 ^ k := by unfold placeF; split <;> simp
    rw [sumTo, e]
    rcases hF with hF | hF <;> rw [hF] <;> omega

theorem next_lt {rs : List Int} {c rule : Int} {a : AAct} {x : Lt} (hr : rule ≠ -1) (ha : a.next.length = manyA rs c rule) : (placeI (othersA (rs.getD rule.toNat 0) c) x.keep).toNat < a.next.length := by
  have h := place_lt (othersA (rs.getD rule.toNat 0) c) x.keep (othersA (rs.getD rule.toNat 0) c).length
  rw [ha, manyA, if_neg hr]
  have e : (sumTo (placeF (othersA (rs.getD rule.toNat 0) c) x.keep) (othersA (rs.getD rule.toNat 0) c).length).toNat < 2 ^ (othersA (rs.getD rule.toNat 0) c).length := by
    have h2 := h.2
    have h3 : (2 : Int) ^ (othersA (rs.getD rule.toNat 0) c).length = ((2 ^ (othersA (rs.getD rule.toNat 0) c).length : Nat) : Int) := by simp
    omega
  exact e

set_option maxRecDepth 100000 in
set_option maxHeartbeats 4000000 in
theorem next_any (n : Int) (A : Option Addr) (c : Nat) (rs : List Int) (D : Option Addr) (f len : Nat) (a : AAct) (x : Lt) (w : World) (hA : Cells w A (ints rs)) (hD : Cells w D (ints a.next)) (h0 : 0 ≤ x.ch) (h1 : x.ch ≤ 60) (ha : actOkA rs len x.ch a = true) :
    Calls Try.prog 81 #[.agg #[.int .i64 n, .slice A rs.length c], .agg #[.int .i64 a.rule, .slice D a.next.length f], .agg #[.int .i64 x.ch, .int .i64 x.keep]] w fun e w' => e = .returned (.int .i64 (nextI rs a x)) ∧ Below w.heap.size w w' := by
  simp only [actOkA, ruleOk, Bool.and_eq_true, Bool.or_eq_true, decide_eq_true_eq] at ha
  obtain ⟨⟨hrule, hlen⟩, _⟩ := ha
  by_cases hneg : a.rule = -1
  · have hl1 : 0 < a.next.length := by rw [hlen, manyA, if_pos hneg]; omega
    obtain ⟨y, b, o, hy, hb, hix, hc⟩ := ints_at (c := f) (k := 0) hD Try.underlying22 szInt hl1
    have HN : Hid (nextI rs a x = y) := by show _ = _; simp [nextI, hneg, List.getD, hy]
    rw [HN.out]
    rw [hneg]
    simp only [Int.natCast_zero] at hix
    clear hy hrule hlen hneg
    have hc2 : (((w.alloc (.cells #[.int .i64 n, .slice A rs.length c] 24)).alloc (.cells #[.int .i64 (-1), .slice D a.next.length f] 103)).alloc (.cells #[.int .i64 x.ch, .int .i64 x.keep] 118)).cell? ⟨b, o, none⟩ = some (.int .i64 y) :=
      cell_chain (((Below.refl w.heap.size w).alloc (Nat.le_refl _) _).alloc (by simp) _ |>.alloc (by simp <;> omega) _) hb hc
    go_enter Try.func81, Try.ntmps81
    go_wp2
    go_ret
    exact ⟨rfl, (((Below.refl _ _).alloc (Nat.le_refl _) _).alloc (by simp) _).alloc (by simp <;> omega) _⟩
  · obtain ⟨hr0, hr1⟩ := hrule.resolve_left hneg |>.1
    obtain ⟨r, hrr⟩ := Int.eq_ofNat_of_zero_le hr0
    have hrl : r < rs.length := by omega
    obtain ⟨rr, hx⟩ : ∃ rr, rs[r]? = some rr := ⟨_, List.getElem?_eq_getElem hrl⟩
    have hg : rs.getD a.rule.toNat 0 = rr := by rw [hrr, Int.toNat_natCast]; simp only [List.getD, hx, Option.getD_some]
    have hd : decide ((r : Int) < 0) = false := by simp <;> omega
    obtain ⟨os, HO⟩ : ∃ os, Hid (othersA rr x.ch = os) := ⟨_, rfl⟩
    have hol : os.length ≤ 6 := by rw [← HO.out]; exact othersA_len _ _
    have HOB : Hid (∀ x ∈ os, 0 ≤ x ∧ x < 6) := by rw [← HO.out]; exact fun x hx => othersA_bd hx
    obtain ⟨P, HP⟩ : ∃ P : Nat, Hid (placeI os x.keep = (P : Int)) := by
      have h := place_lt os x.keep os.length
      exact ⟨(placeI os x.keep).toNat, by show _ = _; rw [Int.toNat_of_nonneg]; exact h.1⟩
    have hPl : P < a.next.length := by
      have h := next_lt (x := x) (c := x.ch) hneg hlen
      rw [hg, HO.out, HP.out, Int.toNat_natCast] at h
      exact h
    obtain ⟨y, b, o, hy, hb, hix, hc⟩ := ints_at (c := f) hD Try.underlying22 szInt hPl
    have HN : Hid (nextI rs a x = y) := by
      show _ = _
      unfold nextI
      rw [if_neg (by omega), hg, HO.out, HP.out, Int.toNat_natCast]
      simp [List.getD, hy]
    rw [HN.out, hrr]
    clear hy hlen hrule hr0 hr1 hg
    have HX := Lib.hid hx
    have HW : Hid (Below w.heap.size w (((w.alloc (.cells #[.int .i64 n, .slice A rs.length c] 24)).alloc (.cells #[.int .i64 (r : Int), .slice D a.next.length f] 103)).alloc (.cells #[.int .i64 x.ch, .int .i64 x.keep] 118))) :=
      (((Below.refl _ _).alloc (Nat.le_refl _) _).alloc (by simp) _).alloc (by simp <;> omega) _
    have HA2 := Lib.hid (hA.below HW.out (Nat.le_refl _))
    clear hx
    go_enter Try.func81, Try.ntmps81
    go_wp2_with (go_at_call 115; go_must (refine (others_any n r x.ch A c rs rr _ HA2.out HX.out h0 h1).mono ?_); rintro e w1 ⟨A1, c1, rfl, hnew, hB1⟩; rw [HO.out] at hnew; rw [HO.out])
    have hsz1 := hB1.size
    have k0 := cell_chain (b := w.heap.size + 1) (i := 1) (v := .slice D a.next.length f) hB1 (by simp <;> omega) (by go_simp)
    have k1 := cell_chain (b := w.heap.size + 1 + 1) (i := 1) (v := .int .i64 x.keep) hB1 (by simp <;> omega) (by go_simp)
    have hc1 := cell_chain (HW.out.trans (hB1.mono (B' := w.heap.size) (by simp <;> omega))) hb hc
    go_loop [7, 24] (fun v i => ∃ k : Nat, k ≤ os.length ∧ i = .int .i64 k ∧ v = .int .i64 (sumTo (placeF os x.keep) k)) (fun _ i => os.length - (intOf i).toNat)
    case atStart => exact ⟨0, Nat.zero_le _, rfl, rfl⟩
    case round =>
      obtain ⟨k, hk, rfl, rfl⟩ := hrel
      by_cases hlt : k < os.length
      · obtain ⟨y2, b2, o2, hy2, hb2, hix2, hcy2⟩ := ints_at (c := c1) hnew.1 Try.underlying22 szInt hlt
        have hyb := HOB.out y2 (List.mem_of_getElem? hy2)
        have hpx := p2_wrap (n := (k : Int)) (by omega) (by omega)
        have hpl := place_lt os x.keep k
        have HP2 : Hid (placeF os x.keep k = if inI x.keep y2 then 2 ^ k else 0) := by show _ = _; unfold placeF; simp [List.getD, hy2]
        have HJ : Hid (bits BinOp.or .i64 (sumTo (placeF os x.keep) k) (2 ^ k) = sumTo (placeF os x.keep) k + 2 ^ k) := or_join (by omega) hpl.1 hpl.2
        obtain ⟨hyb0, hyb1⟩ := hyb
        have HPL := Lib.hid hpl
        clear hy2 hpl
        by_cases h : inI x.keep y2 = true
        · have H := Lib.hid h
          clear h
          go_wp2_with (go_at_call 107; go_must (refine (in_any x.keep y2 _ (by omega) (by omega)).mono ?_); rintro e w2 ⟨rfl, rfl⟩; rw [H.out])
          have HPX : Hid (wrap64 (2 ^ k) = 2 ^ k) := (by show _ = _; simpa using hpx)
          clear hpx
          go_round
          case rel => exact ⟨k + 1, by omega, by go_num, by rw [HPX.out, HJ.out, sumTo, HP2.out, if_pos H.out]⟩
          case measure => simp [intOf]; omega
        · simp only [Bool.not_eq_true] at h
          have H := Lib.hid h
          clear h
          go_wp2_with (go_at_call 107; go_must (refine (in_any x.keep y2 _ (by omega) (by omega)).mono ?_); rintro e w2 ⟨rfl, rfl⟩; rw [H.out])
          clear hpx
          go_round
          case rel => exact ⟨k + 1, by omega, by go_num, by rw [sumTo, HP2.out, if_neg (by rw [H.out]; simp)]; simp⟩
          case measure => simp [intOf]; omega
      · obtain rfl : k = os.length := by omega
        rw [show sumTo (placeF os x.keep) os.length = (P : Int) from HP.out]
        go_wp2
        go_ret
        exact ⟨rfl, HW.out.trans (hB1.mono (by simp <;> omega))⟩
end Go.Proofs.Ytlnonadkdonhmaa

/- Contract: Go of the program. -/
namespace Go.Proofs.Ytlnonadkdonhmaa
open Go.RowKit

theorem results_ttt {P : Program} {fn : Func} {tmps : Array Value} {w : World} {a b c : Tmp} {x y z : Value} (h : fn.results = #[.tmp a, .tmp b, .tmp c]) (ha : tmps.getD a undef = x) (hb : tmps.getD b undef = y) (hc : tmps.getD c undef = z) :
    (results fn tmps).run P w = .ok (.tuple #[x, y, z]) w := by
  simp only [Array.getD_eq_getD_getElem?] at ha hb hc
  simp [results, h, ha, hb, hc]

def actAt (m : Mach) (s ch : Int) : AAct := (m.getD s.toNat []).getD ch.toNat ⟨0, []⟩
/-- The rules along the first k letters, and the state behind. -/
def goTo (rs : List Int) (m : Mach) (s : Int) (word : List Lt) : Nat → List Int × Int
  | 0 => ([], s)
  | k + 1 => let x := word.getD k ⟨0, 0⟩; let p := goTo rs m s word k; (p.1 ++ [(actAt m p.2 x.ch).rule], nextI rs (actAt m p.2 x.ch) x)
def goA (n : Int) (rs : List Int) (m : Mach) (s : Int) (word : List Lt) : List Int × Int × Int :=
  if isStateA n rs m s && wordB n word then ((goTo rs m s word word.length).1, (goTo rs m s word word.length).2, 0) else ([], 0, 2)

theorem goTo_len (rs : List Int) (m : Mach) (s : Int) (word : List Lt) : ∀ k, (goTo rs m s word k).1.length = k
  | 0 => rfl
  | k + 1 => by simp [goTo, goTo_len rs m s word k]

/-- The act of a state for a channel, of a machine that is as defined. -/
theorem actAt_ok {n : Int} {rs : List Int} {m : Mach} {s ch : Int} (hf : formedA n rs m = true) (hs : stateB m s = true) (h0 : 0 ≤ ch) (h1 : ch < n) :
    ∃ acts, m[s.toNat]? = some acts ∧ (acts.length : Int) = n ∧ acts[ch.toNat]? = some (actAt m s ch) ∧ actOkA rs m.length ch (actAt m s ch) = true := by
  simp only [stateB, Bool.and_eq_true, decide_eq_true_eq] at hs
  simp only [formedA, Bool.and_eq_true, decide_eq_true_eq] at hf
  have hlt : s.toNat < m.length := by omega
  have hx : m[s.toNat]? = some m[s.toNat] := List.getElem?_eq_getElem hlt
  have hrow := List.all_eq_true.1 hf.2 _ (List.mem_of_getElem? hx)
  simp only [rowOkA, Bool.and_eq_true, decide_eq_true_eq] at hrow
  have hc : ch.toNat < (m[s.toNat]).length := by omega
  have hy : (m[s.toNat])[ch.toNat]? = some (m[s.toNat])[ch.toNat] := List.getElem?_eq_getElem hc
  have e : actAt m s ch = (m[s.toNat])[ch.toNat] := by
    unfold actAt
    simp only [List.getD, hx, Option.getD_some, hy]
  have hok := allTo_at hrow.2 hy hc
  rw [← e] at hy hok
  rw [show ((ch.toNat : Nat) : Int) = ch by omega] at hok
  exact ⟨_, hx, hrow.1, hy, hok⟩

theorem nextI_ok {rs : List Int} {len : Nat} {a : AAct} {x : Lt} (ha : actOkA rs len x.ch a = true) : 0 ≤ nextI rs a x ∧ nextI rs a x < len := by
  have ha' := ha
  simp only [actOkA, ruleOk, Bool.and_eq_true, Bool.or_eq_true, decide_eq_true_eq] at ha
  obtain ⟨⟨hrule, hlen⟩, hall⟩ := ha
  have key : ∀ k, k < a.next.length → 0 ≤ a.next.getD k 0 ∧ a.next.getD k 0 < len := by
    intro k hk
    have hx : a.next[k]? = some a.next[k] := List.getElem?_eq_getElem hk
    have h := List.all_eq_true.1 hall _ (List.mem_of_getElem? hx)
    simp only [nextOk, Bool.and_eq_true, decide_eq_true_eq] at h
    simp only [List.getD, hx, Option.getD_some]
    exact h
  unfold nextI
  split
  · rename_i hneg
    have h1 : a.rule = -1 := by
      rcases hrule with h | h
      · exact h
      · have := h.1.1; omega
    exact key 0 (by rw [hlen, manyA, if_pos h1]; omega)
  · rename_i hneg
    exact key _ (next_lt (by omega) hlen)

theorem goTo_ok {n : Int} {rs : List Int} {m : Mach} {s : Int} {word : List Lt} (hf : formedA n rs m = true) (hs : stateB m s = true) (hw : word.all (letterB n) = true) : ∀ k, k ≤ word.length → stateB m (goTo rs m s word k).2 = true
  | 0, _ => hs
  | k + 1, hk => by
    have hx : word[k]? = some word[k] := List.getElem?_eq_getElem (by omega)
    have hl := List.all_eq_true.1 hw _ (List.mem_of_getElem? hx)
    simp only [letterB, Bool.and_eq_true, decide_eq_true_eq] at hl
    obtain ⟨acts, _, _, _, hok⟩ := actAt_ok hf (goTo_ok hf hs hw k (by omega)) hl.1.1 hl.1.2
    have hn := nextI_ok (x := word[k]) hok
    unfold goTo
    simp only [List.getD, hx, Option.getD_some, stateB, Bool.and_eq_true, decide_eq_true_eq]
    exact hn

set_option maxRecDepth 100000 in
set_option maxHeartbeats 4000000 in
theorem Go_no (n : Int) (A : Option Addr) (c : Nat) (rs : List Int) (B : Option Addr) (d : Nat) (m : Mach) (s : Int) (D : Option Addr) (f : Nat) (word : List Lt) (w : World) (hA : Cells w A (ints rs)) (hM : MachAt w B m) (_hD : Cells w D (lts word))
    (h : isStateA n rs m s = false ∨ 60 < word.length) :
    Calls Try.prog 27 #[.agg #[.int .i64 n, .slice A rs.length c], .agg #[.slice B m.length d], .int .i64 s, .slice D word.length f] w fun e w' => e = .returned (.tuple #[.slice none 0 0, .int .i64 0, .int .i64 2]) ∧ Below w.heap.size w w' := by
  have HB2 := Lib.hid (gbox_below w n A rs.length c B m.length d)
  have HA2 := Lib.hid (hA.below HB2.out (Nat.le_refl _))
  have HM2 := Lib.hid (hM.below HB2.out (Nat.le_refl _))
  by_cases hi : isStateA n rs m s = true
  · have hw : 60 < word.length := by
      rcases h with h | h
      · rw [hi] at h; cases h
      · exact h
    have HI := Lib.hid hi
    have hd : decide ((60 : Int) < (word.length : Int)) = true := by simp <;> omega
    clear hi h
    go_enter Try.func27, Try.ntmps27
    go_wp2_with (go_at_call 79; go_must (refine (isState_any n A c rs B d m s _ HA2.out HM2.out).mono ?_); rintro e w1 ⟨rfl, hB1⟩; rw [HI.out])
    refine bodyPost_ret (v := .tuple #[.slice none 0 0, .int .i64 0, .int .i64 2]) (results_ttt rfl rfl rfl rfl) rfl ⟨rfl, HB2.out.trans (hB1.mono (by simp <;> omega))⟩
  · simp only [Bool.not_eq_true] at hi
    have HI := Lib.hid hi
    clear hi h
    go_enter Try.func27, Try.ntmps27
    go_wp2_with (go_at_call 79; go_must (refine (isState_any n A c rs B d m s _ HA2.out HM2.out).mono ?_); rintro e w1 ⟨rfl, hB1⟩; rw [HI.out])
    refine bodyPost_ret (v := .tuple #[.slice none 0 0, .int .i64 0, .int .i64 2]) (results_ttt rfl rfl rfl rfl) rfl ⟨rfl, HB2.out.trans (hB1.mono (by simp <;> omega))⟩
end Go.Proofs.Ytlnonadkdonhmaa

/- Contract: Go of the program, the walk. -/
namespace Go.Proofs.Ytlnonadkdonhmaa
open Go.RowKit

set_option maxRecDepth 100000 in
set_option maxHeartbeats 8000000 in
theorem Go_yes (n : Int) (A : Option Addr) (c : Nat) (rs : List Int) (B : Option Addr) (d : Nat) (m : Mach) (s : Int) (D : Option Addr) (f : Nat) (word : List Lt) (w : World) (hA : Cells w A (ints rs)) (hM : MachAt w B m) (hD : Cells w D (lts word))
    (hi : isStateA n rs m s = true) (hl : word.length ≤ 60) :
    Calls Try.prog 27 #[.agg #[.int .i64 n, .slice A rs.length c], .agg #[.slice B m.length d], .int .i64 s, .slice D word.length f] w fun e w' => ∃ A' c', e = .returned (.tuple #[.slice A' (goA n rs m s word).1.length c', .int .i64 (goA n rs m s word).2.1, .int .i64 (goA n rs m s word).2.2]) ∧ Cells w' A' (ints (goA n rs m s word).1) ∧ Below w.heap.size w w' := by
  have HB2 := Lib.hid (gbox_below w n A rs.length c B m.length d)
  have HA2 := Lib.hid (hA.below HB2.out (Nat.le_refl _))
  have HM2 := Lib.hid (hM.below HB2.out (Nat.le_refl _))
  have HD2 := Lib.hid (hD.below HB2.out (Nat.le_refl _))
  have hform : Hid (formedA n rs m = true) ∧ Hid (stateB m s = true) := by
    simp only [isStateA, Bool.and_eq_true] at hi
    exact ⟨hi.1, hi.2⟩
  obtain ⟨HF, HS⟩ := hform
  obtain ⟨hn1, hn6⟩ : 1 ≤ n ∧ n ≤ 6 := by
    have h := HF.out
    simp only [formedA, Bool.and_eq_true] at h
    obtain ⟨h1, h2, _⟩ := grpOk_true h.1.1.1
    exact ⟨h1, h2⟩
  have HI := Lib.hid hi
  have hd : decide ((60 : Int) < (word.length : Int)) = false := by simp <;> omega
  clear hi
  have hgs := gbox_size w n A rs.length c B m.length d
  go_enter Try.func27, Try.ntmps27
  go_wp2_with (go_at_call 79; go_must (refine (isState_any n A c rs B d m s _ HA2.out HM2.out).mono ?_); rintro e w1 ⟨rfl, hB1⟩; rw [HI.out])
  have hB1' : Below (w.heap.size + 2) (gbox w n A rs.length c B m.length d) w1 := hB1.mono (by rw [hgs]; exact Nat.le_refl _)
  clear hgs hB1
  go_loopw [29] (fun i wr => ∃ k : Nat, k ≤ word.length ∧ i = .int .i64 k ∧ (word.take k).all (letterB n) = true ∧ Below (w.heap.size + 2) (gbox w n A rs.length c B m.length d) wr) (fun i _ => word.length - (intOf i).toNat)
  case atStart => exact ⟨0, Nat.zero_le _, rfl, rfl, hB1'⟩
  case round =>
    obtain ⟨k, hk, rfl, hall, hB⟩ := hrel
    have Hall := Lib.hid hall
    have g0 := cell_chain (b := w.heap.size) (i := 0) (v := .int .i64 n) hB (by omega) (by go_simp)
    have g1 := cell_chain (b := w.heap.size) (i := 1) (v := .slice A rs.length c) hB (by omega) (by go_simp)
    have hszr : w.heap.size + 2 ≤ wr.heap.size := by have h := hB.size; rw [gbox_size] at h; exact h
    have hz0 : w.heap.size < wr.heap.size := by omega
    have hz1 : w.heap.size + 1 < wr.heap.size := by omega
    clear hall
    by_cases hlt : k < word.length
    · obtain ⟨x, b, o, hx, hb, hix, hc⟩ := flat_at (c := f) (HD2.out.below hB (by rw [gbox_size]; exact Nat.le_refl _)) ltCells_len Try.underlying38 rLt.size_eq (by decide) hlt
      obtain ⟨x0, x1⟩ := x
      have c0 := hc 0 _ rfl
      have c1 := hc 1 _ rfl
      rw [Nat.add_zero] at c0
      have HX := Lib.hid hx
      clear hx hc
      by_cases h : letterB n ⟨x0, x1⟩ = true
      · have H := Lib.hid h
        simp only [letterB, Bool.and_eq_true, decide_eq_true_eq] at h
        have HSET := Lib.hid h.2
        have hx0 := h.1.1
        have hx1 := h.1.2
        have e0 : decide (x0 < 0) = false := by simp <;> omega
        have e1 : decide (n ≤ x0) = false := by simp <;> omega
        clear h
        go_wp2_with (go_at_call 80; go_must (refine (isSet_any n x1 A rs.length c _ (by omega) (by omega)).mono ?_); rintro e w2 ⟨rfl, hB2⟩; rw [HSET.out])
        go_roundw
        case rel => exact ⟨k + 1, by omega, by go_num, all_step Hall.out HX.out H.out, (hB.alloc (by omega) _).trans (hB2.mono (by simp <;> omega))⟩
        case measure => simp [intOf]; omega
      · simp only [Bool.not_eq_true] at h
        have HG : Hid (goA n rs m s word = ([], 0, 2)) := by
          show _ = _
          unfold goA wordB
          rw [all_no HX.out h]
          simp
        by_cases h0 : 0 ≤ x0
        · by_cases h2 : x0 < n
          · have hset : setI n x1 = false := by simpa [letterB, h0, h2] using h
            have HSET := Lib.hid hset
            have e0 : decide (x0 < 0) = false := by simp <;> omega
            have e1 : decide (n ≤ x0) = false := by simp <;> omega
            clear h hset
            go_wp2_with (go_at_call 80; go_must (refine (isSet_any n x1 A rs.length c _ (by omega) (by omega)).mono ?_); rintro e w2 ⟨rfl, hB2⟩; rw [HSET.out])
            refine bodyPost_ret (v := .tuple #[.slice none 0 0, .int .i64 0, .int .i64 2]) (results_ttt rfl rfl rfl rfl) rfl (by rw [HG.out]; exact ⟨none, 0, rfl, Cells.nil _ _, HB2.out.trans (((hB.mono (by omega)).alloc (by omega) _).trans (hB2.mono (by simp <;> omega)))⟩)
          · have e0 : decide (x0 < 0) = false := by simp <;> omega
            have e1 : decide (n ≤ x0) = true := by simp <;> omega
            clear h
            go_wp2
            refine bodyPost_ret (v := .tuple #[.slice none 0 0, .int .i64 0, .int .i64 2]) (results_ttt rfl rfl rfl rfl) rfl (by rw [HG.out]; exact ⟨none, ⟨0, rfl⟩, Cells.nil _ _, HB2.out.trans ((hB.mono (by omega)).alloc (by omega) _)⟩)
        · have e0 : decide (x0 < 0) = true := by simp <;> omega
          clear h
          go_wp2
          refine bodyPost_ret (v := .tuple #[.slice none 0 0, .int .i64 0, .int .i64 2]) (results_ttt rfl rfl rfl rfl) rfl (by rw [HG.out]; exact ⟨none, ⟨0, rfl⟩, Cells.nil _ _, HB2.out.trans ((hB.mono (by omega)).alloc (by omega) _)⟩)
    · obtain rfl : k = word.length := by omega
      have HW : Hid (word.all (letterB n) = true) := all_done Hall.out
      have HG : Hid (goA n rs m s word = ((goTo rs m s word word.length).1, (goTo rs m s word word.length).2, 0)) := by
        show _ = _
        unfold goA wordB
        rw [HW.out, HI.out]
        simp [hl]
      clear g0 g1
      obtain ⟨wo, rfl⟩ : ∃ wo : World, wo = wr := ⟨_, rfl⟩
      go_wp2
      go_loopw [2, 13, 53] (fun st v i wr => ∃ k : Nat, k ≤ word.length ∧ i = .int .i64 k ∧ st = .int .i64 (goTo rs m s word k).2 ∧ wr.ownsRow (w.heap.size + 2) 3 1 v k (ints (goTo rs m s word k).1) ∧ Below (w.heap.size + 2) (gbox w n A rs.length c B m.length d) wr) (fun _ _ i _ => word.length - (intOf i).toNat)
      case atStart => exact ⟨0, Nat.zero_le _, rfl, rfl, World.ownsRow_nil _ _ _ _, hB⟩
      case round =>
        obtain ⟨k, hk, rfl, rfl, hown, hB⟩ := hrel
        have g0 := cell_chain (b := w.heap.size) (i := 0) (v := .int .i64 n) hB (by omega) (by go_simp)
        have g1 := cell_chain (b := w.heap.size) (i := 1) (v := .slice A rs.length c) hB (by omega) (by go_simp)
        have g2 := cell_chain (b := w.heap.size + 1) (i := 0) (v := .slice B m.length d) hB (by omega) (by go_simp)
        have hszr : w.heap.size + 2 ≤ wr.heap.size := by have h := hB.size; rw [gbox_size] at h; exact h
        have hz0 : w.heap.size < wr.heap.size := by omega
        have hz1 : w.heap.size + 1 < wr.heap.size := by omega
        by_cases hlt : k < word.length
        · obtain ⟨x, b, o, hx, hb, hix, hc⟩ := flat_at (c := f) (HD2.out.below hB (by rw [gbox_size]; exact Nat.le_refl _)) ltCells_len Try.underlying38 rLt.size_eq (by decide) hlt
          obtain ⟨x0, x1⟩ := x
          have c0 := hc 0 _ rfl
          have c1 := hc 1 _ rfl
          rw [Nat.add_zero] at c0
          have HX := Lib.hid hx
          have hlx := List.all_eq_true.1 HW.out _ (List.mem_of_getElem? hx)
          simp only [letterB, Bool.and_eq_true, decide_eq_true_eq] at hlx
          obtain ⟨⟨hx0, hx1⟩, _⟩ := hlx
          have hst := goTo_ok HF.out HS.out HW.out k hk
          obtain ⟨acts, hacts, hal, hact, hok⟩ := actAt_ok HF.out hst hx0 hx1
          obtain ⟨st, HST⟩ : ∃ st, Hid ((goTo rs m s word k).2 = st) := ⟨_, rfl⟩
          obtain ⟨ru, HRU⟩ : ∃ ru, Hid ((goTo rs m s word k).1 = ru) := ⟨_, rfl⟩
          rw [HST.out] at hst hacts hact hok ⊢
          rw [HRU.out] at hown
          have hrl : ru.length = k := by rw [← HRU.out]; exact goTo_len _ _ _ _ _
          simp only [stateB, Bool.and_eq_true, decide_eq_true_eq] at hst
          obtain ⟨sn, rfl⟩ := Int.eq_ofNat_of_zero_le hst.1
          obtain ⟨xn, rfl⟩ := Int.eq_ofNat_of_zero_le hx0
          rw [Int.toNat_natCast] at hacts hact
          obtain ⟨r1, E1, f1, b1, o1, hr1, hb1, hix1, hc1, ha1⟩ := mach_at (c := d) HM2.out (k := sn) (by omega)
          obtain rfl : acts = r1 := by rw [hacts] at hr1; injection hr1
          obtain ⟨a, E2, f2, b2, o2, hy, hb2, hix2, hy0, hy1, hnx⟩ := acts_at (c := f1) ha1 (k := xn) (by omega)
          rw [gbox_size] at hb1 hb2
          have hc1 := cell_chain hB hb1 hc1
          have hy0 := cell_chain hB hb2 hy0
          have hy1 := cell_chain hB hb2 hy1
          have HAC : Hid (actAt m sn xn = a) := (by rw [hact] at hy; injection hy)
          rw [HAC.out] at hok
          have HOK := Lib.hid hok
          clear hx hacts hact hok hr1 hy hst
          go_wp2
          refine draw (fun w' => Below (wr.heap.size + 1) (wr.alloc (.cells #[.int .i64 (xn : Int), .int .i64 x1] 118)) w') 11 rfl (by kernel_rfl) (fun Qd hQd => ?_)
          have hBl : Below wr.heap.size wr (wr.alloc (.cells #[.int .i64 (xn : Int), .int .i64 x1] 118)) := (Below.refl _ _).alloc (Nat.le_refl _) _
          have p0 := cell_chain hBl hz1 g2
          have p1 := box_cell wr #[.int .i64 (xn : Int), .int .i64 x1] 118 0 rfl
          have p2 := cell_chain hBl (by omega) hc1
          have p3 := cell_chain hBl (by omega) hy0
          have p4 := cell_chain hBl (by omega) hy1
          have i1 : b1 < wr.heap.size + 1 := by omega
          have i2 : b2 < wr.heap.size + 1 := by omega
          have i3 : w.heap.size + 1 < wr.heap.size + 1 := by omega
          apply anyI_step 0 rfl (by kernel_rfl)
          focus (intro wI hI Kv hKv; have q0 := cell_chain hI i3 p0; have q1 := cell_chain hI (Nat.lt_succ_self _) p1; have q2 := cell_chain hI i1 p2; have q3 := cell_chain hI i2 p3; have q4 := cell_chain hI i2 p4; go_simp; exact hKv)
          intro Kd hKd
          go_simp
          refine hKd _ ?_
          clear hKd Kd
          apply anyI_step 1 rfl (by kernel_rfl)
          focus (intro wI hI Kv hKv; have q0 := cell_chain hI i3 p0; have q1 := cell_chain hI (Nat.lt_succ_self _) p1; have q2 := cell_chain hI i1 p2; have q3 := cell_chain hI i2 p3; have q4 := cell_chain hI i2 p4; go_simp; exact hKv)
          intro Kd hKd
          go_simp
          refine hKd _ ?_
          clear hKd Kd
          apply anyI_step 2 rfl (by kernel_rfl)
          focus (intro wI hI Kv hKv; have q0 := cell_chain hI i3 p0; have q1 := cell_chain hI (Nat.lt_succ_self _) p1; have q2 := cell_chain hI i1 p2; have q3 := cell_chain hI i2 p3; have q4 := cell_chain hI i2 p4; go_simp; exact hKv)
          intro Kd hKd
          go_simp
          refine hKd _ ?_
          clear hKd Kd
          apply anyI_step 3 rfl (by kernel_rfl)
          focus (intro wI hI Kv hKv; have q0 := cell_chain hI i3 p0; have q1 := cell_chain hI (Nat.lt_succ_self _) p1; have q2 := cell_chain hI i1 p2; have q3 := cell_chain hI i2 p3; have q4 := cell_chain hI i2 p4; go_simp; exact hKv)
          intro Kd hKd
          go_simp
          refine hKd _ ?_
          clear hKd Kd
          apply anyI_step 4 rfl (by kernel_rfl)
          focus (intro wI hI Kv hKv; have q0 := cell_chain hI i3 p0; have q1 := cell_chain hI (Nat.lt_succ_self _) p1; have q2 := cell_chain hI i1 p2; have q3 := cell_chain hI i2 p3; have q4 := cell_chain hI i2 p4; go_simp; exact hKv)
          intro Kd hKd
          go_simp
          refine hKd _ ?_
          clear hKd Kd
          apply anyI_step 5 rfl (by kernel_rfl)
          focus (intro wI hI Kv hKv; have q0 := cell_chain hI i3 p0; have q1 := cell_chain hI (Nat.lt_succ_self _) p1; have q2 := cell_chain hI i1 p2; have q3 := cell_chain hI i2 p3; have q4 := cell_chain hI i2 p4; go_simp; exact hKv)
          intro Kd hKd
          go_simp
          refine hKd _ ?_
          clear hKd Kd
          apply anyI_step 6 rfl (by kernel_rfl)
          focus (intro wI hI Kv hKv; have q0 := cell_chain hI i3 p0; have q1 := cell_chain hI (Nat.lt_succ_self _) p1; have q2 := cell_chain hI i1 p2; have q3 := cell_chain hI i2 p3; have q4 := cell_chain hI i2 p4; go_simp; exact hKv)
          intro Kd hKd
          go_simp
          refine hKd _ ?_
          clear hKd Kd
          apply anyI_step 7 rfl (by kernel_rfl)
          focus (intro wI hI Kv hKv; have q0 := cell_chain hI i3 p0; have q1 := cell_chain hI (Nat.lt_succ_self _) p1; have q2 := cell_chain hI i1 p2; have q3 := cell_chain hI i2 p3; have q4 := cell_chain hI i2 p4; go_simp; exact hKv)
          intro Kd hKd
          go_simp
          refine hKd _ ?_
          clear hKd Kd
          apply anyI_step 8 rfl (by kernel_rfl)
          focus (intro wI hI Kv hKv; have q0 := cell_chain hI i3 p0; have q1 := cell_chain hI (Nat.lt_succ_self _) p1; have q2 := cell_chain hI i1 p2; have q3 := cell_chain hI i2 p3; have q4 := cell_chain hI i2 p4; go_simp; exact hKv)
          intro Kd hKd
          go_simp
          refine hKd _ ?_
          clear hKd Kd
          refine anyI_one' 9 rfl (by kernel_rfl) ((Below.refl _ _).drew) (fun Kd hKd => ?_)
          go_wp2
          refine anyI_one' 10 rfl (by kernel_rfl) (((Below.refl _ _).alloc (by simp) _).drew) (fun Kd hKd => ?_)
          go_wp2
          refine anyI_end (by kernel_rfl) (((Below.refl _ _).alloc (by simp) _).drew) (hQd _ _ ?_)
          clear hQd Qd
          obtain ⟨W2, hW2⟩ : ∃ W2 : World, W2 = ((wr.alloc (.cells #[.int .i64 (xn : Int), .int .i64 x1] 118)).alloc (.cells #[.int .i64 a.rule, .slice E2 a.next.length f2] 103)).drew := ⟨_, rfl⟩
          have hBW : Below (w.heap.size + 2) (gbox w n A rs.length c B m.length d) W2 := by rw [hW2]; exact ((hB.alloc (by omega) _).alloc (by simp <;> omega) _).drew
          have hownW : W2.ownsRow (w.heap.size + 2) 3 1 u13 k (ints ru) := by rw [hW2]; exact (hown.alloc _).alloc _
          have bl : Blk W2 wr.heap.size (.cells #[.int .i64 (xn : Int), .int .i64 x1] 118) := by rw [hW2]; exact (Blk.new wr _).alloc _
          have ba : Blk W2 (wr.heap.size + 1) (.cells #[.int .i64 a.rule, .slice E2 a.next.length f2] 103) := by
            have e := Blk.new (wr.alloc (.cells #[.int .i64 (xn : Int), .int .i64 x1] 118)) (.cells #[.int .i64 a.rule, .slice E2 a.next.length f2] 103)
            simp only [World.size_alloc] at e
            rw [hW2]; exact e
          have hszW : W2.heap.size = wr.heap.size + 2 := by rw [hW2]; simp [World.drew]
          have j0 := ba.cell 0 (v := .int .i64 a.rule) rfl
          have hszw : wr.heap.size + 2 ≤ W2.heap.size := by omega
          have j1 : wr.heap.size + 1 < W2.heap.size := by omega
          rw [← hW2]
          clear hW2 hszW p0 p1 p2 p3 p4 g0 g1 g2 hc1 hy0 hy1 hix hix1 hix2
          have HOW := Lib.hid hownW
          go_wp2_with (first
            | (at_builtin; go_must (refine wpList_app1' rInt _ rfl _ _ rfl hownW rfl [_] 1 rfl rfl (by simp [Value.oneCell']) (by omega) (by omega) ?_); intro v4 w4 hown4 hB4 hg4 hloc4; have bl4 := bl.grown hg4 (own_ne hownW bl (by decide)); have ba4 := ba.grown hg4 (own_ne hownW ba (by decide)); have m0 := bl4.cell 0 (v := .int .i64 xn) rfl; have m1 := bl4.cell 1 (v := .int .i64 x1) rfl; have m2 := ba4.cell 0 (v := .int .i64 a.rule) rfl; have m3 := ba4.cell 1 (v := .slice E2 a.next.length f2) rfl; have hBT := hBW.trans hB4; have m4 := cell_chain (b := w.heap.size) (i := 0) (v := .int .i64 n) hBT (by omega) (by go_simp); have m5 := cell_chain (b := w.heap.size) (i := 1) (v := .slice A rs.length c) hBT (by omega) (by go_simp))
            | (go_at_call 81; go_must (refine (next_any n A c rs E2 f2 m.length a ⟨xn, x1⟩ _ (HA2.out.below hBT (by rw [gbox_size]; exact Nat.le_refl _)) (hnx.below hBT (by rw [gbox_size]; exact Nat.le_refl _)) (by show (0:Int) ≤ (xn : Int); omega) (by show (xn : Int) ≤ 60; omega) HOK.out).mono ?_); rintro e w5 ⟨rfl, hB5⟩))
          have HG1 : Hid (goTo rs m s word (k + 1) = (ru ++ [a.rule], nextI rs a ⟨xn, x1⟩)) := by
            show _ = _
            have e : word.getD k ⟨0, 0⟩ = ⟨xn, x1⟩ := by
              have h := HX.out
              simp only [List.getD, h, Option.getD_some]
            unfold goTo
            simp only [e, HST.out, HRU.out, HAC.out]
          have hz4 := hBT.size
          rw [gbox_size] at hz4
          go_roundw
          case rel =>
            refine ⟨k + 1, by omega, by go_num, by rw [HG1.out], ?_, hBT.trans (hB5.mono (by omega))⟩
            rw [HG1.out]
            have e := own_frame hown4 (Frame.of_all (S := fun _ => False) hB5) (fun _ _ h => h)
            simpa [ints] using e
          case measure => simp [intOf]; omega
        · obtain rfl : k = word.length := by omega
          obtain ⟨A', c', rfl, hcs⟩ := own_out hown (by simp [ints, goTo_len]; omega)
          go_wp2
          refine bodyPost_ret (v := .tuple #[.slice A' word.length c', .int .i64 (goTo rs m s word word.length).2, .int .i64 0]) (results_ttt rfl rfl rfl rfl) rfl ?_
          rw [HG.out]
          simp only [goTo_len]
          exact ⟨A', c', rfl, hcs, HB2.out.trans (hB.mono (by omega))⟩

theorem Go_any (n : Int) (A : Option Addr) (c : Nat) (rs : List Int) (B : Option Addr) (d : Nat) (m : Mach) (s : Int) (D : Option Addr) (f : Nat) (word : List Lt) (w : World) (hA : Cells w A (ints rs)) (hM : MachAt w B m) (hD : Cells w D (lts word)) :
    Calls Try.prog 27 #[.agg #[.int .i64 n, .slice A rs.length c], .agg #[.slice B m.length d], .int .i64 s, .slice D word.length f] w fun e w' => ∃ A' c', e = .returned (.tuple #[.slice A' (goA n rs m s word).1.length c', .int .i64 (goA n rs m s word).2.1, .int .i64 (goA n rs m s word).2.2]) ∧ Cells w' A' (ints (goA n rs m s word).1) ∧ Below w.heap.size w w' := by
  by_cases hi : isStateA n rs m s = true
  · by_cases hl : word.length ≤ 60
    · exact Go_yes n A c rs B d m s D f word w hA hM hD hi hl
    · have e : goA n rs m s word = ([], 0, 2) := by unfold goA wordB; simp [hl]
      rw [e]
      exact (Go_no n A c rs B d m s D f word w hA hM hD (.inr (by omega))).mono fun e w' h => ⟨none, 0, h.1, Cells.nil _ _, h.2⟩
  · simp only [Bool.not_eq_true] at hi
    have e : goA n rs m s word = ([], 0, 2) := by unfold goA; rw [hi]; rfl
    rw [e]
    exact (Go_no n A c rs B d m s D f word w hA hM hD (.inl hi)).mono fun e w' h => ⟨none, 0, h.1, Cells.nil _ _, h.2⟩
end Go.Proofs.Ytlnonadkdonhmaa
