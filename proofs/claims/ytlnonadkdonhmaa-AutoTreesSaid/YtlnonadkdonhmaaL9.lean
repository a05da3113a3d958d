/- Contracts and lemmas that a claim of this seat uses. -/
import Derived.Test.YtlnonadkdonhmaaL8
import Derived.Test.YtlnonadkdonhmaaL6
import Derived.Test.YtlnonadkdonhmaaL3

/- The examples in plain words; contracts of G and letters. -/
namespace Go.Proofs.Ytlnonadkdonhmaa
open Go.RowKit Go.Maps

set_option maxRecDepth 100000 in
set_option maxHeartbeats 1000000 in
theorem G_any (w : World) : Calls Try.prog 70 #[] w fun e w' => ∃ A c, e = .returned (.agg #[.int .i64 3, .slice A ([3, 6] : List Int).length c]) ∧ Cells w' A (ints [3, 6]) ∧ Below w.heap.size w w' := by
  go_enter Try.func70, Try.ntmps70
  go_wp2
  have e := Blk.new (w.alloc (.cells #[.int .i64 3, .slice (some ⟨w.heap.size + 1, 0, none⟩) 2 2] 24)) (.cells #[.int .i64 3, .int .i64 6] 3)
  rw [World.size_alloc] at e
  refine bodyPost_ret (v := .agg #[.int .i64 3, .slice (some ⟨w.heap.size + 1, 0, none⟩) 2 2]) (results_c rfl rfl ?_) rfl ⟨_, _, rfl, blk_cells (xs := ints [3, 6]) e (by simp [ints]), ((Below.refl _ w).alloc (Nat.le_refl _) _).alloc (by simp) _⟩
  go_simp

/-- The first k letters that a list of numbers makes. -/
def lettersTo (l : List Int) (k : Nat) : List Lt := (List.range k).map fun i => ⟨l.getD (2 * i) 0, l.getD (2 * i + 1) 0⟩
theorem lettersTo_succ (l : List Int) (k : Nat) {x y : Int} (hx : l[2 * k]? = some x) (hy : l[2 * k + 1]? = some y) : lettersTo l (k + 1) = lettersTo l k ++ [⟨x, y⟩] := by
  simp [lettersTo, List.range_succ, List.getD, hx, hy]
theorem lettersTo_len (l : List Int) (k : Nat) : (lettersTo l k).length = k := by simp [lettersTo]
theorem lts_snoc (l : List Lt) (x : Lt) : lts (l ++ [x]) = lts l ++ [.int .i64 x.ch, .int .i64 x.keep] := by simp [lts, ltCells]
theorem lts_len (l : List Lt) : (lts l).length = l.length * 2 := flat_len (f := ltCells) (fun _ => rfl) l

set_option maxRecDepth 100000 in
set_option maxHeartbeats 2000000 in
theorem letters_any (l : List Int) (A : Option Addr) (c : Nat) (w : World) (hA : Cells w A (ints l)) (hl : l.length ≤ 1000) :
    Calls Try.prog 71 #[.slice A l.length c] w fun e w' => ∃ A' c', e = .returned (.slice A' (l.length / 2) c') ∧ Cells w' A' (lts (lettersTo l (l.length / 2))) ∧ Below w.heap.size w w' := by
  go_enter Try.func71, Try.ntmps71
  go_wp2
  go_loopw [3, 4] (fun v i wr => ∃ k : Nat, 2 * k ≤ l.length ∧ i = .int .i64 ((2 * k : Nat) : Int) ∧ wr.ownsRow w.heap.size 118 2 v k (lts (lettersTo l k)) ∧ Below w.heap.size w wr)
    (fun _ i _ => l.length + 2 - (intOf i).toNat)
  case atStart => exact ⟨0, Nat.zero_le _, rfl, World.ownsRow_nil _ _ _ _, Below.refl _ _⟩
  case round =>
    obtain ⟨k, hk, rfl, hown, hB⟩ := hrel
    by_cases hlt : 2 * k + 1 < l.length
    · obtain ⟨x, b, o, hx, hb, hix, hcx⟩ := ints_at (c := c) hA Try.underlying22 szInt (show 2 * k < l.length by omega)
      obtain ⟨y, b', o', hy, hb', hiy, hcy⟩ := ints_at (c := c) hA Try.underlying22 szInt hlt
      have HS := Lib.hid (lettersTo_succ l k hx hy)
      have hd : decide (((2 * k : Nat) : Int) + 1 < (l.length : Int)) = true := by simp; omega
      push_cast at hix hiy hd
      have hs1 : IntKind.i64.wrap (2 * (k : Int) + 1) = 2 * (k : Int) + 1 := IntWalk.i64_in _ (by omega)
      clear hx hy
      go_wp2
      refine draw (fun w' => Below w.heap.size w w') 14 rfl (by kernel_rfl) (fun Qd hQd => ?_)
      apply anyI_step 0 rfl (by kernel_rfl)
      focus (intro wI hI Kv hKv; have t0 := cell_chain hI hb hcx; have t1 := cell_chain hI hb' hcy; go_simp; exact hKv)
      intro Kd hKd
      go_simp
      refine hKd _ ?_
      clear hKd Kd
      apply anyI_step 1 rfl (by kernel_rfl)
      focus (intro wI hI Kv hKv; have t0 := cell_chain hI hb hcx; have t1 := cell_chain hI hb' hcy; go_simp; exact hKv)
      intro Kd hKd
      go_simp
      refine hKd _ ?_
      clear hKd Kd
      apply anyI_step 2 rfl (by kernel_rfl)
      focus (intro wI hI Kv hKv; have t0 := cell_chain hI hb hcx; have t1 := cell_chain hI hb' hcy; go_simp; exact hKv)
      intro Kd hKd
      go_simp
      refine hKd _ ?_
      clear hKd Kd
      apply anyI_step 3 rfl (by kernel_rfl)
      focus (intro wI hI Kv hKv; have t0 := cell_chain hI hb hcx; have t1 := cell_chain hI hb' hcy; go_simp; exact hKv)
      intro Kd hKd
      go_simp
      refine hKd _ ?_
      clear hKd Kd
      apply anyI_step 4 rfl (by kernel_rfl)
      focus (intro wI hI Kv hKv; have t0 := cell_chain hI hb hcx; have t1 := cell_chain hI hb' hcy; go_simp; exact hKv)
      intro Kd hKd
      go_simp
      refine hKd _ ?_
      clear hKd Kd
      apply anyI_step 5 rfl (by kernel_rfl)
      focus (intro wI hI Kv hKv; have t0 := cell_chain hI hb hcx; have t1 := cell_chain hI hb' hcy; go_simp; exact hKv)
      intro Kd hKd
      go_simp
      refine hKd _ ?_
      clear hKd Kd
      apply anyI_step 6 rfl (by kernel_rfl)
      focus (intro wI hI Kv hKv; have t0 := cell_chain hI hb hcx; have t1 := cell_chain hI hb' hcy; go_simp; exact hKv)
      intro Kd hKd
      go_simp
      refine hKd _ ?_
      clear hKd Kd
      apply anyI_step 7 rfl (by kernel_rfl)
      focus (intro wI hI Kv hKv; have t0 := cell_chain hI hb hcx; have t1 := cell_chain hI hb' hcy; go_simp; exact hKv)
      intro Kd hKd
      go_simp
      refine hKd _ ?_
      clear hKd Kd
      apply anyI_step 8 rfl (by kernel_rfl)
      focus (intro wI hI Kv hKv; have t0 := cell_chain hI hb hcx; have t1 := cell_chain hI hb' hcy; go_simp; exact hKv)
      intro Kd hKd
      go_simp
      refine hKd _ ?_
      clear hKd Kd
      apply anyI_step 9 rfl (by kernel_rfl)
      focus (intro wI hI Kv hKv; have t0 := cell_chain hI hb hcx; have t1 := cell_chain hI hb' hcy; go_simp; exact hKv)
      intro Kd hKd
      go_simp
      refine hKd _ ?_
      clear hKd Kd
      apply anyI_step 10 rfl (by kernel_rfl)
      focus (intro wI hI Kv hKv; have t0 := cell_chain hI hb hcx; have t1 := cell_chain hI hb' hcy; go_simp; exact hKv)
      intro Kd hKd
      go_simp
      refine hKd _ ?_
      clear hKd Kd
      refine anyI_one' 11 rfl (by kernel_rfl) (hB.drew) (fun Kd hKd => ?_)
      go_wp2
      refine anyI_one' 12 rfl (by kernel_rfl) (((hB.alloc hB.size _).drew)) (fun Kd hKd => ?_)
      go_wp2_with (at_builtin; go_must (refine wpList_app1 rLt wr.drew rfl _ _ rfl hown rfl [_, _] 1 rfl rfl (by simp [Value.oneCell']) (by omega) hB.size ?_); intro v' w6 ho6 hB6)
      apply anyI_step 13 rfl (by kernel_rfl)
      focus (intro wI hI Kv hKv; go_simp; exact hKv)
      intro Kd hKd
      go_simp
      refine hKd _ ?_
      clear hKd Kd
      refine anyI_end (by kernel_rfl) ((hB.drew.trans hB6)) (hQd _ _ ?_)
      clear hQd Qd
      go_wp2
      go_roundw
      case rel => exact ⟨k + 1, by omega, by go_num, by rw [HS.out, lts_snoc]; exact ho6, hB.drew.trans hB6⟩
      case measure => simp [intOf]; omega
    · have hd : decide (((2 * k : Nat) : Int) + 1 < (l.length : Int)) = false := by simp; omega
      push_cast at hd
      have hkl : l.length / 2 = k := by omega
      have HKL := Lib.hid hkl
      clear hkl
      go_wp2
      obtain ⟨A', c', rfl, hcs⟩ := own_out hown (by rw [lts_len, lettersTo_len]; omega)
      go_ret
      rw [HKL.out]
      exact ⟨A', c', rfl, hcs, hB⟩
end Go.Proofs.Ytlnonadkdonhmaa

/- The examples in plain words: what is computed. -/
namespace Go.Proofs.Ytlnonadkdonhmaa
open Go.RowKit Go.Maps

def KM : Mach := machI 3 [3, 6]
theorem km_grp : grpOk 3 [3, 6] = true := by kernel_rfl
theorem km_len : KM.length = 5 := by kernel_rfl
theorem km_val : decide (KM = [[⟨-1, [1]⟩, ⟨-1, [2]⟩, ⟨-1, [3]⟩], [⟨-1, [1]⟩, ⟨0, [0, 1]⟩, ⟨-1, [4]⟩], [⟨0, [0, 2]⟩, ⟨-1, [2]⟩, ⟨1, [0, 2]⟩], [⟨-1, [4]⟩, ⟨1, [0, 3]⟩, ⟨-1, [3]⟩], [⟨-1, [4]⟩, ⟨0, [3, 4]⟩, ⟨-1, [4]⟩]]) = true := by kernel_rfl
theorem km_go : decide (goA 3 [3, 6] KM 0 (lettersTo [0, 0, 1, 1, 2, 0, 1, 0] 4) = ([-1, 0, -1, 0], 3, 0)) = true := by kernel_rfl
theorem km_apart : decide (apartA 3 [3, 6] KM 1 4 = (lettersTo [1, 0, 1, 0] 2, true, 0)) = true := by kernel_rfl
theorem km_fair : (decide (fairR 3 [3, 6] [0, 2, 1, 0, 1] = [-1, -1, 0, -1, 1]) && decide (fairL 3 [3, 6] [0, 2, 1, 0, 1] = [1, 0, 0]) && comeI 3 [3, 6] [0, 2, 1, 0, 1]) = true := by kernel_rfl
theorem km_tree : (decide (treeT 3 [3, 6] 2 2 false = [⟨0, 1, 2, -1⟩, ⟨-1, 0, 0, 0⟩, ⟨2, 3, 4, -1⟩, ⟨-1, 0, 0, 1⟩, ⟨-1, 0, 0, -1⟩]) && decide (treeD 3 [3, 6] 2 2 false = 2) && treeOk 3 [3, 6] 2 2) = true := by kernel_rfl
end Go.Proofs.Ytlnonadkdonhmaa

/- The examples' calls. -/
namespace Go.Proofs.Ytlnonadkdonhmaa
open Go.RowKit Go.Maps

theorem k_G (w : World) : Calls Try.prog 70 #[] w fun e w' => ∃ A c, e = .returned (.agg #[.int .i64 3, .slice A 2 c]) ∧ Cells w' A (ints [3, 6]) ∧ Below w.heap.size w w' := G_any w
theorem k_Machine (A : Option Addr) (c : Nat) (w : World) (hA : Cells w A (ints [3, 6])) : Calls Try.prog 21 #[.agg #[.int .i64 3, .slice A 2 c]] w fun e w' => ∃ A' c', e = .returned (.tuple #[.agg #[.slice A' 5 c'], .int .i64 0]) ∧ MachAt w' A' KM ∧ Below w.heap.size w w' := by
  have h := Machine_any 3 A c [3, 6] w hA
  have e1 : machR 3 [3, 6] = KM := by unfold machR; rw [km_grp]; rfl
  have e2 : errI (grpOk 3 [3, 6]) = 0 := by rw [km_grp]; rfl
  rw [e1, e2, km_len] at h
  exact h
theorem k_MachineR (A : Option Addr) (c : Nat) (w : World) (hA : Cells w A (ints [3, 6])) : Calls Try.prog 25 #[.agg #[.int .i64 3, .slice A 2 c]] w fun e w' => ∃ A' c', e = .returned (.agg #[.slice A' 5 c']) ∧ MachAt w' A' KM ∧ Below w.heap.size w w' := by
  have h := MachineR_any 3 A c [3, 6] w hA km_grp
  have e1 : machI ((3 : Nat) : Int) [3, 6] = KM := rfl
  rw [e1, km_len] at h
  exact h
theorem k_Same (A B : Option Addr) (c d : Nat) (w : World) (hA : MachAt w A KM) (hB : MachAt w B KM) : Calls Try.prog 24 #[.agg #[.slice A 5 c], .agg #[.slice B 5 d]] w fun e w' => e = .returned (.bool true) ∧ Below w.heap.size w w' := by
  have h := Same_any A B c d KM KM w hA hB
  rw [km_len, decide_eq_true rfl] at h
  exact h
theorem k_Go (A B D : Option Addr) (c d f : Nat) (w : World) (hA : Cells w A (ints [3, 6])) (hM : MachAt w B KM) (hD : Cells w D (lts (lettersTo [0, 0, 1, 1, 2, 0, 1, 0] 4))) :
    Calls Try.prog 27 #[.agg #[.int .i64 3, .slice A 2 c], .agg #[.slice B 5 d], .int .i64 0, .slice D 4 f] w fun e w' => ∃ A' c', e = .returned (.tuple #[.slice A' 4 c', .int .i64 3, .int .i64 0]) ∧ Cells w' A' (ints [-1, 0, -1, 0]) ∧ Below w.heap.size w w' := by
  have h := Go_any 3 A c [3, 6] B d KM 0 D f (lettersTo [0, 0, 1, 1, 2, 0, 1, 0] 4) w hA hM hD
  rw [km_len, of_decide_eq_true km_go] at h
  exact h
theorem k_Apart (A B : Option Addr) (c d : Nat) (w : World) (hA : Cells w A (ints [3, 6])) (hM : MachAt w B KM) :
    Calls Try.prog 33 #[.agg #[.int .i64 3, .slice A 2 c], .agg #[.slice B 5 d], .int .i64 1, .int .i64 4] w fun e w' => ∃ A' c', e = .returned (.tuple #[.slice A' 2 c', .bool true, .int .i64 0]) ∧ Cells w' A' (lts (lettersTo [1, 0, 1, 0] 2)) ∧ Below w.heap.size w w' := by
  have h := Apart_any 3 A c [3, 6] B d KM 1 4 w hA hM
  rw [km_len, of_decide_eq_true km_apart] at h
  exact h
theorem k_Fair (A D : Option Addr) (c f : Nat) (w : World) (hA : Cells w A (ints [3, 6])) (hD : Cells w D (ints [0, 2, 1, 0, 1])) :
    Calls Try.prog 36 #[.agg #[.int .i64 3, .slice A 2 c], .slice D 5 f] w fun e w' => ∃ A' c' B' d', e = .returned (.tuple #[.slice A' 5 c', .slice B' 3 d', .int .i64 0]) ∧ Cells w' A' (ints [-1, -1, 0, -1, 1]) ∧ Cells w' B' (ints [1, 0, 0]) ∧ Below w.heap.size w w' := by
  have h := Fair_any 3 A c [3, 6] D f [0, 2, 1, 0, 1] w hA hD
  have k := km_fair
  simp only [Bool.and_eq_true, decide_eq_true_eq] at k
  rw [k.1.1, k.1.2, k.2] at h
  exact h
theorem k_Tree (A : Option Addr) (c : Nat) (w : World) (hA : Cells w A (ints [3, 6])) :
    Calls Try.prog 57 #[.agg #[.int .i64 3, .slice A 2 c], .int .i64 2, .int .i64 2, .bool false] w fun e w' => ∃ A' c', e = .returned (.tuple #[.slice A' 5 c', .int .i64 2, .int .i64 0]) ∧ Cells w' A' (nds [⟨0, 1, 2, -1⟩, ⟨-1, 0, 0, 0⟩, ⟨2, 3, 4, -1⟩, ⟨-1, 0, 0, 1⟩, ⟨-1, 0, 0, -1⟩]) ∧ Below w.heap.size w w' := by
  have h := Tree_any 3 A c [3, 6] 2 2 false w hA
  have k := km_tree
  simp only [Bool.and_eq_true, decide_eq_true_eq] at k
  rw [k.1.1, k.1.2, k.2] at h
  exact h
theorem k_Ints (xs : List Int) (A B : Option Addr) (c d n : Nat) (w : World) (hn : xs.length = n) (hA : Cells w A (ints xs)) (hB : Cells w B (ints xs)) : Calls Try.prog 32 #[.slice A n c, .slice B n d] w fun e w' => e = .returned (.bool true) ∧ Below w.heap.size w w' := by
  subst hn
  have h := Ints_any xs xs A B c d w hA hB
  rw [decide_eq_true rfl] at h
  exact h
theorem k_Letters (xs : List Lt) (A B : Option Addr) (c d n : Nat) (w : World) (hn : xs.length = n) (hA : Cells w A (lts xs)) (hB : Cells w B (lts xs)) : Calls Try.prog 35 #[.slice A n c, .slice B n d] w fun e w' => e = .returned (.bool true) ∧ Below w.heap.size w w' := by
  subst hn
  have h := Letters_any xs xs A B c d w hA hB
  rw [decide_eq_true rfl] at h
  exact h
theorem k_Nodes (xs : List Nd) (A B : Option Addr) (c d n : Nat) (w : World) (hn : xs.length = n) (hA : Cells w A (nds xs)) (hB : Cells w B (nds xs)) : Calls Try.prog 63 #[.slice A n c, .slice B n d] w fun e w' => e = .returned (.bool true) ∧ Below w.heap.size w w' := by
  subst hn
  have h := Nodes_any xs xs A B c d w hA hB
  rw [decide_eq_true rfl] at h
  exact h
theorem k_let8 (A : Option Addr) (c : Nat) (w : World) (hA : Cells w A (ints [0, 0, 1, 1, 2, 0, 1, 0])) : Calls Try.prog 71 #[.slice A 8 c] w fun e w' => ∃ A' c', e = .returned (.slice A' 4 c') ∧ Cells w' A' (lts (lettersTo [0, 0, 1, 1, 2, 0, 1, 0] 4)) ∧ Below w.heap.size w w' := letters_any [0, 0, 1, 1, 2, 0, 1, 0] A c w hA (by decide)
theorem k_let4 (A : Option Addr) (c : Nat) (w : World) (hA : Cells w A (ints [1, 0, 1, 0])) : Calls Try.prog 71 #[.slice A 4 c] w fun e w' => ∃ A' c', e = .returned (.slice A' 2 c') ∧ Cells w' A' (lts (lettersTo [1, 0, 1, 0] 2)) ∧ Below w.heap.size w w' := letters_any [1, 0, 1, 0] A c w hA (by decide)
/-- Index 4 of the states, index 1 of these acts: what Next is. -/
theorem k_next {w : World} {B : Option Addr} {d : Nat} (h : MachAt w B KM) : ∃ (b o b' o' : Nat) (D : Option Addr) (d' : Nat), b < w.heap.size ∧ b' < w.heap.size ∧ (∀ w', (Instr.indexAt 25 (.slice B 5 d) (.int .i64 4)).run Try.prog w' = .ok (.pointer (some ⟨b, o, none⟩)) w') ∧ w.cell? ⟨b, o, none⟩ = some (.slice D 3 d') ∧
    (∀ w', (Instr.indexAt 101 (.slice D 3 d') (.int .i64 1)).run Try.prog w' = .ok (.pointer (some ⟨b', o', none⟩)) w') ∧ ∃ (E : Option Addr) (e' : Nat), w.cell? ⟨b', o' + 1, none⟩ = some (.slice E 2 e') ∧ Cells w E (ints [3, 4]) := by
  have hv := of_decide_eq_true km_val
  obtain ⟨acts, D, d', b, o, hx, hb, hix, hc, hA⟩ := mach_at (c := d) (k := 4) h (by rw [km_len]; decide)
  rw [hv] at hx
  simp at hx
  subst hx
  obtain ⟨a, E, e', b', o', hy, hb', hiy, _, hn, hE⟩ := acts_at (c := d') (k := 1) hA (by decide)
  simp at hy
  subst hy
  rw [km_len] at hix
  exact ⟨b, o, b', o', D, d', hb, hb', hix, hc, hiy, E, e', hn, hE⟩
end Go.Proofs.Ytlnonadkdonhmaa

/- Contract: known. -/
namespace Go.Proofs.Ytlnonadkdonhmaa
open Go.RowKit Go.Maps

theorem below_in {W A B : World} (h : Below W.heap.size W A) (k : Below A.heap.size A B) : Below W.heap.size W B := h.trans (k.mono h.size)

set_option maxRecDepth 100000 in
set_option maxHeartbeats 8000000 in
theorem known_any (w : World) : Calls Try.prog 20 #[] w fun e w' => e = .returned (.bool true) ∧ Below w.heap.size w w' := by
  go_enter Try.func20, Try.ntmps20
  go_wp2_with (first
    | (go_at_call 70; go_must (refine (k_G _).mono ?_); rintro e w1 ⟨A1, c1, rfl, hA1, hB1⟩)
    | (go_at_call 21; go_must (refine (k_Machine A1 c1 w1 hA1).mono ?_); rintro e w2 ⟨AM, cM, rfl, hM2, hB2⟩))
  have HB0 : Hid (Below w.heap.size w w2) := below_in hB1 hB2
  obtain ⟨W, hW⟩ : ∃ W, w2.alloc (.cells #[.slice AM 5 cM] 27) = W := ⟨_, rfl⟩
  rw [hW]
  have hb1 : Blk W w2.heap.size (.cells #[.slice AM 5 cM] 27) := by rw [← hW]; exact Blk.new _ _
  have hBW : Below w2.heap.size w2 W := by rw [← hW]; exact (Below.refl _ w2).alloc (Nat.le_refl _) _
  have hM : MachAt W AM KM := hM2.below hBW (Nat.le_refl _)
  have HW : Hid (Below w.heap.size w W) := below_in HB0.out hBW
  have c0 := hb1.cell 0 (v := .slice AM 5 cM) rfl
  have hlt := hb1.lt
  have HM := Lib.hid hM
  obtain ⟨kb, ko, kb', ko', KD, kd', hk1, hk2, hk3, hk4, hk5, KE, ke', hk6, hk7⟩ := k_next (d := cM) hM
  have HK7 := Lib.hid hk7
  have hszw := HW.out.size
  clear hW hb1 hBW hM2 hM hB1 hB2 hA1 hk7
  refine draw (fun w' => Below W.heap.size W w') 27 rfl (by kernel_rfl) (fun Qd hQd => ?_)
  apply anyI_step 0 rfl (by kernel_rfl)
  focus (intro wI hI Kv hKv; have t0 := cell_chain hI hlt c0; go_simp; exact hKv)
  intro Kd hKd
  go_simp
  refine hKd _ ?_
  clear hKd Kd
  apply anyI_step 1 rfl (by kernel_rfl)
  focus (intro wI hI Kv hKv; have t0 := cell_chain hI hlt c0; go_simp; exact hKv)
  intro Kd hKd
  go_simp
  refine hKd _ ?_
  clear hKd Kd
  apply anyI_step 2 rfl (by kernel_rfl)
  focus (intro wI hI Kv hKv; have t0 := cell_chain hI hlt c0; go_simp; exact hKv)
  intro Kd hKd
  go_simp
  refine hKd _ ?_
  clear hKd Kd
  apply anyI_step 3 rfl (by kernel_rfl)
  focus (intro wI hI Kv hKv; have t0 := cell_chain hI hlt c0; go_simp; exact hKv)
  intro Kd hKd
  go_simp
  refine hKd _ ?_
  clear hKd Kd
  refine anyI_one' 4 rfl (by kernel_rfl) ((Below.refl _ _).drew) (fun Kd hKd => ?_)
  go_wp2_with (go_at_call 70; go_must (refine (k_G _).mono ?_); rintro e w4 ⟨A4, c4, rfl, hA4, hB4⟩)
  have hI4 : Below W.heap.size W w4 := (Below.refl _ W).drew.trans hB4
  refine anyI_one' 5 rfl (by kernel_rfl) (hI4) (fun Kd hKd => ?_)
  go_wp2_with (go_at_call 25; go_must (refine (k_MachineR A4 c4 w4 hA4).mono ?_); rintro e w5 ⟨A5, c5, rfl, hM5, hB5⟩)
  have hI5 := below_in hI4 hB5
  refine anyI_one' 6 rfl (by kernel_rfl) (hI5) (fun Kd hKd => ?_)
  go_wp2_with (go_at_call 24; go_must (refine (k_Same AM A5 cM c5 w5 (HM.out.below hI5 (Nat.le_refl _)) hM5).mono ?_); rintro e w6 ⟨rfl, hB6⟩)
  have hI6 := below_in hI5 hB6
  apply anyI_step 7 rfl (by kernel_rfl)
  focus (intro wI hI Kv hKv; have t0 := cell_chain hI hlt c0; have t4 := cell_chain hI hk1 hk4; have t6 := cell_chain hI hk2 hk6; go_simp; exact hKv)
  intro Kd hKd
  go_simp
  refine hKd _ ?_
  clear hKd Kd
  apply anyI_step 8 rfl (by kernel_rfl)
  focus (intro wI hI Kv hKv; have t0 := cell_chain hI hlt c0; have t4 := cell_chain hI hk1 hk4; have t6 := cell_chain hI hk2 hk6; go_simp; exact hKv)
  intro Kd hKd
  go_simp
  refine hKd _ ?_
  clear hKd Kd
  apply anyI_step 9 rfl (by kernel_rfl)
  focus (intro wI hI Kv hKv; have t0 := cell_chain hI hlt c0; have t4 := cell_chain hI hk1 hk4; have t6 := cell_chain hI hk2 hk6; go_simp; exact hKv)
  intro Kd hKd
  go_simp
  refine hKd _ ?_
  clear hKd Kd
  apply anyI_step 10 rfl (by kernel_rfl)
  focus (intro wI hI Kv hKv; have t0 := cell_chain hI hlt c0; have t4 := cell_chain hI hk1 hk4; have t6 := cell_chain hI hk2 hk6; go_simp; exact hKv)
  intro Kd hKd
  go_simp
  refine hKd _ ?_
  clear hKd Kd
  apply anyI_step 11 rfl (by kernel_rfl)
  focus (intro wI hI Kv hKv; have t0 := cell_chain hI hlt c0; have t4 := cell_chain hI hk1 hk4; have t6 := cell_chain hI hk2 hk6; go_simp; exact hKv)
  intro Kd hKd
  go_simp
  refine hKd _ ?_
  clear hKd Kd
  apply anyI_step 12 rfl (by kernel_rfl)
  focus (intro wI hI Kv hKv; have t0 := cell_chain hI hlt c0; have t4 := cell_chain hI hk1 hk4; have t6 := cell_chain hI hk2 hk6; go_simp; exact hKv)
  intro Kd hKd
  go_simp
  refine hKd _ ?_
  clear hKd Kd
  apply anyI_step 13 rfl (by kernel_rfl)
  focus (intro wI hI Kv hKv; have t0 := cell_chain hI hlt c0; have t4 := cell_chain hI hk1 hk4; have t6 := cell_chain hI hk2 hk6; go_simp; exact hKv)
  intro Kd hKd
  go_simp
  refine hKd _ ?_
  clear hKd Kd
  apply anyI_step 14 rfl (by kernel_rfl)
  focus (intro wI hI Kv hKv; have t0 := cell_chain hI hlt c0; have t4 := cell_chain hI hk1 hk4; have t6 := cell_chain hI hk2 hk6; go_simp; exact hKv)
  intro Kd hKd
  go_simp
  refine hKd _ ?_
  clear hKd Kd
  apply anyI_step 15 rfl (by kernel_rfl)
  focus (intro wI hI Kv hKv; have t0 := cell_chain hI hlt c0; have t4 := cell_chain hI hk1 hk4; have t6 := cell_chain hI hk2 hk6; go_simp; exact hKv)
  intro Kd hKd
  go_simp
  refine hKd _ ?_
  clear hKd Kd
  apply anyI_step 16 rfl (by kernel_rfl)
  focus (intro wI hI Kv hKv; have t0 := cell_chain hI hlt c0; have t4 := cell_chain hI hk1 hk4; have t6 := cell_chain hI hk2 hk6; go_simp; exact hKv)
  intro Kd hKd
  go_simp
  refine hKd _ ?_
  clear hKd Kd
  apply anyI_step 17 rfl (by kernel_rfl)
  focus (intro wI hI Kv hKv; have t0 := cell_chain hI hlt c0; have t4 := cell_chain hI hk1 hk4; have t6 := cell_chain hI hk2 hk6; go_simp; exact hKv)
  intro Kd hKd
  go_simp
  refine hKd _ ?_
  clear hKd Kd
  apply anyI_step 18 rfl (by kernel_rfl)
  focus (intro wI hI Kv hKv; have t0 := cell_chain hI hlt c0; have t4 := cell_chain hI hk1 hk4; have t6 := cell_chain hI hk2 hk6; go_simp; exact hKv)
  intro Kd hKd
  go_simp
  refine hKd _ ?_
  clear hKd Kd
  apply anyI_step 19 rfl (by kernel_rfl)
  focus (intro wI hI Kv hKv; have t0 := cell_chain hI hlt c0; have t4 := cell_chain hI hk1 hk4; have t6 := cell_chain hI hk2 hk6; go_simp; exact hKv)
  intro Kd hKd
  go_simp
  refine hKd _ ?_
  clear hKd Kd
  apply anyI_step 20 rfl (by kernel_rfl)
  focus (intro wI hI Kv hKv; have t0 := cell_chain hI hlt c0; have t4 := cell_chain hI hk1 hk4; have t6 := cell_chain hI hk2 hk6; go_simp; exact hKv)
  intro Kd hKd
  go_simp
  refine hKd _ ?_
  clear hKd Kd
  apply anyI_step 21 rfl (by kernel_rfl)
  focus (intro wI hI Kv hKv; have t0 := cell_chain hI hlt c0; have t4 := cell_chain hI hk1 hk4; have t6 := cell_chain hI hk2 hk6; go_simp; exact hKv)
  intro Kd hKd
  go_simp
  refine hKd _ ?_
  clear hKd Kd
  apply anyI_step 22 rfl (by kernel_rfl)
  focus (intro wI hI Kv hKv; have t0 := cell_chain hI hlt c0; have t4 := cell_chain hI hk1 hk4; have t6 := cell_chain hI hk2 hk6; go_simp; exact hKv)
  intro Kd hKd
  go_simp
  refine hKd _ ?_
  clear hKd Kd
  refine anyI_one' 23 rfl (by kernel_rfl) (hI6) (fun Kd hKd => ?_)
  go_wp2
  have hI7 : Below W.heap.size W (w6.alloc (.cells #[.int .i64 3, .int .i64 4] 3)) := hI6.alloc hI6.size _
  refine anyI_one' 24 rfl (by kernel_rfl) (hI7) (fun Kd hKd => ?_)
  go_wp2_with (go_at_call 32; go_must (refine (k_Ints [3, 4] KE (some ⟨w6.heap.size, 0, none⟩) ke' 2 2 _ rfl (HK7.out.below hI7 (Nat.le_refl _)) (by exact (lit_new w6 (ints [3, 4]) 3 (by simp [ints])).1)).mono ?_); rintro e w8 ⟨rfl, hB8⟩)
  have hI8 : Below W.heap.size W w8 := below_in hI7 hB8
  apply anyI_step 25 rfl (by kernel_rfl)
  focus (intro wI hI Kv hKv; go_simp; exact hKv)
  intro Kd hKd
  go_simp
  refine hKd _ ?_
  clear hKd Kd
  apply anyI_step 26 rfl (by kernel_rfl)
  focus (intro wI hI Kv hKv; go_simp; exact hKv)
  intro Kd hKd
  go_simp
  refine hKd _ ?_
  clear hKd Kd
  refine anyI_end (by kernel_rfl) (hI8) (hQd _ _ ?_)
  clear hQd Qd
  have HI8 := Lib.hid hI8
  clear hI4 hI5 hI6 hI7 hI8 hB4 hB5 hB6 hB8 hA4 hM5
  have d0 := cell_chain HI8.out hlt c0
  go_wp2
  refine draw (fun w' => Below W.heap.size W w') 12 rfl (by kernel_rfl) (fun Qd hQd => ?_)
  apply anyI_step 1 rfl (by kernel_rfl)
  focus (intro wI hI Kv hKv; have t0 := cell_chain hI hlt c0; go_simp; exact hKv)
  intro Kd hKd
  go_simp
  refine hKd _ ?_
  clear hKd Kd
  refine anyI_two' 0 2 rfl rfl (by kernel_rfl) (HI8.out.drew) (fun Kd hKd => ?_) (fun Kd hKd => ?_)
  focus
    go_wp2_with (go_at_call 70; go_must (refine (k_G _).mono ?_); rintro e w9 ⟨A9, c9, rfl, hA9, hB9⟩)
    have hI9 : Below W.heap.size W w9 := below_in HI8.out.drew hB9
    refine anyI_one' 2 rfl (by kernel_rfl) (hI9) (fun Kd hKd => ?_)
    go_wp2
    have hA10 := hA9.box0 (.cells (ints [0, 0, 1, 1, 2, 0, 1, 0]).toArray 3)
    have hL10 := (lit_new w9 (ints [0, 0, 1, 1, 2, 0, 1, 0]) 3 (by simp [ints])).1
    have hI10 := hI9.alloc hI9.size (.cells (ints [0, 0, 1, 1, 2, 0, 1, 0]).toArray 3)
    obtain ⟨w10, hw10⟩ : ∃ w10, w9.alloc (.cells (ints [0, 0, 1, 1, 2, 0, 1, 0]).toArray 3) = w10 := ⟨_, rfl⟩
    obtain ⟨bl, hbl⟩ : ∃ bl, w9.heap.size = bl := ⟨_, rfl⟩
    rw [hw10] at hA10 hL10 hI10
    rw [hbl] at hL10 ⊢
    change anyI _ _ _ _ _ _ _ _ (w9.alloc (.cells (ints [0, 0, 1, 1, 2, 0, 1, 0]).toArray 3))
    rw [hw10]
    clear hw10 hbl hI9 hB9 hA9
  rotate_left
  focus
    go_wp2
    have hL9 := (lit_new w8.drew (ints [0, 0, 1, 1, 2, 0, 1, 0]) 3 (by simp [ints])).1
    have hI9 := HI8.out.drew.alloc (o := .cells (ints [0, 0, 1, 1, 2, 0, 1, 0]).toArray 3) HI8.out.size
    obtain ⟨w9, hw9⟩ : ∃ w9, w8.drew.alloc (.cells (ints [0, 0, 1, 1, 2, 0, 1, 0]).toArray 3) = w9 := ⟨_, rfl⟩
    obtain ⟨bl, hbl⟩ : ∃ bl, w8.heap.size = bl := ⟨_, rfl⟩
    have hbl' : w8.drew.heap.size = bl := hbl
    rw [hw9] at hL9 hI9
    rw [hbl'] at hL9
    rw [hbl]
    change anyI _ _ _ _ _ _ _ _ (w8.drew.alloc (.cells (ints [0, 0, 1, 1, 2, 0, 1, 0]).toArray 3))
    rw [hw9]
    clear hw9 hbl hbl'
    refine anyI_one' 0 rfl (by kernel_rfl) (hI9) (fun Kd hKd => ?_)
    go_wp2_with (go_at_call 70; go_must (refine (k_G _).mono ?_); rintro e w10 ⟨A9, c9, rfl, hA10, hB10⟩)
    have hL10 := hL9.below hB10 (Nat.le_refl _)
    have hI10 : Below W.heap.size W w10 := below_in hI9 hB10
    clear hI9 hB10 hL9
  all_goals
    refine anyI_one' 3 rfl (by kernel_rfl) (hI10) (fun Kd hKd => ?_)
    go_wp2_with (go_at_call 71; go_must (refine (k_let8 _ 8 w10 hL10).mono ?_); rintro e w11 ⟨AL, cL, rfl, hL11, hB11⟩)
    have hA11 := hA10.below hB11 (Nat.le_refl _)
    have hI11 : Below W.heap.size W w11 := below_in hI10 hB11
    refine anyI_one' 4 rfl (by kernel_rfl) (hI11) (fun Kd hKd => ?_)
    go_wp2_with (go_at_call 27; go_must (refine (k_Go A9 AM AL c9 cM cL w11 hA11 (HM.out.below hI11 (Nat.le_refl _)) hL11).mono ?_); rintro e w12 ⟨AO, cO, rfl, hO12, hB12⟩)
    have hI12 : Below W.heap.size W w12 := below_in hI11 hB12
    apply anyI_step 5 rfl (by kernel_rfl)
    focus (intro wI hI Kv hKv; go_simp; exact hKv)
    intro Kd hKd
    go_simp
    refine hKd _ ?_
    clear hKd Kd
    apply anyI_step 6 rfl (by kernel_rfl)
    focus (intro wI hI Kv hKv; go_simp; exact hKv)
    intro Kd hKd
    go_simp
    refine hKd _ ?_
    clear hKd Kd
    apply anyI_step 7 rfl (by kernel_rfl)
    focus (intro wI hI Kv hKv; go_simp; exact hKv)
    intro Kd hKd
    go_simp
    refine hKd _ ?_
    clear hKd Kd
    apply anyI_step 8 rfl (by kernel_rfl)
    focus (intro wI hI Kv hKv; go_simp; exact hKv)
    intro Kd hKd
    go_simp
    refine hKd _ ?_
    clear hKd Kd
    apply anyI_step 9 rfl (by kernel_rfl)
    focus (intro wI hI Kv hKv; go_simp; exact hKv)
    intro Kd hKd
    go_simp
    refine hKd _ ?_
    clear hKd Kd
    apply anyI_step 10 rfl (by kernel_rfl)
    focus (intro wI hI Kv hKv; go_simp; exact hKv)
    intro Kd hKd
    go_simp
    refine hKd _ ?_
    clear hKd Kd
    apply anyI_step 11 rfl (by kernel_rfl)
    focus (intro wI hI Kv hKv; go_simp; exact hKv)
    intro Kd hKd
    go_simp
    refine hKd _ ?_
    clear hKd Kd
    refine anyI_end (by kernel_rfl) (hI12) (hQd _ _ ?_)
    clear hQd Qd
    have HI12 := Lib.hid hI12
    have HO12 := Lib.hid hO12
    clear hI10 hI11 hI12 hB11 hB12 hA10 hA11 hL10 hL11 hO12 d0
    go_wp2_with (go_at_call 32; go_must (refine (k_Ints [-1, 0, -1, 0] AO (some ⟨w12.heap.size, 0, none⟩) cO 4 4 _ rfl (HO12.out.box0 _) (by exact (lit_new w12 (ints [-1, 0, -1, 0]) 3 (by simp [ints])).1)).mono ?_); rintro e w13 ⟨rfl, hB13⟩; have HI13 : Hid (Below W.heap.size W w13) := below_in (HI12.out.alloc HI12.out.size _) hB13; clear hB13; have d1 := cell_chain HI13.out hlt c0)
    refine draw (fun w' => Below W.heap.size W w') 10 rfl (by kernel_rfl) (fun Qd hQd => ?_)
    apply anyI_step 1 rfl (by kernel_rfl)
    focus (intro wI hI Kv hKv; have t0 := cell_chain hI hlt c0; go_simp; exact hKv)
    intro Kd hKd
    go_simp
    refine hKd _ ?_
    clear hKd Kd
    refine anyI_one' 0 rfl (by kernel_rfl) (HI13.out.drew) (fun Kd hKd => ?_)
    go_wp2_with (go_at_call 70; go_must (refine (k_G _).mono ?_); rintro e w14 ⟨A14, c14, rfl, hA14, hB14⟩)
    have hI14 : Below W.heap.size W w14 := below_in HI13.out.drew hB14
    refine anyI_one' 2 rfl (by kernel_rfl) (hI14) (fun Kd hKd => ?_)
    go_wp2_with (go_at_call 33; go_must (refine (k_Apart A14 AM c14 cM w14 hA14 (HM.out.below hI14 (Nat.le_refl _))).mono ?_); rintro e w15 ⟨AW, cW, rfl, hW15, hB15⟩)
    have hI15 : Below W.heap.size W w15 := below_in hI14 hB15
    apply anyI_step 3 rfl (by kernel_rfl)
    focus (intro wI hI Kv hKv; go_simp; exact hKv)
    intro Kd hKd
    go_simp
    refine hKd _ ?_
    clear hKd Kd
    apply anyI_step 4 rfl (by kernel_rfl)
    focus (intro wI hI Kv hKv; go_simp; exact hKv)
    intro Kd hKd
    go_simp
    refine hKd _ ?_
    clear hKd Kd
    apply anyI_step 5 rfl (by kernel_rfl)
    focus (intro wI hI Kv hKv; go_simp; exact hKv)
    intro Kd hKd
    go_simp
    refine hKd _ ?_
    clear hKd Kd
    apply anyI_step 6 rfl (by kernel_rfl)
    focus (intro wI hI Kv hKv; go_simp; exact hKv)
    intro Kd hKd
    go_simp
    refine hKd _ ?_
    clear hKd Kd
    apply anyI_step 7 rfl (by kernel_rfl)
    focus (intro wI hI Kv hKv; go_simp; exact hKv)
    intro Kd hKd
    go_simp
    refine hKd _ ?_
    clear hKd Kd
    apply anyI_step 8 rfl (by kernel_rfl)
    focus (intro wI hI Kv hKv; go_simp; exact hKv)
    intro Kd hKd
    go_simp
    refine hKd _ ?_
    clear hKd Kd
    apply anyI_step 9 rfl (by kernel_rfl)
    focus (intro wI hI Kv hKv; go_simp; exact hKv)
    intro Kd hKd
    go_simp
    refine hKd _ ?_
    clear hKd Kd
    refine anyI_end (by kernel_rfl) (hI15) (hQd _ _ ?_)
    clear hQd Qd
    have HI15 := Lib.hid hI15
    have HW15 := Lib.hid hW15
    clear hI14 hI15 hB14 hB15 hA14 hW15 d1
    go_wp2_with (first
      | (go_at_call 71; go_must (refine (k_let4 (some ⟨w15.heap.size, 0, none⟩) 4 _ (by exact (lit_new w15 (ints [1, 0, 1, 0]) 3 (by simp [ints])).1)).mono ?_); rintro e w16 ⟨AX, cX, rfl, hX16, hB16⟩)
      | (go_at_call 35; go_must (refine (k_Letters (lettersTo [1, 0, 1, 0] 2) AW AX cW cX 2 w16 rfl ((HW15.out.box0 _).below hB16 (Nat.le_refl _)) hX16).mono ?_); rintro e w17 ⟨rfl, hB17⟩)
      | fail)
    have HI17 : Hid (Below W.heap.size W w17) := below_in (below_in (HI15.out.alloc HI15.out.size _) hB16) hB17
    clear hB16 hB17 hX16
    refine (k_G _).mono ?_
    rintro e w18 ⟨A18, c18, rfl, hA18, hB18⟩
    have HI18 : Hid (Below W.heap.size W w18) := below_in HI17.out hB18
    have HA18 := Lib.hid hA18
    clear hB18 hA18
    go_wp2_with (first
      | (go_at_call 36; go_must (refine (k_Fair A18 (some ⟨w18.heap.size, 0, none⟩) c18 5 _ (HA18.out.box0 _) (by exact (lit_new w18 (ints [0, 2, 1, 0, 1]) 3 (by simp [ints])).1)).mono ?_); rintro e w19 ⟨AR, cR, AQ, cQ, rfl, hR19, hQ19, hB19⟩; have HI19 : Hid (Below W.heap.size W w19) := below_in (HI18.out.alloc HI18.out.size _) hB19; have HQ19 := Lib.hid hQ19; have HR19 := Lib.hid hR19; clear hQ19 hB19 hR19)
      | fail)
    refine (k_Ints [-1, -1, 0, -1, 1] AR (some ⟨w19.heap.size, 0, none⟩) cR 5 5 _ rfl (HR19.out.box0 _) (by exact (lit_new w19 (ints [-1, -1, 0, -1, 1]) 3 (by simp [ints])).1)).mono ?_
    rintro e w20 ⟨rfl, hB20⟩
    have HQ20 := Lib.hid ((HQ19.out.box0 (.cells (ints [-1, -1, 0, -1, 1]).toArray 3)).below hB20 (Nat.le_refl _))
    have HI20 : Hid (Below W.heap.size W w20) := below_in (HI19.out.alloc HI19.out.size _) hB20
    clear hB20
    go_wp2_with fail
    refine (k_Ints [1, 0, 0] AQ (some ⟨w20.heap.size, 0, none⟩) cQ 3 3 _ rfl (HQ20.out.box0 _) (by exact (lit_new w20 (ints [1, 0, 0]) 3 (by simp [ints])).1)).mono ?_
    rintro e w21 ⟨rfl, hB21⟩
    have HI21 : Hid (Below W.heap.size W w21) := below_in (HI20.out.alloc HI20.out.size _) hB21
    clear hB21
    go_wp2_with (first
      | (go_at_call 70; go_must (refine (k_G _).mono ?_); rintro e w22 ⟨A22, c22, rfl, hA22, hB22⟩)
      | (go_at_call 57; go_must (refine (k_Tree A22 c22 w22 hA22).mono ?_); rintro e w23 ⟨AT, cT, rfl, hT23, hB23⟩; have HI23 : Hid (Below W.heap.size W w23) := below_in (below_in HI21.out hB22) hB23; have HT23 := Lib.hid hT23; clear hB22 hB23 hA22 hT23)
      | (go_at_call 63; go_must (refine (k_Nodes [⟨0, 1, 2, -1⟩, ⟨-1, 0, 0, 0⟩, ⟨2, 3, 4, -1⟩, ⟨-1, 0, 0, 1⟩, ⟨-1, 0, 0, -1⟩] AT (some ⟨w23.heap.size, 0, none⟩) cT 5 5 _ rfl (HT23.out.box0 _) (by exact (lit_new w23 (nds [⟨0, 1, 2, -1⟩, ⟨-1, 0, 0, 0⟩, ⟨2, 3, 4, -1⟩, ⟨-1, 0, 0, 1⟩, ⟨-1, 0, 0, -1⟩]) 107 (by simp [nds, ndCells])).1)).mono ?_); rintro e w24 ⟨rfl, hB24⟩)
      | fail)
    go_ret
    exact ⟨rfl, HW.out.trans ((below_in (HI23.out.alloc HI23.out.size _) hB24).mono hszw)⟩
end Go.Proofs.Ytlnonadkdonhmaa
