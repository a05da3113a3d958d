/- Contracts and lemmas that a claim of this seat uses. -/
import Derived.Test.YtlnonadkdonhmaaL31
import Derived.Test.YtlnonadkdonhmaaL3
import Derived.Test.YtlnonadkdonhmaaL4
import Derived.Deep.LoopGhost
import Derived.Laws.EntriesVeiled

/- Contracts of Least's closures: number over the first states. -/
namespace Go.Proofs.Ytlnonadkdonhmaa
open Go.RowKit Go.Maps

/-- The first states of all. -/
def firsts (m : Mach) : List Int := (List.range m.length).map fun (k : Nat) => (firstA m k : Int)
theorem firsts_len (m : Mach) : (firsts m).length = m.length := by simp [firsts]
theorem firsts_get {m : Mach} {x : Nat} (hx : x < m.length) : (firsts m)[x]? = some (firstA m x : Int) := by simp [firsts, hx]
/-- The list of the first states in memory, and the variable that holds it. -/
structure FstSt (w : World) (bf bF : Nat) (m : Mach) : Prop where
  cell : Blk w bf (.cells #[.slice (some ⟨bF, 0, none⟩) m.length m.length] 22)
  row : Blk w bF (.cells (ints (firsts m)).toArray 3)
theorem FstSt.frame {w w' : World} {bf bF : Nat} {m : Mach} {S : Nat → Prop} (h : FstSt w bf bF m) (hF : Frame S w w') (h1 : ¬ S bf) (h2 : ¬ S bF) : FstSt w' bf bF m := ⟨h.cell.frame hF h1, h.row.frame hF h2⟩
theorem FstSt.below {w w' : World} {bf bF B : Nat} {m : Mach} (h : FstSt w bf bF m) (hB : Below B w w') (h1 : bf < B) (h2 : bF < B) : FstSt w' bf bF m := ⟨h.cell.below hB h1, h.row.below hB h2⟩

set_option maxRecDepth 100000 in
set_option maxHeartbeats 2000000 in
theorem lnumber_any (bm bb bs base bf bF : Nat) (l : List Int) (v : Value) (m : Mach) (x : Int) (w : World) (h : NumSt w bm bb bs base l v) (hF : FstSt w bf bF m) (hb : base ≤ w.heap.size) (hbm : base ≤ bm) (_hbs : base ≤ bs) (hbf : bf < base) (hbF : bF < base) (hl : l.length ≤ 1000000) (hm : m.length ≤ 64) (hx : 0 ≤ x ∧ x < (m.length : Int)) :
    Calls Try.prog 110 #[.int .i64 x, .pointer (some ⟨bb, 0, none⟩), .pointer (some ⟨bf, 0, none⟩), .pointer (some ⟨bs, 0, none⟩)] w fun e w' => e = .returned (.int .i64 (l.idxOf (fsT m x) : Int)) ∧
      ∃ v', NumSt w' bm bb bs base (addNum l (fsT m x)) v' ∧ (∀ g, v'.ownBlock = some g → v.ownBlock = some g ∨ w.heap.size ≤ g) ∧ Frame (numS bm bs v) w w' := by
  obtain ⟨x, rfl⟩ := Int.eq_ofNat_of_zero_le hx.1
  have hxm : x < m.length := by omega
  obtain ⟨f, hfx⟩ : ∃ f : Nat, firstA m x = f := ⟨_, rfl⟩
  have HFX : Hid (fsT m (x : Int) = (f : Int)) := by show _ = _; unfold fsT; rw [Int.toNat_natCast, hfx]
  have hfl : f < m.length := by have := firstA_le m x; omega
  have hFx : (firsts m)[x]? = some (f : Int) := by rw [firsts_get hxm, hfx]
  rw [HFX.out]
  have hkey : keyOf Try.prog 3 (.int .i64 (f : Int)) = some (.int .i64 (f : Int)) := keyOf_int_mk Try.underlying3 (WalkArith.wf_i64 (by omega))
  have K : Keyed Try.prog 3 := int_keyed Try.underlying3
  have hz : (zeroValue 3).run Try.prog w.drew = .ok (.int .i64 0) w.drew := by kernel_rfl
  have hixm := ix_own (b := bF) (n := m.length) (c := m.length) Try.underlying22 szInt hxm
  have f0 := hF.cell.cell 0 (v := .slice (some ⟨bF, 0, none⟩) m.length m.length) rfl
  have f1 := hF.row.cell x (ints_get hFx)
  have c1 := h.box.cell 0 (v := .map (some bm)) rfl
  have c2 := h.cell.cell 0 (v := v) rfl
  have hd : NumSt w.drew bm bb bs base l v := ⟨h.box, h.map, h.cell, h.own⟩
  by_cases hmm : (f : Int) ∈ l
  · have hrun := hd.map.look_yes K Try.underlying108 hkey (numMap_mem hmm) true
    simp only [if_true] at hrun
    have HM : Hid (addNum l (f : Int) = l) := by show _ = _; simp [addNum, hmm]
    have HD := Lib.hid hd
    clear hmm hkey hz hfx hFx hd h
    go_enter Try.func110, Try.ntmps110
    go_wp2
    refine sall (by kernel_rfl) (by kernel_rfl) (fun Kq hKq => ?_)
    repeat still_step
    refine wpStill_nil (hKq _ ?_)
    clear hKq Kq
    go_wp2
    go_ret
    exact ⟨rfl, v, by rw [HM.out]; exact HD.out, fun g hg => .inl hg, (Frame.refl _ w).drew⟩
  · have hrun := hd.map.look_no K Try.underlying108 hkey (numMap_no hmm) hz true
    simp only [if_true] at hrun
    obtain ⟨A, c, rfl⟩ := own_fits h.own
    have hdd : NumSt w.drew.drew bm bb bs base l (.slice A l.length c) := ⟨h.box, h.map, h.cell, h.own⟩
    obtain ⟨w2, hput, hmap, hgr⟩ := hdd.map.put_new K Try.underlying108 hkey (numMap_no hmm) (v := .int .i64 (l.length : Int))
    have HM : Hid (addNum l (f : Int) = l ++ [(f : Int)]) := by show _ = _; simp [addNum, hmm]
    have HI : Hid (l.idxOf (f : Int) = l.length) := List.idxOf_eq_length hmm
    have hbox2 : Blk w2 bb (.cells #[.map (some bm)] 108) := hdd.box.grown hgr (fun e => hdd.map.not_blk hdd.box (by injection e))
    have hcell2 := hdd.cell.grown hgr (fun e => hdd.map.not_blk hdd.cell (by injection e))
    have hown2 := hdd.own.kept hgr (.inr (hdd.map.not_own hdd.own))
    have hFd : FstSt w.drew.drew bf bF m := ⟨hF.cell, hF.row⟩
    have hF2 : FstSt w2 bf bF m := hFd.frame (Frame.of_grown hgr) (fun e => by injection e with e; omega) (fun e => by injection e with e; omega)
    have d1 := hbox2.cell 0 (v := .map (some bm)) rfl
    have d2 := hcell2.cell 0 (v := .slice A l.length c) rfl
    have d3 := hF2.cell.cell 0 (v := .slice (some ⟨bF, 0, none⟩) m.length m.length) rfl
    have d4 := hF2.row.cell x (ints_get hFx)
    have HMAP := Lib.hid hmap
    have HGR := Lib.hid hgr
    have HB2 := Lib.hid hbox2
    have HC2 := Lib.hid hcell2
    have HO2 := Lib.hid hown2
    have HF2 := Lib.hid hF2
    have HFX2 := Lib.hid hFx
    have HSEP : Hid (¬ ((Value.slice A l.length c).ownBlock = some bf) ∧ ¬ ((Value.slice A l.length c).ownBlock = some bF)) := ⟨fun e => by have := (hown2.lt _ e).1; omega, fun e => by have := (hown2.lt _ e).1; omega⟩
    have hsz := hgr.size
    have hsw : w.drew.drew.heap.size = w.heap.size := rfl
    rw [hsw] at hsz
    have hown3 : w2.drew.ownsRow base 3 1 (.slice A l.length c) l.length (ints l) := hown2
    have hsd : w2.drew.heap.size = w2.heap.size := rfl
    have hcell3 : Blk w2.drew bs (.cells #[.slice A l.length c] 22) := hcell2
    clear hmm hkey hz hfx hFx hd h hdd hFd hmap hgr hbox2 hcell2 hF2 hF hsw
    go_enter Try.func110, Try.ntmps110
    go_wp2
    refine sall (by kernel_rfl) (by kernel_rfl) (fun Kq hKq => ?_)
    repeat still_step
    refine wpStill_nil (hKq _ ?_)
    clear hKq Kq
    go_wp2
    refine stail 6 (by kernel_rfl) (by kernel_rfl) (fun Kq hKq => ?_)
    simp only [List.take_succ_cons, List.take_zero, List.drop_succ_cons, List.drop_zero] at hKq ⊢
    repeat still_step
    refine wpStill_nil (hKq _ ?_)
    clear hKq Kq
    go_wp2
    clear d1 d2 d3 d4 f0 f1 c1 c2 hput hrun
    refine drawl (fun w' => Frame (fun b => (Value.slice A l.length c).ownBlock = some b) w2 w') 7 7 rfl (by kernel_rfl) (fun Qd hQd => ?_)
    apply anyL_step 0 (by kernel_rfl) rfl (by kernel_rfl)
    focus (intro wI hI Kv hKv; have t1 := (HC2.out.frame hI (fun e => own_ne HO2.out HC2.out (by decide) e)).cell 0 (v := .slice A l.length c) rfl; have t2 := (HF2.out.frame hI (fun e => HSEP.out.1 e) (fun e => HSEP.out.2 e)).cell.cell 0 (v := .slice (some ⟨bF, 0, none⟩) m.length m.length) rfl; have t3 := (HF2.out.frame hI (fun e => HSEP.out.1 e) (fun e => HSEP.out.2 e)).row.cell x (ints_get HFX2.out); go_simp; exact hKv)
    intro Kd hKd
    go_simp
    refine hKd _ ?_
    clear hKd Kd
    apply anyL_step 1 (by kernel_rfl) rfl (by kernel_rfl)
    focus (intro wI hI Kv hKv; have t1 := (HC2.out.frame hI (fun e => own_ne HO2.out HC2.out (by decide) e)).cell 0 (v := .slice A l.length c) rfl; have t2 := (HF2.out.frame hI (fun e => HSEP.out.1 e) (fun e => HSEP.out.2 e)).cell.cell 0 (v := .slice (some ⟨bF, 0, none⟩) m.length m.length) rfl; have t3 := (HF2.out.frame hI (fun e => HSEP.out.1 e) (fun e => HSEP.out.2 e)).row.cell x (ints_get HFX2.out); go_simp; exact hKv)
    intro Kd hKd
    go_simp
    refine hKd _ ?_
    clear hKd Kd
    apply anyL_step 2 (by kernel_rfl) rfl (by kernel_rfl)
    focus (intro wI hI Kv hKv; have t1 := (HC2.out.frame hI (fun e => own_ne HO2.out HC2.out (by decide) e)).cell 0 (v := .slice A l.length c) rfl; have t2 := (HF2.out.frame hI (fun e => HSEP.out.1 e) (fun e => HSEP.out.2 e)).cell.cell 0 (v := .slice (some ⟨bF, 0, none⟩) m.length m.length) rfl; have t3 := (HF2.out.frame hI (fun e => HSEP.out.1 e) (fun e => HSEP.out.2 e)).row.cell x (ints_get HFX2.out); go_simp; exact hKv)
    intro Kd hKd
    go_simp
    refine hKd _ ?_
    clear hKd Kd
    apply anyL_step 3 (by kernel_rfl) rfl (by kernel_rfl)
    focus (intro wI hI Kv hKv; have t1 := (HC2.out.frame hI (fun e => own_ne HO2.out HC2.out (by decide) e)).cell 0 (v := .slice A l.length c) rfl; have t2 := (HF2.out.frame hI (fun e => HSEP.out.1 e) (fun e => HSEP.out.2 e)).cell.cell 0 (v := .slice (some ⟨bF, 0, none⟩) m.length m.length) rfl; have t3 := (HF2.out.frame hI (fun e => HSEP.out.1 e) (fun e => HSEP.out.2 e)).row.cell x (ints_get HFX2.out); go_simp; exact hKv)
    intro Kd hKd
    go_simp
    refine hKd _ ?_
    clear hKd Kd
    apply anyL_step 4 (by kernel_rfl) rfl (by kernel_rfl)
    focus (intro wI hI Kv hKv; have t1 := (HC2.out.frame hI (fun e => own_ne HO2.out HC2.out (by decide) e)).cell 0 (v := .slice A l.length c) rfl; have t2 := (HF2.out.frame hI (fun e => HSEP.out.1 e) (fun e => HSEP.out.2 e)).cell.cell 0 (v := .slice (some ⟨bF, 0, none⟩) m.length m.length) rfl; have t3 := (HF2.out.frame hI (fun e => HSEP.out.1 e) (fun e => HSEP.out.2 e)).row.cell x (ints_get HFX2.out); go_simp; exact hKv)
    intro Kd hKd
    go_simp
    refine hKd _ ?_
    clear hKd Kd
    refine anyL_one 5 rfl (by kernel_rfl) ((Frame.refl _ w2).drew) (fun Kd hKd => ?_)
    go_wp2
    refine anyL_one 6 rfl (by kernel_rfl) (((Frame.refl _ w2).drew.alloc _)) (fun Kd hKd => ?_)
    go_wp2_with (at_builtin; go_must (refine wpList_app1' rInt _ rfl _ _ rfl hown3 rfl [_] 1 rfl rfl (by simp [Value.oneCell']) (by omega) (by rw [hsd]; omega) ?_); intro v' w3 hown4 hB3 hg3 hloc3; obtain ⟨g', cap', rfl⟩ := ownsRow_succ hown4; have hcell4 := hcell3.grown hg3 (own_ne hown3 hcell3 (by decide)); have e3 := hcell4.cell 0 (v := .slice A l.length c) rfl; have f3 := hcell4.free 0)
    have hg3' : Frame (fun b => (Value.slice A l.length c).ownBlock = some b) w2 w3 := (Frame.refl _ w2).drew.trans (Frame.of_grown hg3) (fun _ _ h => h)
    refine anyL_end rfl (by kernel_rfl) (hg3') (fun Kd hKd => ?_)
    go_wp2
    go_ret
    refine ⟨by rw [HI.out]; rfl, _, ⟨?_, ?_, hcell4.set1 _, ?_⟩, fun g hg => ?_, ?_⟩
    · have hb2 : Blk w2.drew bb (.cells #[.map (some bm)] 108) := HB2.out
      exact (hb2.grown hg3 (own_ne hown3 hb2 (by decide))).far (blk_ne hb2 hcell3 (by decide)) _
    · rw [HM.out, numMap_snoc]
      have hm2 : MapIs Try.prog 3 w2.drew bm (numMap l ++ [(.int .i64 (f : Int), .int .i64 (l.length : Int))]) := HMAP.out
      exact (hm2.frame (Frame.of_grown hg3) (fun e => hm2.not_own hown3 e)).far (hm2.not_blk hcell3) _
    · rw [HM.out]
      have h3 := own_frame hown4 ((Frame.refl (fun k => k = bs) w3).setCell (p := ⟨bs, 0, none⟩) (.inl rfl) (.slice (some ⟨g', 0, none⟩) (l.length + 1) cap')) (fun g hg e => own_ne hown4 hcell4 (by decide) (by rw [hg, e]))
      simpa [ints] using h3
    · rcases hloc3 g hg with h1 | h1
      · exact .inl h1
      · exact .inr (by rw [hsd] at h1; omega)
    · have e1 : Frame (numS bm bs (.slice A l.length c)) w w2 := ((Frame.refl _ w).drew.drew).trans (Frame.of_grown HGR.out) (fun b _ hb => .inl (by injection hb with hb; exact hb.symm))
      exact (e1.drew.trans (Frame.of_grown hg3) (fun b _ hb => .inr (.inr hb))).setCell (.inl (.inr (.inl rfl))) _

set_option maxRecDepth 100000 in
set_option maxHeartbeats 4000000 in
theorem leach_any (bm bb bs base bf bF : Nat) (l : List Int) (v : Value) (m : Mach) (A : Option Addr) (c : Nat) (xs : List Int) (w : World) (h : NumSt w bm bb bs base l v) (hFs : FstSt w bf bF m) (hb : base ≤ w.heap.size) (hbm : base ≤ bm) (hbs : base ≤ bs) (hbf : bf < base) (hbF : bF < base) (hl : l.length + xs.length ≤ 1000000) (hm : m.length ≤ 64) (hx : InM m xs)
    (hA : Cells w A (ints xs)) (hAw : ints xs ≠ [] → ∀ a, A = some a → ¬ numS bm bs v a.block) :
    Calls Try.prog 74 #[.slice A xs.length c, .func (.func 110) #[] #[.pointer (some ⟨bb, 0, none⟩), .pointer (some ⟨bf, 0, none⟩), .pointer (some ⟨bs, 0, none⟩)]] w fun e w' => ∃ A' c', e = .returned (.slice A' xs.length c') ∧ New w' w.heap.size A' (ints (foldNum l (xs.map (fsT m))).1) ∧
      ∃ v', NumSt w' bm bb bs base (foldNum l (xs.map (fsT m))).2 v' ∧ (∀ a, A' = some a → v'.ownBlock ≠ some a.block) ∧ (∀ g, v'.ownBlock = some g → v.ownBlock = some g ∨ w.heap.size ≤ g) ∧ Frame (numS bm bs v) w w' := by
  have HX := Lib.hid hx
  have HAW := Lib.hid hAw
  have H := Lib.hid h
  have HFS := Lib.hid hFs
  have hbm2 := h.map.lt
  have hbs2 := h.cell.lt
  have hbb := h.box.lt
  have HOWN0 := Lib.hid h.own
  clear hx hAw h hFs
  go_enter Try.func74, Try.ntmps74
  go_wp2
  go_loopw [5, 10] (fun vo i wr => ∃ k : Nat, k ≤ xs.length ∧ i = .int .i64 k ∧ wr.ownsRow w.heap.size 3 1 vo k (ints (foldNum l ((xs.map (fsT m)).take k)).1) ∧
      ∃ vs, NumSt wr bm bb bs base (foldNum l ((xs.map (fsT m)).take k)).2 vs ∧ (∀ g, vo.ownBlock = some g → vs.ownBlock ≠ some g) ∧ (∀ g, vs.ownBlock = some g → v.ownBlock = some g ∨ w.heap.size ≤ g) ∧ Frame (numS bm bs v) w wr)
    (fun _ i _ => xs.length - (intOf i).toNat)
  case atStart => exact ⟨0, Nat.zero_le _, rfl, World.ownsRow_nil _ _ _ _, v, H.out, fun g hg => (by cases hg), fun g hg => Or.inl hg, Frame.refl _ _⟩
  case round =>
    obtain ⟨k, hk, rfl, hown, vs, hst, hsep, hloc, hF⟩ := hrel
    have HSEP := Lib.hid hsep
    have HLOC := Lib.hid hloc
    have HST := Lib.hid hst
    have hszk := hF.size
    have hflen := foldNum_len l ((xs.map (fsT m)).take k)
    rw [List.length_take, List.length_map] at hflen
    have HFSk : Hid (FstSt wr bf bF m) := HFS.out.below (B := base) (hF.below (B := base) (fun b e => by rcases e with e | e | e; omega; omega; exact (HOWN0.out.lt b e).1) hb) hbf hbF
    clear hsep hloc hst
    by_cases hlt : k < xs.length
    · obtain ⟨x, b, o, hr, hbx, hix, hc⟩ := ints_at (c := c) (hA.frame hF HAW.out) Try.underlying22 szInt hlt
      have hxx := HX.out x (List.mem_of_getElem? hr)
      have HT : Hid ((xs.map (fsT m)).take (k + 1) = (xs.map (fsT m)).take k ++ [fsT m x]) := take_succ_of (by rw [List.getElem?_map, hr]; rfl)
      clear hr
      go_wp2_with (first
        | (go_at_call 110; go_must (refine (lnumber_any bm bb bs base bf bF (foldNum l ((xs.map (fsT m)).take k)).2 vs m x wr HST.out HFSk.out (by omega) hbm hbs hbf hbF (by omega) hm hxx).mono ?_); rintro e w1 ⟨rfl, vs1, hst1, hloc1, hF1⟩; have HST1 := Lib.hid hst1; have HLOC1 := Lib.hid hloc1; have hown1 := own_frame hown hF1 (fun g hg hs => by rcases hs with e | e | e; exact HST.out.map.not_own hown (by rw [hg, e]); exact own_ne hown HST.out.cell (by decide) (by rw [hg, e]); exact HSEP.out g hg e); clear hst1 hloc1; have hsz1 := hF1.size)
        | (at_builtin; go_must (refine wpList_app1' rInt _ rfl _ _ rfl hown1 rfl [_] 1 rfl rfl (by simp [Value.oneCell']) (by omega) (by omega) ?_); intro vo' w2 hown2 hB2 hg2 hlo2))
      go_roundw
      case rel =>
        have q0 : ∀ g, u5.ownBlock = some g → vs1.ownBlock ≠ some g := by
          intro g hg he
          rcases HLOC1.out g he with h1 | h1
          · exact HSEP.out g hg h1
          · have := (hown.lt g hg).2; omega
        have q1 : ∀ g, vo'.ownBlock = some g → vs1.ownBlock ≠ some g := by
          intro g hg he
          rcases hlo2 g hg with h1 | h1
          · exact q0 g h1 he
          · have := (HST1.out.own.lt g he).2; omega
        refine ⟨k + 1, by omega, by go_num, ?_, vs1, ?_, q1, ?_, ?_⟩
        · rw [HT.out, foldNum_snoc]; simpa [ints] using hown2
        · rw [HT.out, foldNum_snoc]
          exact HST1.out.frame (Frame.of_grown hg2) (fun e => HST1.out.map.not_own hown1 e) (fun e => own_ne hown1 HST1.out.box (by decide) e) (fun e => own_ne hown1 HST1.out.cell (by decide) e) (fun g hg e => q0 g e hg)
        · intro g hg
          rcases HLOC1.out g hg with h1 | h1
          · exact HLOC.out g h1
          · exact .inr (by omega)
        · refine (hF.trans hF1 (fun b hb' hs => ?_)).trans (Frame.of_grown hg2) (fun b hb' hs => ?_)
          · rcases hs with e | e | e
            · exact .inl e
            · exact .inr (.inl e)
            · rcases HLOC.out b e with h1 | h1
              · exact .inr (.inr h1)
              · omega
          · have := (hown.lt b hs).1; omega
      case measure => simp [intOf]; omega
    · obtain rfl : k = xs.length := by omega
      have HTA : Hid ((xs.map (fsT m)).take xs.length = xs.map (fsT m)) := by show _ = _; rw [List.take_of_length_le (by simp)]
      go_wp2
      obtain ⟨A', c', rfl, hnew⟩ := own_new hown (by simp [ints, foldNum_len1]; omega)
      go_ret
      rw [HTA.out] at hnew
      have HST' := HST.out
      rw [HTA.out] at HST'
      exact ⟨A', c', rfl, hnew, vs, HST', fun a ha => HSEP.out a.block (by subst ha; rfl), HLOC.out, hF⟩
end Go.Proofs.Ytlnonadkdonhmaa

/- Contract of Least's closure over an act. -/
namespace Go.Proofs.Ytlnonadkdonhmaa
open Go.RowKit Go.Maps

/-- The function value number. -/
def numF (bb bf bs : Nat) : Value := .func (.func 110) #[] #[.pointer (some ⟨bb, 0, none⟩), .pointer (some ⟨bf, 0, none⟩), .pointer (some ⟨bs, 0, none⟩)]

theorem load103 {w : World} {b : Nat} {x y : Value} (h : Blk w b (.cells #[x, y] 103)) : (loadVar 103 ⟨b, 0, none⟩).run Try.prog w = .ok (.agg #[x, y]) w := by
  have h0 := h.cell 0 (v := x) rfl
  have h1 := h.cell 1 (v := y) rfl
  go_simp

set_option maxRecDepth 100000 in
set_option maxHeartbeats 4000000 in
theorem lact_any (bm bb bs base bf bF bn : Nat) (l : List Int) (v : Value) (m : Mach) (rule : Int) (D : Option Addr) (f : Nat) (xs : List Int) (w : World) (h : NumSt w bm bb bs base l v) (hFs : FstSt w bf bF m) (hn : Blk w bn (.cells #[numF bb bf bs] 110)) (hb : base ≤ w.heap.size) (hbm : base ≤ bm) (hbs : base ≤ bs) (hbf : bf < base) (hbF : bF < base) (hl : l.length + xs.length ≤ 1000000) (hm : m.length ≤ 64) (hx : InM m xs)
    (hD : Cells w D (ints xs)) (hDw : ints xs ≠ [] → ∀ a, D = some a → ¬ numS bm bs v a.block) :
    Calls Try.prog 112 #[.agg #[.int .i64 rule, .slice D xs.length f], .pointer (some ⟨bn, 0, none⟩)] w fun e w' => ∃ A' c', e = .returned (.agg #[.int .i64 rule, .slice A' xs.length c']) ∧ New w' w.heap.size A' (ints (foldNum l (xs.map (fsT m))).1) ∧
      ∃ v', NumSt w' bm bb bs base (foldNum l (xs.map (fsT m))).2 v' ∧ (∀ a, A' = some a → v'.ownBlock ≠ some a.block) ∧ (∀ g, v'.ownBlock = some g → v.ownBlock = some g ∨ w.heap.size ≤ g) ∧ Frame (numS bm bs v) w w' := by
  obtain ⟨W, hW⟩ : ∃ W, (w.alloc (.cells #[.int .i64 rule, .slice D xs.length f] 103)).alloc (.cells #[.int .i64 0, .slice none 0 0] 103) = W := ⟨_, rfl⟩
  have hBW : Below w.heap.size w W := by rw [← hW]; exact ((Below.refl _ w).alloc (Nat.le_refl _) _).alloc (by simp) _
  have b1 : Blk W w.heap.size (.cells #[.int .i64 rule, .slice D xs.length f] 103) := by rw [← hW]; exact (Blk.new _ _).alloc _
  have b2 : Blk W (w.heap.size + 1) (.cells #[.int .i64 0, .slice none 0 0] 103) := by
    rw [← hW]
    have e := Blk.new (w.alloc (.cells #[.int .i64 rule, .slice D xs.length f] 103)) (.cells #[.int .i64 0, .slice none 0 0] 103)
    rw [World.size_alloc] at e
    exact e
  have hsW : W.heap.size = w.heap.size + 2 := by rw [← hW]; simp
  have hF0 : Frame (fun _ => False) w W := Frame.of_all hBW
  have H1 := Lib.hid b1
  have H2 := Lib.hid b2
  have HN := Lib.hid (hn.below hBW hn.lt)
  have HST := Lib.hid (h.below hBW)
  have HFS := Lib.hid (hFs.frame hF0 (fun h => h) (fun h => h))
  have HD := Lib.hid (hD.below hBW (Nat.le_refl _))
  have HDW := Lib.hid hDw
  have HX := Lib.hid hx
  have HBW := Lib.hid hBW
  have HOWN := Lib.hid h.own
  have hbm2 := h.map.lt
  have hbs2 := h.cell.lt
  have HNS : Hid (∀ b, w.heap.size ≤ b → ¬ numS bm bs v b) := by
    rintro b hbb (e | e | e)
    · omega
    · omega
    · have := (HOWN.out.lt b e).2; omega
  have HNB : Hid (¬ numS bm bs v bn) := by
    rintro (e | e | e)
    · exact h.map.not_blk hn e.symm
    · exact blk_ne hn h.cell (by decide) e
    · exact own_ne h.own hn (by decide) e
  have hbn := hn.lt
  have c0 := H1.out.cell 0 (v := .int .i64 rule) rfl
  have c1 := H1.out.cell 1 (v := .slice D xs.length f) rfl
  have c2 := HN.out.cell 0 (v := numF bb bf bs) rfl
  clear hx hDw h hFs hn hBW b1 b2 hF0 hD
  go_enter Try.func112, Try.ntmps112
  go_wp2
  clear hW
  unfold numF at c2
  clear c0 c1 c2
  refine draw (fun w' => Frame (fun b => numS bm bs v b ∨ b = w.heap.size + 1) W w') 8 rfl (by kernel_rfl) (fun Qd hQd => ?_)
  apply anyI_step 0 rfl (by kernel_rfl)
  focus (intro wI hI Kv hKv; have t0 := (H1.out.frame hI (fun e => by rcases e with e | e; exact HNS.out _ (Nat.le_refl _) e; omega)).cell 0 (v := .int .i64 rule) rfl; have t1 := (H1.out.frame hI (fun e => by rcases e with e | e; exact HNS.out _ (Nat.le_refl _) e; omega)).cell 1 (v := .slice D xs.length f) rfl; have t2 := (HN.out.frame hI (fun e => by rcases e with e | e; exact HNB.out e; omega)).cell 0 (v := numF bb bf bs) rfl; go_simp; exact hKv)
  intro Kd hKd
  go_simp
  refine hKd _ ?_
  clear hKd Kd
  apply anyI_step 2 rfl (by kernel_rfl)
  focus (intro wI hI Kv hKv; have t0 := (H1.out.frame hI (fun e => by rcases e with e | e; exact HNS.out _ (Nat.le_refl _) e; omega)).cell 0 (v := .int .i64 rule) rfl; have t1 := (H1.out.frame hI (fun e => by rcases e with e | e; exact HNS.out _ (Nat.le_refl _) e; omega)).cell 1 (v := .slice D xs.length f) rfl; have t2 := (HN.out.frame hI (fun e => by rcases e with e | e; exact HNB.out e; omega)).cell 0 (v := numF bb bf bs) rfl; go_simp; exact hKv)
  intro Kd hKd
  go_simp
  refine hKd _ ?_
  clear hKd Kd
  apply anyI_step 4 rfl (by kernel_rfl)
  focus (intro wI hI Kv hKv; have t0 := (H1.out.frame hI (fun e => by rcases e with e | e; exact HNS.out _ (Nat.le_refl _) e; omega)).cell 0 (v := .int .i64 rule) rfl; have t1 := (H1.out.frame hI (fun e => by rcases e with e | e; exact HNS.out _ (Nat.le_refl _) e; omega)).cell 1 (v := .slice D xs.length f) rfl; have t2 := (HN.out.frame hI (fun e => by rcases e with e | e; exact HNB.out e; omega)).cell 0 (v := numF bb bf bs) rfl; go_simp; exact hKv)
  intro Kd hKd
  go_simp
  refine hKd _ ?_
  clear hKd Kd
  apply anyI_step 1 rfl (by kernel_rfl)
  focus (intro wI hI Kv hKv; have t0 := (H1.out.frame hI (fun e => by rcases e with e | e; exact HNS.out _ (Nat.le_refl _) e; omega)).cell 0 (v := .int .i64 rule) rfl; have t1 := (H1.out.frame hI (fun e => by rcases e with e | e; exact HNS.out _ (Nat.le_refl _) e; omega)).cell 1 (v := .slice D xs.length f) rfl; have t2 := (HN.out.frame hI (fun e => by rcases e with e | e; exact HNB.out e; omega)).cell 0 (v := numF bb bf bs) rfl; go_simp; exact hKv)
  intro Kd hKd
  go_simp
  refine hKd _ ?_
  clear hKd Kd
  apply anyI_step 3 rfl (by kernel_rfl)
  focus (intro wI hI Kv hKv; have t0 := (H1.out.frame hI (fun e => by rcases e with e | e; exact HNS.out _ (Nat.le_refl _) e; omega)).cell 0 (v := .int .i64 rule) rfl; have t1 := (H1.out.frame hI (fun e => by rcases e with e | e; exact HNS.out _ (Nat.le_refl _) e; omega)).cell 1 (v := .slice D xs.length f) rfl; have t2 := (HN.out.frame hI (fun e => by rcases e with e | e; exact HNB.out e; omega)).cell 0 (v := numF bb bf bs) rfl; go_simp; exact hKv)
  intro Kd hKd
  go_simp
  refine hKd _ ?_
  clear hKd Kd
  have HSD : Hid (NumSt W.drew bm bb bs base l v) := Lib.hid ⟨HST.out.box, HST.out.map, HST.out.cell, HST.out.own⟩
  have HFD : Hid (FstSt W.drew bf bF m) := Lib.hid ⟨HFS.out.cell, HFS.out.row⟩
  have HDD : Hid (Cells W.drew D (ints xs)) := Lib.hid HD.out.drew
  have hsd : W.drew.heap.size = W.heap.size := rfl
  refine anyI_one' 5 rfl (by kernel_rfl) ((Frame.refl _ W).drew) (fun Kd hKd => ?_)
  unfold numF
  go_wp2_with (go_at_call 74; go_must (refine (leach_any bm bb bs base bf bF l v m D f xs W.drew HSD.out HFD.out (by rw [hsd]; omega) hbm hbs hbf hbF hl hm HX.out HDD.out HDW.out).mono ?_); rintro e w4 ⟨A4, c4, rfl, hnew4, v4, hst4, hsep4, hloc4, hF4⟩)
  have hF4' : Frame (fun b => numS bm bs v b ∨ b = w.heap.size + 1) W w4 := (Frame.refl _ W).drew.trans hF4 (fun b _ e => .inl e)
  apply anyI_step 6 rfl (by kernel_rfl)
  focus (intro wI hI Kv hKv; go_simp; exact hKv)
  intro Kd hKd
  go_simp
  refine hKd _ ?_
  clear hKd Kd
  have b4 := H2.out.frame (Frame.refl (numS bm bs v) W).drew (HNS.out _ (by omega))
  have b4 := b4.frame hF4 (HNS.out _ (by omega))
  have y0 := b4.cell 0 (v := .int .i64 0) rfl
  have y1 := b4.cell 1 (v := .slice none 0 0) rfl
  have z0 := b4.free 0
  have z1 := b4.free 1
  refine anyI_one' 7 rfl (by kernel_rfl) (hF4') (fun Kd hKd => ?_)
  have HB4 := Lib.hid b4
  have HS4 := Lib.hid hst4
  have HP4 := Lib.hid hsep4
  have HL4 := Lib.hid hloc4
  clear b4 hst4 hsep4 hloc4
  go_wp2
  have hF5 : Frame (fun b => numS bm bs v b ∨ b = w.heap.size + 1) W ((w4.setCell ⟨w.heap.size + 1, 0, none⟩ (.int .i64 rule)).setCell ⟨w.heap.size + 1, 1, none⟩ (.slice A4 xs.length c4)) := (hF4'.setCell (p := ⟨w.heap.size + 1, 0, none⟩) (.inl (.inr rfl)) _).setCell (p := ⟨w.heap.size + 1, 1, none⟩) (.inl (.inr rfl)) _
  refine anyI_end (by kernel_rfl) (hF5) (hQd _ _ ?_)
  clear hQd Qd
  have b5 : Blk ((w4.setCell ⟨w.heap.size + 1, 0, none⟩ (.int .i64 rule)).setCell ⟨w.heap.size + 1, 1, none⟩ (.slice A4 xs.length c4)) (w.heap.size + 1) (.cells #[.int .i64 rule, .slice A4 xs.length c4] 103) := (HB4.out.set 0 (.int .i64 rule)).set 1 (.slice A4 xs.length c4)
  have hf45 : Frame (fun b => b = w.heap.size + 1) w4 ((w4.setCell ⟨w.heap.size + 1, 0, none⟩ (.int .i64 rule)).setCell ⟨w.heap.size + 1, 1, none⟩ (.slice A4 xs.length c4)) := ((Frame.refl (fun b => b = w.heap.size + 1) w4).setCell (p := ⟨w.heap.size + 1, 0, none⟩) (.inl rfl) _).setCell (p := ⟨w.heap.size + 1, 1, none⟩) (.inl rfl) _
  have hl5 := load103 b5
  go_wp2
  refine bodyPost_ret (v := .agg #[.int .i64 rule, .slice A4 xs.length c4]) (results_c rfl rfl hl5) rfl ⟨A4, c4, rfl, ?_, v4, ?_, HP4.out, ?_, ?_⟩
  · refine ⟨hnew4.1.frame hf45 (fun hn a ha e => ?_), fun a ha => ?_⟩
    · have := hnew4.2 a ha
      rw [hsd] at this
      omega
    · have := hnew4.2 a ha
      rw [hsd] at this
      omega
  · have hv : ∀ g, v4.ownBlock = some g → g ≠ w.heap.size + 1 := by
      intro g hg e
      rcases HL4.out g hg with e2 | e2
      · have := (HOWN.out.lt g e2).2; omega
      · rw [hsd] at e2; omega
    have hbb : bb ≠ w.heap.size + 1 := by
      intro e
      have := HST.out.box
      have h2 := H2.out
      rw [← e] at h2
      exact blk_ne this h2 (by decide) rfl
    exact HS4.out.frame hf45 (by omega) hbb (by omega) hv
  · intro g hg
    rcases HL4.out g hg with e | e
    · exact .inl e
    · rw [hsd] at e
      exact .inr (by omega)
  · have e1 : Frame (numS bm bs v) w w4 := ((Frame.of_all (S := numS bm bs v) HBW.out).drew).trans hF4 (fun _ _ e => e)
    exact (e1.setCell (p := ⟨w.heap.size + 1, 0, none⟩) (.inr (by show w.heap.size ≤ w.heap.size + 1; omega)) _).setCell (p := ⟨w.heap.size + 1, 1, none⟩) (.inr (by show w.heap.size ≤ w.heap.size + 1; omega)) _
end Go.Proofs.Ytlnonadkdonhmaa

/- Contract of Least's each over the acts of a state. -/
namespace Go.Proofs.Ytlnonadkdonhmaa
open Go.RowKit Go.Maps


set_option maxRecDepth 100000 in
set_option maxHeartbeats 8000000 in
theorem lrow_any (n : Int) (rs : List Int) (w0 w1 : World) (bm bb bs bc base bf bF bn : Nat) (l : List Int) (m mo : Mach) (vs vr : Value) (A : Option Addr) (c : Nat) (row : List AAct) (w : World) (M : MSt w1 bm bb bs bc base l mo [] vs (.slice none 0 0) vr w)
    (hN : Blk w bn (.cells #[numF bb bf bs] 110)) (hFs : FstSt w1 bf bF m) (hbf : bf < base) (hbF : bF < base) (hf : formedA n rs m = true) (hR : ActsAt w0 A row) (h0 : w0.heap.size ≤ base) (hB0 : Below w0.heap.size w0 w1) (hrow : RowIn m row) (hrl : row.length ≤ 6) (hnl : ∀ a ∈ row, a.next.length ≤ 64) (hok : HeadsOk m l) :
    Calls Try.prog 111 #[.slice A row.length c, .func (.func 112) #[] #[.pointer (some ⟨bn, 0, none⟩)]] w fun e w' => ∃ A' c', e = .returned (.slice A' row.length c') ∧ (∃ vs', MSt w1 bm bb bs bc base (lactsTo m row l row.length).2 mo (lactsTo m row l row.length).1 vs' (.slice A' row.length c') vr w') ∧ Blk w' bn (.cells #[numF bb bf bs] 110) := by
  have hm64 := (formed_len hf).2
  have HF := Lib.hid hf
  have HOK : Hid (∀ q, (lactsTo m row l q).2.length ≤ 64) := fun q => ((lactsTo_ok hf hrow hok q).sets hm64).len
  have HN := Lib.hid hN
  have HFS := Lib.hid hFs
  have HM := Lib.hid M
  have HB0 := Lib.hid hB0
  have HROW := Lib.hid hrow
  have HNL := Lib.hid hnl
  have hbm := M.lm
  have hbs := M.ls
  have hlw := M.lw
  clear hN hFs M hB0 hrow hnl hok hf
  go_enter Try.func111, Try.ntmps111
  go_wp2
  go_loopw [5, 10] (fun va i wr => ∃ q : Nat, i = .int .i64 q ∧ q ≤ row.length ∧ ∃ vs, MSt w1 bm bb bs bc base (lactsTo m row l q).2 mo (lactsTo m row l q).1 vs va vr wr ∧ Blk wr bn (.cells #[numF bb bf bs] 110)) (fun _ i _ => row.length - (intOf i).toNat)
  case atStart => exact ⟨0, rfl, Nat.zero_le _, vs, HM.out, HN.out⟩
  case round =>
    obtain ⟨q, rfl, hq, vs2, hst, hbn⟩ := hrel
    obtain ⟨acts, l2, HA⟩ : ∃ acts l2, Hid (lactsTo m row l q = (acts, l2)) := ⟨_, _, rfl⟩
    rw [HA.out] at hst
    have hst : MSt w1 bm bb bs bc base l2 mo acts vs2 u5 vr wr := hst
    have HST := Lib.hid hst
    have HBN := Lib.hid hbn
    have hal : acts.length = q := by have e := lactsTo_len (m := m) (row := row) (l := l) q hq; rw [HA.out] at e; exact e
    have hl2 : l2.length ≤ 64 := by have e := HOK.out q; rw [HA.out] at e; exact e
    have hszr := hst.below.size
    clear hst hbn
    by_cases hqt : q < row.length
    · obtain ⟨a, D, d, b, o, hx, hb, hix, hc0, hc1, hD⟩ := acts_at (c := c) hR hqt
      have hBr : Below w0.heap.size w0 wr := HB0.out.trans (HST.out.below.mono h0)
      have k0 := cell_chain hBr hb hc0
      have k1 := hBr.cell (p := ⟨b, o + 1, none⟩) hb
      rw [hc1] at k1
      have hinm : InM m a.next := HROW.out a (List.mem_of_getElem? hx)
      have hal64 : a.next.length ≤ 64 := HNL.out a (List.mem_of_getElem? hx)
      have HX := Lib.hid hx
      obtain ⟨wA, hwA⟩ : ∃ wA, wr.alloc (.cells #[.int .i64 a.rule, .slice D a.next.length d] 103) = wA := ⟨_, rfl⟩
      have hBA : Below wr.heap.size wr wA := by rw [← hwA]; exact (Below.refl _ wr).alloc (Nat.le_refl _) _
      have hwA0 : wA.heap.size = wr.heap.size + 1 := by rw [← hwA]; simp
      have bA : Blk wA wr.heap.size (.cells #[.int .i64 a.rule, .slice D a.next.length d] 103) := by rw [← hwA]; exact Blk.new _ _
      have x0 := bA.cell 0 (v := .int .i64 a.rule) rfl
      have x1 := bA.cell 1 (v := .slice D a.next.length d) rfl
      have MA := Lib.hid (HST.out.later hBA)
      have HBNA := Lib.hid (HBN.out.below hBA HBN.out.lt)
      have HFA : Hid (FstSt wA bf bF m) := HFS.out.below (MA.out.below) hbf hbF
      have HDA : Hid (Cells wA D (ints a.next)) := hD.below (hBr.trans (hBA.mono (by omega))) (Nat.le_refl _)
      have HDW : Hid (ints a.next ≠ [] → ∀ p, D = some p → ¬ numS bm bs vs2 p.block) := by
        intro hn p hp
        have h1 := hD.lt hn hp
        rintro (e | e | e)
        · omega
        · omega
        · have h2 := (MA.out.num.own.lt _ e).1; omega
      have hbA : base ≤ wA.heap.size := by omega
      have HBA := Lib.hid hBA
      have hlla : l2.length + a.next.length ≤ 1000000 := by omega
      have HINM := Lib.hid hinm
      clear hx hD hBr hc0 hc1 hBA bA hinm
      go_wp2_with fail
      refine (lact_any bm bb bs base bf bF bn l2 vs2 m a.rule D d a.next wA MA.out.num HFA.out HBNA.out hbA hbm hbs hbf hbF hlla hm64 HINM.out HDA.out HDW.out).mono ?_
      rintro e w5 ⟨A5, c5, rfl, hn5, vs5, hst5, hsep5, hloc5, hF5⟩
      have M5 := Lib.hid (MA.out.each hF5 hst5 hloc5)
      have hm6 : (foldNum l2 (a.next.map (fsT m))).1.length = a.next.length := by rw [foldNum_len1]; simp
      have hbn5 : Blk w5 bn (.cells #[numF bb bf bs] 110) := HBNA.out.frame hF5 (by
        rintro (e | e | e)
        · exact MA.out.num.map.not_blk HBNA.out e.symm
        · exact blk_ne HBNA.out MA.out.num.cell (by decide) e
        · exact own_ne MA.out.num.own HBNA.out (by decide) e)
      have HBN5 := Lib.hid hbn5
      have HSEP := Lib.hid hsep5
      have HLOC := Lib.hid hloc5
      have hsz5 := hF5.size
      obtain ⟨hs5, hl5, ho5, hc5⟩ := M5.out.acts
      have HC5 := Lib.hid hc5
      have HN5 := Lib.hid hn5
      have hsb5 : base ≤ w5.heap.size := by omega
      clear hst5 hsep5 hloc5 hc5 hn5 hbn5 hF5 x0 x1 k0 k1 hwA
      go_wp2_with (at_builtin; go_must (refine wpList_app1' rAct _ rfl _ _ rfl ho5 rfl [_, _] 1 rfl rfl (by simp [Value.oneCell']) (by omega) (by omega) ?_); intro va6 w6 ho6 hB6 hg6 hloc6)
      go_roundw
      case rel =>
        have hCP : CellsP (fun b => ¬ mutS bm bs bc base vs5 u5 vr b) w5 A5 (ints (foldNum l2 (a.next.map (fsT m))).1) := by
          refine ⟨HN5.out.1, fun _ p hp hs => ?_⟩
          have h1 := HN5.out.2 p hp
          obtain ⟨_, _, ho1, _⟩ := MA.out.mach
          obtain ⟨_, _, ho2, _⟩ := MA.out.acts
          rcases hs with e | e | e | e | e | e | e
          · omega
          · have := MA.out.num.map.lt; omega
          · have := MA.out.num.cell.lt; omega
          · have := MA.out.mc.lt; omega
          · exact HSEP.out p hp e
          · have := (ho2.lt _ e).2; omega
          · have := (ho1.lt _ e).2; omega
        refine ⟨q + 1, by go_num, by omega, vs5, ?_, ?_⟩
        · rw [lactsTo, HX.out]
          simp only
          rw [HA.out]
          exact M5.out.act (a := ⟨a.rule, (foldNum l2 (a.next.map (fsT m))).1⟩) (B := A5) (c := c5) hl5 ho5 HC5.out hCP (by unfold actCells; simp only [hm6]; exact ho6) hg6 hloc6
        · exact HBN5.out.grown hg6 (fun e => own_ne ho5 HBN5.out (by decide) e)
      case measure => simp [intOf]; omega
    · obtain rfl : q = row.length := by omega
      obtain ⟨hs6, hl6, ho6, hc6⟩ := HST.out.acts
      obtain ⟨Aa, ca, rfl⟩ := own_fits ho6
      clear ho6 hc6
      rw [hal]
      go_wp2
      go_ret
      refine ⟨Aa, ca, rfl, ⟨vs2, ?_⟩, HBN.out⟩
      rw [HA.out]
      have e := HST.out
      rw [hal] at e
      exact e
end Go.Proofs.Ytlnonadkdonhmaa

/- Contracts of Least's closure that looks a class up, and each over it. -/
namespace Go.Proofs.Ytlnonadkdonhmaa
open Go.RowKit Go.Maps

set_option maxRecDepth 100000 in
set_option maxHeartbeats 1000000 in
theorem lcls_any (bm bb bs base : Nat) (l : List Int) (v : Value) (x : Int) (w : World) (h : NumSt w bm bb bs base l v) (hx : -9223372036854775808 ≤ x ∧ x ≤ 9223372036854775807) :
    Calls Try.prog 113 #[.int .i64 x, .pointer (some ⟨bb, 0, none⟩)] w fun e w' => e = .returned (.int .i64 (clsN l x)) ∧ w = w' := by
  have hkey : keyOf Try.prog 3 (.int .i64 x) = some (.int .i64 x) := keyOf_int_mk Try.underlying3 (WalkArith.wf_i64 hx)
  have K : Keyed Try.prog 3 := int_keyed Try.underlying3
  have hz : (zeroValue 3).run Try.prog w = .ok (.int .i64 0) w := by kernel_rfl
  have c1 := h.box.cell 0 (v := .map (some bm)) rfl
  by_cases hm : x ∈ l
  · have hrun := h.map.look_yes K Try.underlying108 hkey (numMap_mem hm) true
    simp only [if_true] at hrun
    have HM : Hid (clsN l x = (l.idxOf x : Int)) := by show _ = _; simp [clsN, hm]
    rw [HM.out]
    clear hm hkey hz h
    go_enter Try.func113, Try.ntmps113
    go_wp2
    go_ret
    exact ⟨rfl, rfl⟩
  · have hrun := h.map.look_no K Try.underlying108 hkey (numMap_no hm) hz true
    simp only [if_true] at hrun
    have HM : Hid (clsN l x = -1) := by show _ = _; simp [clsN, hm]
    rw [HM.out]
    clear hm hkey hz h
    go_enter Try.func113, Try.ntmps113
    go_wp2
    go_ret
    exact ⟨rfl, rfl⟩

set_option maxRecDepth 100000 in
set_option maxHeartbeats 2000000 in
theorem leachc_any (bm bb bs base : Nat) (l : List Int) (v : Value) (A : Option Addr) (c : Nat) (xs : List Int) (w : World) (h : NumSt w bm bb bs base l v) (hxl : xs.length ≤ 1000000) (hx : ∀ x ∈ xs, -9223372036854775808 ≤ x ∧ x ≤ 9223372036854775807) (hA : Cells w A (ints xs)) :
    Calls Try.prog 74 #[.slice A xs.length c, .func (.func 113) #[] #[.pointer (some ⟨bb, 0, none⟩)]] w fun e w' => ∃ A' c', e = .returned (.slice A' xs.length c') ∧ New w' w.heap.size A' (ints (xs.map (clsN l))) ∧ Below w.heap.size w w' := by
  have HX := Lib.hid hx
  have H := Lib.hid h
  clear hx h
  go_enter Try.func74, Try.ntmps74
  go_wp2
  go_loopw [5, 10] (fun vo i wr => ∃ k : Nat, k ≤ xs.length ∧ i = .int .i64 k ∧ wr.ownsRow w.heap.size 3 1 vo k (ints ((xs.map (clsN l)).take k)) ∧ Below w.heap.size w wr)
    (fun _ i _ => xs.length - (intOf i).toNat)
  case atStart => exact ⟨0, Nat.zero_le _, rfl, World.ownsRow_nil _ _ _ _, Below.refl _ _⟩
  case round =>
    obtain ⟨k, hk, rfl, hown, hB⟩ := hrel
    have HB := Lib.hid hB
    have hszk := hB.size
    by_cases hlt : k < xs.length
    · obtain ⟨x, b, o, hr, hbx, hix, hc⟩ := ints_at (c := c) (hA.below hB (Nat.le_refl _)) Try.underlying22 szInt hlt
      have hxx := HX.out x (List.mem_of_getElem? hr)
      have HT : Hid ((xs.map (clsN l)).take (k + 1) = (xs.map (clsN l)).take k ++ [clsN l x]) := take_succ_of (by rw [List.getElem?_map, hr]; rfl)
      have HST := Lib.hid (H.out.frame (S := fun _ => False) (Frame.of_all hB) (fun h => h) (fun h => h) (fun h => h) (fun _ _ h => h))
      clear hr
      go_wp2_with (first
        | (go_at_call 113; go_must (refine (lcls_any bm bb bs base l v x wr HST.out hxx).mono ?_); rintro e w1 ⟨rfl, rfl⟩)
        | (at_builtin; go_must (refine wpList_app1' rInt _ rfl _ _ rfl hown rfl [_] 1 rfl rfl (by simp [Value.oneCell']) (by omega) (by omega) ?_); intro vo' w2 hown2 hB2 hg2 hlo2))
      go_roundw
      case rel => exact ⟨k + 1, by omega, by go_num, by rw [HT.out]; simpa [ints] using hown2, HB.out.trans hB2⟩
      case measure => simp [intOf]; omega
    · obtain rfl : k = xs.length := by omega
      have HTA : Hid ((xs.map (clsN l)).take xs.length = xs.map (clsN l)) := by show _ = _; rw [List.take_of_length_le (by simp)]
      go_wp2
      obtain ⟨A', c', rfl, hnew⟩ := own_new hown (by simp [ints]; omega)
      go_ret
      rw [HTA.out] at hnew
      exact ⟨A', c', rfl, hnew, hB⟩

theorem results_ctt {P : Program} {fn : Func} {tmps : Array Value} {w : World} {a b c : Tmp} {t : TypeId} {p : Addr} {v u z : Value} (h : fn.results = #[.cell a t, .tmp b, .tmp c]) (ha : tmps.getD a undef = .pointer (some p)) (hb : tmps.getD b undef = u) (hc : tmps.getD c undef = z) (hl : (loadVar t p).run P w = .ok v w) :
    (results fn tmps).run P w = .ok (.tuple #[v, u, z]) w := by
  simp only [Array.getD_eq_getD_getElem?] at ha hb hc
  simp [results, h, ha, hb, hc, hl, asAddr, Result.andThen]

/-! ### the program's Least, where the machine is not as defined -/
def leastMR (n : Int) (rs : List Int) (m : Mach) : Mach := if formedA n rs m then leastM m else []
def leastCR (n : Int) (rs : List Int) (m : Mach) : List Int := if formedA n rs m then leastC m else []
set_option maxRecDepth 100000 in
set_option maxHeartbeats 4000000 in
theorem Least_no (n : Int) (A : Option Addr) (c : Nat) (rs : List Int) (B : Option Addr) (d : Nat) (m : Mach) (w : World) (hA : Cells w A (ints rs)) (hM : MachAt w B m) (hf : formedA n rs m = false) :
    Calls Try.prog 67 #[.agg #[.int .i64 n, .slice A rs.length c], .agg #[.slice B m.length d]] w fun e w' => e = .returned (.tuple #[.agg #[.slice none 0 0], .slice none 0 0, .int .i64 2]) ∧ Below w.heap.size w w' := by
  obtain ⟨W, hW⟩ : ∃ W, ((w.alloc (.cells #[.int .i64 n, .slice A rs.length c] 24)).alloc (.cells #[.slice B m.length d] 27)).alloc (.cells #[.slice none 0 0] 27) = W := ⟨_, rfl⟩
  have hBW : Below w.heap.size w W := by rw [← hW]; exact (((Below.refl _ w).alloc (Nat.le_refl _) _).alloc (by simp) _).alloc (by simp <;> omega) _
  have hsW : W.heap.size = w.heap.size + 3 := by rw [← hW]; simp
  have b0 : Blk W w.heap.size (.cells #[.int .i64 n, .slice A rs.length c] 24) := by rw [← hW]; exact ((Blk.new _ _).alloc _).alloc _
  have b1 : Blk W (w.heap.size + 1) (.cells #[.slice B m.length d] 27) := by
    rw [← hW]
    have e := (Blk.new (w.alloc (.cells #[.int .i64 n, .slice A rs.length c] 24)) (.cells #[.slice B m.length d] 27)).alloc (.cells #[.slice none 0 0] 27)
    rw [World.size_alloc] at e
    exact e
  have b2 : Blk W (w.heap.size + 2) (.cells #[.slice none 0 0] 27) := by
    rw [← hW]
    have e := Blk.new ((w.alloc (.cells #[.int .i64 n, .slice A rs.length c] 24)).alloc (.cells #[.slice B m.length d] 27)) (.cells #[.slice none 0 0] 27)
    rw [World.size_alloc, World.size_alloc] at e
    exact e
  have HFM : Hid (errI (formedA n rs m) = 2) := by show _ = _; rw [hf]; rfl
  have HBW := Lib.hid hBW
  have H2 := Lib.hid b2
  have c0 := b0.cell 0 (v := .int .i64 n) rfl
  have c1 := b0.cell 1 (v := .slice A rs.length c) rfl
  have c2 := b1.cell 0 (v := .slice B m.length d) rfl
  clear b0 b1 b2 hf hBW
  go_enter Try.func67, Try.ntmps67
  go_wp2_with fail
  clear hW
  refine (Formed_any n A c rs B d m W (hA.below HBW.out (Nat.le_refl _)) (hM.below HBW.out (Nat.le_refl _))).mono ?_
  rintro e w1 ⟨rfl, hB1⟩
  rw [HFM.out]
  have b2 := H2.out.below hB1 (by omega)
  have y0 := b2.cell 0 (v := .slice none 0 0) rfl
  have y1 := b2.free 0
  have HB1 := Lib.hid hB1
  have hl5 : (loadVar 27 ⟨w.heap.size + 2, 0, none⟩).run Try.prog (w1.setCell ⟨w.heap.size + 2, 0, none⟩ (.slice none 0 0)) = .ok (.agg #[.slice none 0 0]) (w1.setCell ⟨w.heap.size + 2, 0, none⟩ (.slice none 0 0)) := by
    have q := (b2.set1 (.slice none 0 0)).cell 0 (v := .slice none 0 0) rfl
    go_simp
  clear hB1 b2 c0 c1 c2
  go_wp2
  refine bodyPost_ret (v := .tuple #[.agg #[.slice none 0 0], .slice none 0 0, .int .i64 2]) (results_ctt rfl rfl rfl rfl hl5) rfl ⟨rfl, ?_⟩
  have e1 := HBW.out.trans (HB1.out.mono (by omega))
  exact e1.setCell (by show w.heap.size ≤ w.heap.size + 2; omega) _
end Go.Proofs.Ytlnonadkdonhmaa

/- Contract: Least of the program. -/
namespace Go.Proofs.Ytlnonadkdonhmaa
open Go.RowKit Go.Maps

def fillL (m : Mach) (k : Nat) (c : Int) : List Int := (firsts m).take k ++ (c :: List.replicate (m.length - k - 1) 0)
def fillK (m : Mach) (k : Nat) : List Int := (firsts m).take k ++ List.replicate (m.length - k) 0
section
variable {m : Mach} {k : Nat}
theorem take_firsts_len (hk : k ≤ m.length) : ((firsts m).take k).length = k := by rw [List.length_take, firsts_len]; omega
theorem fillK_zero (m : Mach) : fillK m 0 = List.replicate m.length 0 := by simp [fillK]
theorem fillK_all (m : Mach) : fillK m m.length = firsts m := by
  unfold fillK
  rw [List.take_of_length_le (by rw [firsts_len]; exact Nat.le_refl _), Nat.sub_self]
  simp
theorem fill_start (hk : k < m.length) : fillK m k = fillL m k 0 := by
  unfold fillK fillL
  rw [show m.length - k = (m.length - k - 1) + 1 by omega, List.replicate_succ]
  simp
theorem fill_get (hk : k < m.length) (c : Int) : (fillL m k c)[k]? = some c := by
  unfold fillL
  rw [List.getElem?_append_right (by rw [take_firsts_len (by omega)]; exact Nat.le_refl _), take_firsts_len (by omega), Nat.sub_self]
  rfl
theorem fill_set (hk : k < m.length) (c v : Int) : (fillL m k c).set k v = fillL m k v := by
  unfold fillL
  rw [List.set_append_right _ _ (by rw [take_firsts_len (by omega)]; exact Nat.le_refl _), take_firsts_len (by omega), Nat.sub_self]
  rfl
theorem fill_done (hk : k < m.length) : fillL m k (firstA m k : Int) = fillK m (k + 1) := by
  unfold fillL fillK
  rw [take_succ_of (firsts_get hk), show m.length - k - 1 = m.length - (k + 1) by omega]
  simp
end

set_option maxRecDepth 100000 in
set_option maxHeartbeats 8000000 in
theorem Least_yes (n : Int) (A : Option Addr) (c : Nat) (rs : List Int) (B : Option Addr) (d : Nat) (m : Mach) (w : World) (hA : Cells w A (ints rs)) (hM : MachAt w B m) (hf : formedA n rs m = true) :
    Calls Try.prog 67 #[.agg #[.int .i64 n, .slice A rs.length c], .agg #[.slice B m.length d]] w fun e w' => ∃ A' c' C' d', e = .returned (.tuple #[.agg #[.slice A' (leastM m).length c'], .slice C' (leastC m).length d', .int .i64 0]) ∧ MachAt w' A' (leastM m) ∧ Cells w' C' (ints (leastC m)) ∧ Below w.heap.size w w' := by
  obtain ⟨hm1, hm64⟩ := formed_len hf
  obtain ⟨W, hW⟩ : ∃ W, ((w.alloc (.cells #[.int .i64 n, .slice A rs.length c] 24)).alloc (.cells #[.slice B m.length d] 27)).alloc (.cells #[.slice none 0 0] 27) = W := ⟨_, rfl⟩
  have hBW : Below w.heap.size w W := by rw [← hW]; exact (((Below.refl _ w).alloc (Nat.le_refl _) _).alloc (by simp) _).alloc (by simp <;> omega) _
  have hsW : W.heap.size = w.heap.size + 3 := by rw [← hW]; simp
  have b0 : Blk W w.heap.size (.cells #[.int .i64 n, .slice A rs.length c] 24) := by rw [← hW]; exact ((Blk.new _ _).alloc _).alloc _
  have b1 : Blk W (w.heap.size + 1) (.cells #[.slice B m.length d] 27) := by
    rw [← hW]
    have e := (Blk.new (w.alloc (.cells #[.int .i64 n, .slice A rs.length c] 24)) (.cells #[.slice B m.length d] 27)).alloc (.cells #[.slice none 0 0] 27)
    rw [World.size_alloc] at e
    exact e
  have b2 : Blk W (w.heap.size + 2) (.cells #[.slice none 0 0] 27) := by
    rw [← hW]
    have e := Blk.new ((w.alloc (.cells #[.int .i64 n, .slice A rs.length c] 24)).alloc (.cells #[.slice B m.length d] 27)) (.cells #[.slice none 0 0] 27)
    rw [World.size_alloc, World.size_alloc] at e
    exact e
  have HFM : Hid (errI (formedA n rs m) = 0) := by show _ = _; rw [hf]; rfl
  have HF := Lib.hid hf
  have HBW := Lib.hid hBW
  have H1 := Lib.hid b1
  have H2 := Lib.hid b2
  have c0 := b0.cell 0 (v := .int .i64 n) rfl
  have c1 := b0.cell 1 (v := .slice A rs.length c) rfl
  have c2 := b1.cell 0 (v := .slice B m.length d) rfl
  obtain ⟨i0, hi, hz0, hz1, hz2⟩ := info_parts info3
  clear b0 b1 b2 hf hBW
  go_enter Try.func67, Try.ntmps67
  go_wp2_with fail
  clear hW
  refine (Formed_any n A c rs B d m W (hA.below HBW.out (Nat.le_refl _)) (hM.below HBW.out (Nat.le_refl _))).mono ?_
  rintro e w1 ⟨rfl, hB1⟩
  rw [HFM.out]
  have HB1 := Lib.hid hB1
  have d2 := (H1.out.below hB1 (by omega)).cell 0 (v := .slice B m.length d) rfl
  have hs1 := hB1.size
  clear hB1 c0 c1 c2
  go_wp2_with fail
  clear d2
  refine (rounds_any n rs B d m w1 (hM.below (HBW.out.trans (HB1.out.mono (by omega))) (Nat.le_refl _)) HF.out).mono ?_
  rintro e w2 ⟨bt, rfl, htb, hbt, hB2⟩
  have HTB := Lib.hid htb
  have HB12 : Hid (Below W.heap.size W w2) := HB1.out.trans (hB2.mono hs1)
  have hs2 := hB2.size
  have hbt2 := htb.lt
  have d2 := (H1.out.below HB12.out (by omega)).cell 0 (v := .slice B m.length d) rfl
  clear htb hB2
  go_wp2_with (at_make; go_must (refine wpList_make_full _ rfl _ _ 22 rfl w2.heap.size 3 i0 (.int .i64 0) 1 Try.underlying22 hi hz0 hz1 .i64 .i64 m.length m.length m.length rfl rfl rfl rfl (by rw [hz2]; omega) (by unfold maxLen; omega) (Nat.le_refl _) ?_); intro w3 ho3 hg3; have hs3 := hg3.size; have d3 := hg3.cell d2 (by simp); have hlt3 : w.heap.size + 1 < w3.heap.size := by omega)
  rw [made_ints] at ho3
  have hbF3 : Blk w3 w2.heap.size (.cells (ints (List.replicate m.length 0)).toArray 3) := own_full ho3
  have hB23 : Below w2.heap.size w2 w3 := (Below.refl _ _).grown hg3 (Nat.le_refl _) (fun k e => by cases e)
  obtain ⟨w4, hw4⟩ : ∃ w4, w3.alloc (.cells #[.slice (some ⟨w2.heap.size, 0, none⟩) m.length m.length] 22) = w4 := ⟨_, rfl⟩
  rw [hw4]
  have HB24 : Hid (Below w2.heap.size w2 w4) := by rw [← hw4]; exact hB23.alloc hs3 _
  have HBF : Hid (Blk w4 w2.heap.size (.cells (ints (List.replicate m.length 0)).toArray 3)) := by rw [← hw4]; exact hbF3.alloc _
  have HBV : Hid (Blk w4 w3.heap.size (.cells #[.slice (some ⟨w2.heap.size, 0, none⟩) m.length m.length] 22)) := by rw [← hw4]; exact Blk.new _ _
  have hs4 : w4.heap.size = w3.heap.size + 1 := by rw [← hw4]; simp
  obtain ⟨bF, hbF⟩ : ∃ bF, w2.heap.size = bF := ⟨_, rfl⟩
  obtain ⟨bf, hbf⟩ : ∃ bf, w3.heap.size = bf := ⟨_, rfl⟩
  have hff : bF < bf := by have := hbF3.lt; omega
  have HT4 : Hid (TblAt w4 bt (roundsA m)) := HTB.out.frame (S := fun _ => False) (Frame.of_all HB24.out) (fun h => h)
  have HB4W : Hid (Below w.heap.size w w4) := (HBW.out.trans (HB12.out.mono (by omega))).trans (HB24.out.mono (by omega))
  have HG4 : Hid (Blk w4 (w.heap.size + 1) (.cells #[.slice B m.length d] 27)) := (H1.out.below HB12.out (by omega)).below HB24.out (by omega)
  have HR4 : Hid (Blk w4 (w.heap.size + 2) (.cells #[.slice none 0 0] 27)) := (H2.out.below HB12.out (by omega)).below HB24.out (by omega)
  have hbtF : bt < bF := by omega
  rw [hbF] at HBF HBV ⊢
  rw [hbf] at HBV hs4 ⊢
  have hwF : w.heap.size + 2 < bF := by omega
  clear hw4 ho3 hg3 hbF3 hB23 d2 d3 hlt3 hs3 hs2 hs1 hbt hbt2 hi hz0 hz1 hz2
  go_loopw [31] (fun i wr => ∃ k : Nat, k ≤ m.length ∧ i = .int .i64 k ∧ Blk wr bF (.cells (ints (fillK m k)).toArray 3) ∧ Frame (fun b => b = bF) w4 wr) (fun i _ => m.length - (intOf i).toNat)
  case atStart => exact ⟨0, Nat.zero_le _, rfl, by rw [fillK_zero]; exact HBF.out, Frame.refl _ _⟩
  case round =>
    obtain ⟨k, hk, rfl, hrow, hF⟩ := hrel
    have HROW := Lib.hid hrow
    have HFr := Lib.hid hF
    clear hrow hF
    by_cases hkt : k < m.length
    · go_wp2
      obtain ⟨wo, rfl⟩ : ∃ wo : World, wo = wr := ⟨_, rfl⟩
      go_loopg [10] k (fun g nv wr => ∃ q : Nat, q + g = k ∧ Blk wr bF (.cells (ints (fillL m k q)).toArray 3) ∧ (∀ j, j < q → tget (roundsA m) (bothI j k) ≠ none) ∧ Frame (fun b => b = bF) w4 wr)
      case atStart => exact ⟨0, by omega, by rw [show ((0 : Nat) : Int) = 0 from rfl, ← fill_start hkt]; exact HROW.out, fun j hj => by omega, HFr.out⟩
      case round =>
        obtain ⟨q, hqg, hrow, hkn, hF⟩ := hrel
        have HROW2 := Lib.hid hrow
        have HKN := Lib.hid hkn
        have HF2 := Lib.hid hF
        have hf2 : bf ≠ bF := by omega
        have v0 := (HBV.out.frame hF hf2).cell 0 (v := .slice (some ⟨bF, 0, none⟩) m.length m.length) rfl
        have v1 := (HBV.out.frame hF hf2).lt
        have r0 := hrow.cell k (ints_get (fill_get hkt (q : Int)))
        have r1 := hrow.lt
        have hix := ix_own (b := bF) (n := m.length) (c := m.length) Try.underlying22 szInt hkt
        have HTr : Hid (TblAt wr bt (roundsA m)) := HT4.out.frame hF (by omega)
        have hszr := hF.size
        clear hrow hkn hF
        by_cases hqk : q < k
        · have hq1 : min (q : Int) (k : Int) = (q : Int) := by omega
          have hq2 : max (q : Int) (k : Int) = (k : Int) := by omega
          have HQ1 := Lib.hid hq1
          have HQ2 := Lib.hid hq2
          have HRG : Hid (rng (q : Int) ∧ rng (k : Int)) := by constructor <;> unfold rng <;> omega
          have HBO : Hid (bothI q k = ((q : Int), (k : Int))) := bothI_lt hqk
          clear hq1 hq2
          cases hget : tget (roundsA m) ((q : Int), (k : Int)) with
          | none =>
            have HGET := Lib.hid hget
            clear hget
            go_wp2_with (go_at_call 85; go_must (refine (both_any q k wr).mono ?_); rintro e w5 ⟨rfl, hB5⟩; rw [HQ1.out, HQ2.out]; have hlk := tbl_look (HTr.out.frame (S := fun _ => False) (Frame.of_all hB5) (fun h => h)) HRG.out.1 HRG.out.2; rw [HGET.out] at hlk; simp only [Option.getD_none, Option.isSome_none] at hlk)
            have HFA : Hid (firstA m k = q) := firstA_of HKN.out (by omega) (.inr (by rw [HBO.out]; exact HGET.out))
            have HF5 : Hid (Frame (fun b => b = bF) w4 w5) := HF2.out.trans (Frame.of_all (S := fun _ => False) hB5) (fun _ _ h => h.elim)
            have HR5 : Hid (Blk w5 bF (.cells (ints (fillK m (k + 1))).toArray 3)) := by
              have e := HROW2.out.below hB5 HROW2.out.lt
              rw [← HFA.out, fill_done hkt] at e
              exact e
            clear hlk
            go_roundw
            case rel => exact ⟨k + 1, by omega, by go_num, HR5.out, HF5.out⟩
            case measure => simp [intOf]; omega
          | some v =>
            have HGET := Lib.hid hget
            clear hget
            go_wp2_with (go_at_call 85; go_must (refine (both_any q k wr).mono ?_); rintro e w5 ⟨rfl, hB5⟩; rw [HQ1.out, HQ2.out]; have hlk := tbl_look (HTr.out.frame (S := fun _ => False) (Frame.of_all hB5) (fun h => h)) HRG.out.1 HRG.out.2; rw [HGET.out] at hlk; simp only [Option.getD_some, Option.isSome_some] at hlk; have hr5 := HROW2.out.below hB5 HROW2.out.lt; have q0 := hr5.cell k (ints_get (fill_get hkt (q : Int))); have q1 := hr5.free k; have q3 := cell_chain hB5 v1 v0; have q4 := hr5.lt; have q5 : bf < w5.heap.size := Nat.lt_of_lt_of_le v1 hB5.size)
            go_roundg (k - (q + 1))
            case measure => omega
            case rel =>
              refine ⟨q + 1, by omega, ?_, ?_, ?_⟩
              · have e := hr5.set k (.int .i64 ((q : Int) + 1))
                rw [ints_set, fill_set hkt] at e
                exact e
              · intro j hj
                by_cases e : j = q
                · subst e
                  rw [HBO.out, HGET.out]
                  exact fun h => by cases h
                · exact HKN.out j (by omega)
              · exact (HF2.out.trans (Frame.of_all (S := fun _ => False) hB5) (fun _ _ h => h.elim)).setCell (p := ⟨bF, k, none⟩) (.inl rfl) _
        · obtain rfl : q = k := by omega
          have HFA : Hid (firstA m q = q) := firstA_of HKN.out (by omega) (.inl rfl)
          have HR5 : Hid (Blk wr bF (.cells (ints (fillK m (q + 1))).toArray 3)) := by
            have e := HROW2.out
            rw [← fill_done hkt, HFA.out]
            exact e
          go_wp2
          go_roundw
          case rel => exact ⟨q + 1, by omega, by go_num, HR5.out, HF2.out⟩
          case measure => simp [intOf]; omega
    · obtain rfl : k = m.length := by omega
      rw [fillK_all] at HROW
      obtain ⟨V, rfl⟩ : ∃ V : World, V = wr := ⟨_, rfl⟩
      have HFS : Hid (FstSt V bf bF m) := Lib.hid ⟨HBV.out.frame HFr.out (by omega), HROW.out⟩
      have HBVW : Hid (Below w.heap.size w V) := HB4W.out.trans (HFr.out.below (B := w.heap.size) (fun b e => by omega) (by omega))
      have HGV : Hid (Blk V (w.heap.size + 1) (.cells #[.slice B m.length d] 27)) := HG4.out.frame HFr.out (by omega)
      have HRV : Hid (Blk V (w.heap.size + 2) (.cells #[.slice none 0 0] 27)) := HR4.out.frame HFr.out (by omega)
      have hsV := HFr.out.size
      have hkey : keyOf Try.prog 3 (.int .i64 0) = some (.int .i64 0) := keyOf_int_mk Try.underlying3 (by decide)
      have K : Keyed Try.prog 3 := int_keyed Try.underlying3
      have hmm := @run_makeMap Try.prog
      obtain ⟨w5, hput, hmap, hgr⟩ := (MapIs.new Try.prog 3 V).put_new K Try.underlying108 hkey (by simp) (v := .int .i64 0)
      have hs5 := hgr.size
      simp only [World.size_alloc] at hs5
      clear K hkey
      go_wp2
      obtain ⟨B0, hB0⟩ : ∃ B0, B0 = V.heap.size := ⟨_, rfl⟩
      have hV5 : Below V.heap.size V w5 := ((Below.refl _ V).alloc (Nat.le_refl _) _).trans ((Frame.of_grown hgr).below (fun b hb => by injection hb with hb; omega) (by simp))
      obtain ⟨w6, hw6⟩ : ∃ w6 : World, w6 = ((((w5.alloc (.cells #[.map (some V.heap.size)] 108)).alloc (.cells #[.int .i64 0] 3)).alloc (.cells #[.slice (some ⟨w5.heap.size + 1, 0, none⟩) 1 1] 22)).alloc (.cells #[numF w5.heap.size bf (w5.heap.size + 2)] 110)).alloc (.cells #[.slice none 0 0] 27) := ⟨_, rfl⟩
      have hw6' := hw6
      unfold numF at hw6'
      have hB56 : Below w5.heap.size w5 w6 := by
        rw [hw6]
        exact (((((Below.refl _ w5).alloc (Nat.le_refl _) _).alloc (by simp) _).alloc (by simp <;> omega) _).alloc (by simp <;> omega) _).alloc (by simp <;> omega) _
      have hs6 : w6.heap.size = w5.heap.size + 5 := by rw [hw6]; simp
      have hB6 : Below V.heap.size V w6 := hV5.trans (hB56.mono (by omega))
      have hst : NumSt w6 V.heap.size w5.heap.size (w5.heap.size + 2) B0 [0] (.slice (some ⟨w5.heap.size + 1, 0, none⟩) 1 1) := by
        rw [hw6]
        refine ⟨((((Blk.new w5 _).alloc _).alloc _).alloc _).alloc _, ((((hmap.alloc _).alloc _).alloc _).alloc _).alloc _, ?_, ?_⟩
        · have e := ((Blk.new ((w5.alloc (.cells #[.map (some V.heap.size)] 108)).alloc (.cells #[.int .i64 0] 3)) (.cells #[.slice (some ⟨w5.heap.size + 1, 0, none⟩) 1 1] 22)).alloc (.cells #[numF w5.heap.size bf (w5.heap.size + 2)] 110)).alloc (.cells #[.slice none 0 0] 27)
          simpa using e
        · have e := (((lit_own (w5.alloc (.cells #[.map (some V.heap.size)] 108)) (.int .i64 0) 3 B0 (by simp <;> omega)).alloc (.cells #[.slice (some ⟨w5.heap.size + 1, 0, none⟩) 1 1] 22)).alloc (.cells #[numF w5.heap.size bf (w5.heap.size + 2)] 110)).alloc (.cells #[.slice none 0 0] 27)
          simpa [ints] using e
      have hbn : Blk w6 (w5.heap.size + 3) (.cells #[numF w5.heap.size bf (w5.heap.size + 2)] 110) := by
        rw [hw6]
        have e := (Blk.new (((w5.alloc (.cells #[.map (some V.heap.size)] 108)).alloc (.cells #[.int .i64 0] 3)).alloc (.cells #[.slice (some ⟨w5.heap.size + 1, 0, none⟩) 1 1] 22)) (.cells #[numF w5.heap.size bf (w5.heap.size + 2)] 110)).alloc (.cells #[.slice none 0 0] 27)
        simpa using e
      have hbc : Blk w6 (w5.heap.size + 4) (.cells #[.slice none 0 0] 27) := by
        rw [hw6]
        have e := Blk.new ((((w5.alloc (.cells #[.map (some V.heap.size)] 108)).alloc (.cells #[.int .i64 0] 3)).alloc (.cells #[.slice (some ⟨w5.heap.size + 1, 0, none⟩) 1 1] 22)).alloc (.cells #[numF w5.heap.size bf (w5.heap.size + 2)] 110)) (.cells #[.slice none 0 0] 27)
        simpa using e
      rw [← hw6']
      have HST : Hid (MSt V V.heap.size w5.heap.size (w5.heap.size + 2) (w5.heap.size + 4) B0 [0] [] [] (.slice (some ⟨w5.heap.size + 1, 0, none⟩) 1 1) (.slice none 0 0) (.slice none 0 0) w6) :=
        Lib.hid ⟨hst, hbc, MachOwn.nil _ _ _, ActsOwn.nil _ _ _, by rw [hB0]; exact hB6, by omega, by omega, by omega, by omega⟩
      have HBN := Lib.hid hbn
      have HLK : Hid (∀ k, (leastTo m k).2.length ≤ 64 ∧ HeadsOk m (leastTo m k).2) := fun k => ⟨((leastTo_ok HF.out k).sets hm64).len, leastTo_ok HF.out k⟩
      have HROWS : Hid (∀ s : Nat, s < m.length → RowIn m (rowM m s) ∧ (rowM m s).length ≤ 6 ∧ ∀ a ∈ rowM m s, a.next.length ≤ 64) := by
        intro s hs
        have h6 := (grpOk_true (formed_grp HF.out)).2.1
        have hl := rowM_len HF.out hs
        refine ⟨rowIn_of HF.out hs, by omega, fun a ha => ?_⟩
        obtain ⟨c, hc⟩ := List.getElem?_of_mem ha
        exact next_len (act_ok HF.out hs hc)
      clear hw6 hw6' hput hmap hgr hst hbn hbc hmm hB6 hB56 hV5
      go_loopw [16] (fun i wr => ∃ k : Nat, i = .int .i64 k ∧ k ≤ (leastTo m k).2.length ∧ (∃ vs vr, MSt V V.heap.size w5.heap.size (w5.heap.size + 2) (w5.heap.size + 4) B0 (leastTo m k).2 (leastTo m k).1 [] vs (.slice none 0 0) vr wr) ∧ Blk wr (w5.heap.size + 3) (.cells #[numF w5.heap.size bf (w5.heap.size + 2)] 110))
        (fun i _ => 64 - (intOf i).toNat)
      case atStart => exact ⟨0, rfl, Nat.zero_le _, ⟨_, _, HST.out⟩, HBN.out⟩
      case round =>
        obtain ⟨k, rfl, hk, ⟨vs, vr, hst⟩, hbn⟩ := hrel
        obtain ⟨mo, l, HM⟩ : ∃ mo l, Hid (leastTo m k = (mo, l)) := ⟨_, _, rfl⟩
        have HOK : Hid (l.length ≤ 64 ∧ HeadsOk m l) := (by
          have e := HLK.out k
          rw [HM.out] at e; exact e)
        have hll := HOK.out.1
        rw [HM.out] at hk hst
        have hk : k ≤ l.length := hk
        have hst : MSt V V.heap.size w5.heap.size (w5.heap.size + 2) (w5.heap.size + 4) B0 l mo [] vs (.slice none 0 0) vr wr := hst
        have HML : Hid (mo.length = k) := (by
          have e := leastTo_len (m := m) (k := k) (by rw [HM.out]; exact hk)
          rw [HM.out] at e; exact e)
        have hml : mo.length ≤ 64 := by rw [HML.out]; omega
        obtain ⟨As, cs, rfl⟩ := own_fits hst.num.own
        obtain ⟨Ar, cr, rfl⟩ := own_fits hst.mach.choose_spec.2.1
        have HST := Lib.hid hst
        have HBN := Lib.hid hbn
        have x1 := hst.num.cell.cell 0 (v := .slice As l.length cs) rfl
        have x2 := hst.mc.cell 0 (v := .slice Ar mo.length cr) rfl
        have x3 := (HGV.out.below hst.below (by omega)).cell 0 (v := .slice B m.length d) rfl
        have x4 := hst.mc.lt
        have x5 := hst.num.cell.lt
        have hszr := hst.below.size
        clear hst hbn
        by_cases hlt : k < l.length
        · obtain ⟨As', cs', hv', hcs⟩ := own_out HST.out.num.own (by simp [ints]; omega)
          obtain ⟨rfl, rfl⟩ : As = As' ∧ cs = cs' := by injection hv' with h1 _ h3; exact ⟨h1, h3⟩
          obtain ⟨s, b, o, hs, hb, hix, hcx⟩ := ints_at (c := cs) hcs Try.underlying22 szInt hlt
          have hsb := (HOK.out.2.all s (List.mem_of_getElem? hs)).1
          obtain ⟨s, rfl⟩ := Int.eq_ofNat_of_zero_le hsb.1
          have hsm : s < m.length := by omega
          obtain ⟨E, f, b2, o2, hb2, hix2, hcx2, hrowA, _, _⟩ := row_at (d := d) hM HF.out hsm
          have HSG : Hid (l[k]? = some (s : Int)) := hs
          have y2 := cell_chain (HBVW.out.trans (HST.out.below.mono (by omega))) hb2 hcx2
          have y3 : b2 < wr.heap.size := by have := (HBVW.out).size; omega
          obtain ⟨acts2, l2, HA⟩ : ∃ acts2 l2, Hid (lactsTo m (rowM m s) l (rowM m s).length = (acts2, l2)) := ⟨_, _, rfl⟩
          have hal : acts2.length = (rowM m s).length := by have e := lactsTo_len (m := m) (row := rowM m s) (l := l) (rowM m s).length (Nat.le_refl _); rw [HA.out] at e; exact e
          have HAL := Lib.hid hal
          have e111 := lrow_any n rs w V V.heap.size w5.heap.size (w5.heap.size + 2) (w5.heap.size + 4) B0 bf bF (w5.heap.size + 3) l m mo (.slice As l.length cs) (.slice Ar mo.length cr) E f (rowM m s) wr.drew (HST.out.later (Below.refl _ wr).drew) HBN.out HFS.out (by omega) (by omega) HF.out hrowA (by omega) HBVW.out (HROWS.out s hsm).1 (HROWS.out s hsm).2.1 (HROWS.out s hsm).2.2 HOK.out.2
          rw [HA.out] at e111
          have H111 := Lib.hid e111
          clear hv' hcs hs hal e111 hrowA hcx2
          go_wp2
          refine drawl (fun w' => w'.cell? ⟨w5.heap.size + 4, 0, none⟩ = some (.slice Ar mo.length cr) ∧ w'.cell? ⟨w.heap.size + 1, 0, none⟩ = some (.slice B m.length d)) 15 15 rfl (by kernel_rfl) (fun Qd hQd => ?_)
          apply anyL_step 0 (by kernel_rfl) rfl (by kernel_rfl)
          focus (intro wI hI Kv hKv; have t1 := hI.1; have t2 := hI.2; go_simp; exact hKv)
          intro Kd hKd
          go_simp
          refine hKd _ ?_
          clear hKd Kd
          apply anyL_step 2 (by kernel_rfl) rfl (by kernel_rfl)
          focus (intro wI hI Kv hKv; have t1 := hI.1; have t2 := hI.2; go_simp; exact hKv)
          intro Kd hKd
          go_simp
          refine hKd _ ?_
          clear hKd Kd
          apply anyL_step 5 (by kernel_rfl) rfl (by kernel_rfl)
          focus (intro wI hI Kv hKv; have t1 := hI.1; have t2 := hI.2; go_simp; exact hKv)
          intro Kd hKd
          go_simp
          refine hKd _ ?_
          clear hKd Kd
          apply anyL_step 10 (by kernel_rfl) rfl (by kernel_rfl)
          focus (intro wI hI Kv hKv; have t1 := hI.1; have t2 := hI.2; go_simp; exact hKv)
          intro Kd hKd
          go_simp
          refine hKd _ ?_
          clear hKd Kd
          apply anyL_step 1 (by kernel_rfl) rfl (by kernel_rfl)
          focus (intro wI hI Kv hKv; have t1 := hI.1; have t2 := hI.2; go_simp; exact hKv)
          intro Kd hKd
          go_simp
          refine hKd _ ?_
          clear hKd Kd
          apply anyL_step 3 (by kernel_rfl) rfl (by kernel_rfl)
          focus (intro wI hI Kv hKv; have t1 := hI.1; have t2 := hI.2; go_simp; exact hKv)
          intro Kd hKd
          go_simp
          refine hKd _ ?_
          clear hKd Kd
          refine anyL_one 4 rfl (by kernel_rfl) (⟨x2, x3⟩) (fun Kd hKd => ?_)
          go_wp2
          refine anyL_one 6 rfl (by kernel_rfl) (⟨x2, x3⟩) (fun Kd hKd => ?_)
          go_wp2
          refine anyL_one 7 rfl (by kernel_rfl) (⟨x2, x3⟩) (fun Kd hKd => ?_)
          go_wp2
          refine anyL_one 8 rfl (by kernel_rfl) (⟨x2, x3⟩) (fun Kd hKd => ?_)
          go_wp2
          refine anyL_one 9 rfl (by kernel_rfl) (⟨x2, x3⟩) (fun Kd hKd => ?_)
          go_wp2
          refine anyL_one 11 rfl (by kernel_rfl) (⟨x2, x3⟩) (fun Kd hKd => ?_)
          go_wp2_with fail
          refine H111.out.mono ?_
          rintro e w7 ⟨A7, c7, rfl, ⟨vs7, M7⟩, hbn7⟩
          have M7' := Lib.hid M7
          have HBN7 := Lib.hid hbn7
          have z2 := M7.mc.cell 0 (v := .slice Ar mo.length cr) rfl
          have z3 := (HGV.out.below M7.below (by omega)).cell 0 (v := .slice B m.length d) rfl
          have z4 := M7.mc.lt
          have hsz7 := M7.below.size
          have z5 : w.heap.size + 1 < w7.heap.size := by omega
          obtain ⟨hs7, hl7, ho7, hc7⟩ := M7.mach
          have HC7 := Lib.hid hc7
          have hb7 : B0 ≤ w7.heap.size := by omega
          clear M7 hbn7 hc7 x1 x2 x3 x4 y2 y3 hix2 hix hcx hb2 hb hsz7
          go_wp2
          refine anyL_one 12 rfl (by kernel_rfl) (⟨z2, z3⟩) (fun Kd hKd => ?_)
          go_wp2
          refine anyL_one 13 rfl (by kernel_rfl) (⟨by go_simp, by go_simp⟩) (fun Kd hKd => ?_)
          go_wp2_with (at_builtin; go_must (refine wpList_app1' rRow _ rfl _ _ rfl ho7 rfl [_] 1 rfl rfl (by simp [Value.oneCell']) (by omega) (by omega) ?_); intro vr8 w8 ho8 hB8 hg8 hloc8)
          obtain ⟨g8, cap8, rfl⟩ := ownsRow_succ ho8
          have b8 := M7'.out.mc.grown hg8 (own_ne ho7 M7'.out.mc (by decide))
          have e2 := b8.cell 0 (v := .slice Ar mo.length cr) rfl
          have e3 := b8.free 0
          have e4 := b8.lt
          have e5 := hg8.cell z3 (by intro e; have := (ho7.lt (w.heap.size + 1) e.symm).1; omega)
          have HG8 := Lib.hid hg8
          have HO8 := Lib.hid ho8
          have HLOC8 := Lib.hid hloc8
          clear ho8 hB8 hg8 hloc8
          apply anyL_step 14 (by kernel_rfl) rfl (by kernel_rfl)
          focus (intro wI hI Kv hKv; go_simp; exact hKv)
          intro Kd hKd
          go_simp
          refine hKd _ ?_
          clear hKd Kd
          refine anyL_end rfl (by kernel_rfl) (⟨e2, e5⟩) (fun Kd hKd => ?_)
          go_wp2
          go_roundw
          case rel =>
            have MR := M7'.out
            rw [← HAL.out] at MR
            have R := MR.row hl7 ho7 (by rw [HAL.out]; exact HC7.out) (by unfold rowCell; simp only [HAL.out]; exact HO8.out) HG8.out HLOC8.out (by rw [HAL.out]; have := (HROWS.out s hsm).2.1; omega)
            have hstep : leastTo m (k + 1) = (mo ++ [acts2], l2) := by
              rw [leastTo_step (by rw [HM.out]; exact HSG.out), HM.out, Int.toNat_natCast, HA.out]
            refine ⟨k + 1, by go_num, ?_, ⟨vs7, .slice (some ⟨g8, 0, none⟩) (mo.length + 1) cap8, ?_⟩, ?_⟩
            · rw [hstep]
              have e := (lactsTo_pre (m := m) (rowM m s) l (rowM m s).length).length_le
              rw [HA.out] at e
              simp only at e ⊢
              omega
            · rw [hstep]
              exact R
            · exact (HBN7.out.grown HG8.out (fun e => own_ne ho7 HBN7.out (by decide) e)).far (fun e => by simp at e) _
          case measure => simp [intOf]; omega
        · have hkl : k = l.length := by omega
          have HD64 : Hid (leastTo m 64 = (mo, l)) := by
            show _ = _
            rw [leastTo_done (m := m) (k := k) (by omega) (by rw [HM.out]; simp only; omega), HM.out]
          have HLM : Hid (leastM m = mo) := by show _ = _; unfold leastM; rw [HD64.out]
          have HLC : Hid (leastC m = (firsts m).map (clsN l)) := by
            show _ = _
            unfold leastC leastH firsts
            rw [HD64.out, List.map_map]
            rfl
          have v0 := (HFS.out.cell.below HST.out.below (by omega)).cell 0 (v := .slice (some ⟨bF, 0, none⟩) m.length m.length) rfl
          have v1 := (HFS.out.cell.below HST.out.below (by omega)).lt
          have HFR : Hid (Blk wr bF (.cells (ints (firsts m)).toArray 3)) := HFS.out.row.below HST.out.below (by omega)
          have e74 := leachc_any V.heap.size w5.heap.size (w5.heap.size + 2) B0 l (.slice As l.length cs) (some ⟨bF, 0, none⟩) m.length (firsts m) wr.drew (HST.out.later (Below.refl _ wr).drew).num (by rw [firsts_len]; omega) (fun x hx => by
            obtain ⟨y, hy, rfl⟩ := List.mem_map.1 hx
            have h1 := firstA_le m y
            have h2 := List.mem_range.1 hy
            omega) (blk_cells (w := wr.drew) HFR.out (by rw [show (ints (firsts m)).length = (firsts m).length by simp [ints], firsts_len]; omega))
          rw [firsts_len] at e74
          have H74 := Lib.hid e74
          clear hkl e74
          go_wp2
          refine draw (fun w' => w'.cell? ⟨w5.heap.size + 4, 0, none⟩ = some (.slice Ar mo.length cr) ∧ w'.cell? ⟨bf, 0, none⟩ = some (.slice (some ⟨bF, 0, none⟩) m.length m.length)) 7 rfl (by kernel_rfl) (fun Qd hQd => ?_)
          apply anyI_step 0 rfl (by kernel_rfl)
          focus (intro wI hI Kv hKv; have t1 := hI.1; have t2 := hI.2; go_simp; exact hKv)
          intro Kd hKd
          go_simp
          refine hKd _ ?_
          clear hKd Kd
          apply anyI_step 1 rfl (by kernel_rfl)
          focus (intro wI hI Kv hKv; have t1 := hI.1; have t2 := hI.2; go_simp; exact hKv)
          intro Kd hKd
          go_simp
          refine hKd _ ?_
          clear hKd Kd
          apply anyI_step 2 rfl (by kernel_rfl)
          focus (intro wI hI Kv hKv; have t1 := hI.1; have t2 := hI.2; go_simp; exact hKv)
          intro Kd hKd
          go_simp
          refine hKd _ ?_
          clear hKd Kd
          refine anyI_one' 3 rfl (by kernel_rfl) (⟨x2, v0⟩) (fun Kd hKd => ?_)
          go_wp2_with fail
          refine H74.out.mono ?_
          rintro e w7 ⟨C7, c7, rfl, hn7, hB7⟩
          have HN7 := Lib.hid hn7
          have hB7 : Below wr.heap.size wr w7 := (Below.refl _ wr).drew.trans hB7
          have HB7 := Lib.hid hB7
          have z2 := cell_chain hB7 x4 x2
          have z3 := cell_chain hB7 v1 v0
          have b7 := (HRV.out.below HST.out.below (by omega)).below (B := wr.heap.size) hB7 (by omega)
          have z4 := b7.cell 0 (v := .slice none 0 0) rfl
          have z5 := b7.free 0
          have z6 := b7.lt
          have HB27 := Lib.hid b7
          clear hn7 hB7 b7 x1 x2 x3 x4 x5 v0 v1
          go_wp2
          refine anyI_one' 4 rfl (by kernel_rfl) (⟨z2, z3⟩) (fun Kd hKd => ?_)
          go_wp2
          apply anyI_step 5 rfl (by kernel_rfl)
          focus (intro wI hI Kv hKv; go_simp; exact hKv)
          intro Kd hKd
          go_simp
          refine hKd _ ?_
          clear hKd Kd
          apply anyI_step 6 rfl (by kernel_rfl)
          focus (intro wI hI Kv hKv; go_simp; exact hKv)
          intro Kd hKd
          go_simp
          refine hKd _ ?_
          clear hKd Kd
          refine anyI_end (by kernel_rfl) (⟨by go_simp, by go_simp⟩) (hQd _ _ ?_)
          clear hQd Qd
          obtain ⟨X, hX⟩ : ∃ X, w7.setCell ⟨w.heap.size + 2, 0, none⟩ (.slice Ar mo.length cr) = X := ⟨_, rfl⟩
          have hF : Frame (fun b => b = w.heap.size + 2) wr X := by
            rw [← hX]
            exact (Frame.of_all (S := fun b => b = w.heap.size + 2) HB7.out).setCell (p := ⟨w.heap.size + 2, 0, none⟩) (.inl rfl) _
          have hF7 : Frame (fun b => b = w.heap.size + 2) w7 X := by
            rw [← hX]
            exact (Frame.refl (fun b => b = w.heap.size + 2) w7).setCell (p := ⟨w.heap.size + 2, 0, none⟩) (.inl rfl) _
          have bX : Blk X (w.heap.size + 2) (.cells #[.slice Ar mo.length cr] 27) := by rw [← hX]; exact HB27.out.set1 _
          have q0 := bX.cell 0 (v := .slice Ar mo.length cr) rfl
          have hl5 : (loadVar 27 ⟨w.heap.size + 2, 0, none⟩).run Try.prog X = .ok (.agg #[.slice Ar mo.length cr]) X := by go_simp
          rw [hX]
          clear hX q0
          go_wp2
          rw [HLM.out, HLC.out]
          refine bodyPost_ret (v := .tuple #[.agg #[.slice Ar mo.length cr], .slice C7 m.length c7, .int .i64 0]) (results_ctt rfl rfl rfl rfl hl5) rfl ?_
          obtain ⟨A', c', hv, hMo⟩ := (HST.out.mach.move hF (fun b _ hn e => hn (.inl (by omega))) (fun _ _ h => h) (fun g hg e => by have := (HST.out.mach.choose_spec.2.1.lt g hg).1; omega)).out (by omega)
          obtain ⟨rfl, rfl⟩ : Ar = A' ∧ cr = c' := by injection hv with h1 _ h3; exact ⟨h1, h3⟩
          refine ⟨Ar, cr, C7, c7, by rw [List.length_map, firsts_len], hMo, HN7.out.1.frame hF7 (fun _ a ha e => ?_), ?_⟩
          · have := HN7.out.2 a ha
            have hh : wr.drew.heap.size = wr.heap.size := rfl
            omega
          · exact HBVW.out.trans ((HST.out.below.mono (by omega)).trans (hF.below (fun b e => by omega) (by omega)))

theorem Least_any (n : Int) (A : Option Addr) (c : Nat) (rs : List Int) (B : Option Addr) (d : Nat) (m : Mach) (w : World) (hA : Cells w A (ints rs)) (hM : MachAt w B m) :
    Calls Try.prog 67 #[.agg #[.int .i64 n, .slice A rs.length c], .agg #[.slice B m.length d]] w fun e w' => ∃ A' c' C' d', e = .returned (.tuple #[.agg #[.slice A' (leastMR n rs m).length c'], .slice C' (leastCR n rs m).length d', .int .i64 (errI (formedA n rs m))]) ∧ MachAt w' A' (leastMR n rs m) ∧ Cells w' C' (ints (leastCR n rs m)) ∧ Below w.heap.size w w' := by
  cases hf : formedA n rs m with
  | true =>
    have e1 : leastMR n rs m = leastM m := by unfold leastMR; rw [hf]; rfl
    have e2 : leastCR n rs m = leastC m := by unfold leastCR; rw [hf]; rfl
    rw [e1, e2]
    exact Least_yes n A c rs B d m w hA hM hf
  | false =>
    have e1 : leastMR n rs m = [] := by unfold leastMR; rw [hf]; rfl
    have e2 : leastCR n rs m = [] := by unfold leastCR; rw [hf]; rfl
    rw [e1, e2]
    exact (Least_no n A c rs B d m w hA hM hf).mono fun e w' ⟨h1, h2⟩ => ⟨none, 0, none, 0, h1, ⟨[], rfl, Cells.nil _ _, by simp⟩, Cells.nil _ _, h2⟩
end Go.Proofs.Ytlnonadkdonhmaa
