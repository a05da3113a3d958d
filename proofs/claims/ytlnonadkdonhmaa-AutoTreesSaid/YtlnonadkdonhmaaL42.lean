/- Contracts and lemmas that a claim of this seat uses. -/
import Derived.Test.YtlnonadkdonhmaaL41
import Derived.Test.YtlnonadkdonhmaaL39

/- Contract of depth. -/
namespace Go.Proofs.Ytlnonadkdonhmaa
open Go.RowKit Go.Maps

set_option maxRecDepth 100000 in
set_option maxHeartbeats 8000000 in
theorem depth_step (rs : List Int) (n : Nat) (hn : n ≤ 6) (hr : rulesB n rs) (hrl : rs.length ≤ 10) (first : Bool) (bp : Nat) (A : Option Addr) (c : Nat) (O : Option Addr) (oc : Nat) (bs : List Nat) (v : Value) (f : Nat) (IH : Hid (DepthIH rs n first bp A c O oc bs v f)) :
    DepthIH rs n first bp A c O oc bs v (f + 1) := by
  intro known has M w hu hk hh hP
  obtain ⟨i, rfl⟩ := Int.eq_ofNat_of_zero_le hk.1
  obtain ⟨k, rfl⟩ := Int.eq_ofNat_of_zero_le hh.1
  have hi : i < 2 ^ n := by have := hk.2; exact_mod_cast this
  have hki : k < 2 ^ n := by have := hh.2; exact_mod_cast this
  have h64 : 2 ^ n ≤ 2 ^ 6 := Nat.pow_le_pow_right (by decide) hn
  have HK := Lib.hid hk
  have HH := Lib.hid hh
  have hkb := hk.isB hn
  have hhb := hh.isB hn
  have HP := Lib.hid hP
  have HNB : Hid (bp ∉ bs) := hP.p.bp_not
  have hbA : bAll rs := fun r hm => by
    have h1 := goodR_lt (hr r hm)
    have h2 : (2 : Int) ^ n ≤ 64 := by exact_mod_cast h64
    exact ⟨by omega, by omega⟩
  have hdl := decd_leaf (first := first) hbA hkb hhb
  clear hbA hk hh hP
  cases hl : leafA rs first (i : Int) (k : Int) with
  | mk r bl =>
    rw [hl] at hdl
    cases bl with
    | true =>
      have HPL : Hid (planA rs n first (i : Int) (k : Int) = ⟨0, -1, r⟩) := planA_leaf hl
      have HD : Hid ((decdA rs (i : Int) (k : Int) first).2 = true) := hdl.1
      clear hl hdl
      have g0 := HP.out.p.box.cell 0 (v := .int .i64 (n : Int)) rfl
      have g1 := HP.out.p.box.cell 1 (v := .slice A rs.length c) rfl
      have g2 := HP.out.p.box.cell 2 (v := .bool first) rfl
      have lbp := HP.out.p.box.lt
      go_enter Try.func109, Try.ntmps109
      go_wp2
      refine draw (fun w' => Below w.heap.size w w') 16 rfl (by kernel_rfl) (fun Qd hQd => ?_)
      apply anyI_step 0 rfl (by kernel_rfl)
      focus (intro wI hI Kv hKv; have t0 := cell_chain hI lbp g0; have t1 := cell_chain hI lbp g1; have t2 := cell_chain hI lbp g2; go_simp; exact hKv)
      intro Kd hKd
      go_simp
      refine hKd _ ?_
      clear hKd Kd
      apply anyI_step 4 rfl (by kernel_rfl)
      focus (intro wI hI Kv hKv; have t0 := cell_chain hI lbp g0; have t1 := cell_chain hI lbp g1; have t2 := cell_chain hI lbp g2; go_simp; exact hKv)
      intro Kd hKd
      go_simp
      refine hKd _ ?_
      clear hKd Kd
      apply anyI_step 5 rfl (by kernel_rfl)
      focus (intro wI hI Kv hKv; have t0 := cell_chain hI lbp g0; have t1 := cell_chain hI lbp g1; have t2 := cell_chain hI lbp g2; go_simp; exact hKv)
      intro Kd hKd
      go_simp
      refine hKd _ ?_
      clear hKd Kd
      apply anyI_step 6 rfl (by kernel_rfl)
      focus (intro wI hI Kv hKv; have t0 := cell_chain hI lbp g0; have t1 := cell_chain hI lbp g1; have t2 := cell_chain hI lbp g2; go_simp; exact hKv)
      intro Kd hKd
      go_simp
      refine hKd _ ?_
      clear hKd Kd
      apply anyI_step 1 rfl (by kernel_rfl)
      focus (intro wI hI Kv hKv; have t0 := cell_chain hI lbp g0; have t1 := cell_chain hI lbp g1; have t2 := cell_chain hI lbp g2; go_simp; exact hKv)
      intro Kd hKd
      go_simp
      refine hKd _ ?_
      clear hKd Kd
      apply anyI_step 7 rfl (by kernel_rfl)
      focus (intro wI hI Kv hKv; have t0 := cell_chain hI lbp g0; have t1 := cell_chain hI lbp g1; have t2 := cell_chain hI lbp g2; go_simp; exact hKv)
      intro Kd hKd
      go_simp
      refine hKd _ ?_
      clear hKd Kd
      apply anyI_step 2 rfl (by kernel_rfl)
      focus (intro wI hI Kv hKv; have t0 := cell_chain hI lbp g0; have t1 := cell_chain hI lbp g1; have t2 := cell_chain hI lbp g2; go_simp; exact hKv)
      intro Kd hKd
      go_simp
      refine hKd _ ?_
      clear hKd Kd
      apply anyI_step 8 rfl (by kernel_rfl)
      focus (intro wI hI Kv hKv; have t0 := cell_chain hI lbp g0; have t1 := cell_chain hI lbp g1; have t2 := cell_chain hI lbp g2; go_simp; exact hKv)
      intro Kd hKd
      go_simp
      refine hKd _ ?_
      clear hKd Kd
      apply anyI_step 3 rfl (by kernel_rfl)
      focus (intro wI hI Kv hKv; have t0 := cell_chain hI lbp g0; have t1 := cell_chain hI lbp g1; have t2 := cell_chain hI lbp g2; go_simp; exact hKv)
      intro Kd hKd
      go_simp
      refine hKd _ ?_
      clear hKd Kd
      apply anyI_step 9 rfl (by kernel_rfl)
      focus (intro wI hI Kv hKv; have t0 := cell_chain hI lbp g0; have t1 := cell_chain hI lbp g1; have t2 := cell_chain hI lbp g2; go_simp; exact hKv)
      intro Kd hKd
      go_simp
      refine hKd _ ?_
      clear hKd Kd
      refine anyI_one' 10 rfl (by kernel_rfl) ((Below.refl _ _).drew) (fun Kd hKd => ?_)
      go_wp2_with (go_at_call 122; go_must (refine (Decided_any n A c rs i k first _ (HP.out.p.r.below (Below.refl _ w).drew (Nat.le_refl _)) hrl).mono ?_); rintro e w1 ⟨rfl, hB1⟩; rw [HD.out])
      have HB1 : Hid (Below w.heap.size w w1) := (Below.refl _ w).drew.trans hB1
      clear hB1 g0 g1 g2
      apply anyI_step 11 rfl (by kernel_rfl)
      focus (intro wI hI Kv hKv; go_simp; exact hKv)
      intro Kd hKd
      go_simp
      refine hKd _ ?_
      clear hKd Kd
      apply anyI_step 12 rfl (by kernel_rfl)
      focus (intro wI hI Kv hKv; go_simp; exact hKv)
      intro Kd hKd
      go_simp
      refine hKd _ ?_
      clear hKd Kd
      apply anyI_step 13 rfl (by kernel_rfl)
      focus (intro wI hI Kv hKv; go_simp; exact hKv)
      intro Kd hKd
      go_simp
      refine hKd _ ?_
      clear hKd Kd
      apply anyI_step 14 rfl (by kernel_rfl)
      focus (intro wI hI Kv hKv; go_simp; exact hKv)
      intro Kd hKd
      go_simp
      refine hKd _ ?_
      clear hKd Kd
      apply anyI_step 15 rfl (by kernel_rfl)
      focus (intro wI hI Kv hKv; go_simp; exact hKv)
      intro Kd hKd
      go_simp
      refine hKd _ ?_
      clear hKd Kd
      refine anyI_end (by kernel_rfl) (HB1.out) (hQd _ _ ?_)
      clear hQd Qd
      go_wp2
      go_ret
      rw [HPL.out]
      exact ⟨rfl, ⟨M, HP.out.p.below HB1.out, HP.out.m⟩, Frame.of_all HB1.out⟩
    | false =>
      have HD : Hid ((decdA rs (i : Int) (k : Int) first).2 = false) := hdl.1
      clear hdl
      have g0 := HP.out.p.box.cell 0 (v := .int .i64 (n : Int)) rfl
      have g1 := HP.out.p.box.cell 1 (v := .slice A rs.length c) rfl
      have g2 := HP.out.p.box.cell 2 (v := .bool first) rfl
      have lbp := HP.out.p.box.lt
      go_enter Try.func109, Try.ntmps109
      go_wp2
      refine draw (fun w' => Below w.heap.size w w') 16 rfl (by kernel_rfl) (fun Qd hQd => ?_)
      apply anyI_step 0 rfl (by kernel_rfl)
      focus (intro wI hI Kv hKv; have t0 := cell_chain hI lbp g0; have t1 := cell_chain hI lbp g1; have t2 := cell_chain hI lbp g2; go_simp; exact hKv)
      intro Kd hKd
      go_simp
      refine hKd _ ?_
      clear hKd Kd
      apply anyI_step 4 rfl (by kernel_rfl)
      focus (intro wI hI Kv hKv; have t0 := cell_chain hI lbp g0; have t1 := cell_chain hI lbp g1; have t2 := cell_chain hI lbp g2; go_simp; exact hKv)
      intro Kd hKd
      go_simp
      refine hKd _ ?_
      clear hKd Kd
      apply anyI_step 5 rfl (by kernel_rfl)
      focus (intro wI hI Kv hKv; have t0 := cell_chain hI lbp g0; have t1 := cell_chain hI lbp g1; have t2 := cell_chain hI lbp g2; go_simp; exact hKv)
      intro Kd hKd
      go_simp
      refine hKd _ ?_
      clear hKd Kd
      apply anyI_step 6 rfl (by kernel_rfl)
      focus (intro wI hI Kv hKv; have t0 := cell_chain hI lbp g0; have t1 := cell_chain hI lbp g1; have t2 := cell_chain hI lbp g2; go_simp; exact hKv)
      intro Kd hKd
      go_simp
      refine hKd _ ?_
      clear hKd Kd
      apply anyI_step 1 rfl (by kernel_rfl)
      focus (intro wI hI Kv hKv; have t0 := cell_chain hI lbp g0; have t1 := cell_chain hI lbp g1; have t2 := cell_chain hI lbp g2; go_simp; exact hKv)
      intro Kd hKd
      go_simp
      refine hKd _ ?_
      clear hKd Kd
      apply anyI_step 7 rfl (by kernel_rfl)
      focus (intro wI hI Kv hKv; have t0 := cell_chain hI lbp g0; have t1 := cell_chain hI lbp g1; have t2 := cell_chain hI lbp g2; go_simp; exact hKv)
      intro Kd hKd
      go_simp
      refine hKd _ ?_
      clear hKd Kd
      apply anyI_step 2 rfl (by kernel_rfl)
      focus (intro wI hI Kv hKv; have t0 := cell_chain hI lbp g0; have t1 := cell_chain hI lbp g1; have t2 := cell_chain hI lbp g2; go_simp; exact hKv)
      intro Kd hKd
      go_simp
      refine hKd _ ?_
      clear hKd Kd
      apply anyI_step 8 rfl (by kernel_rfl)
      focus (intro wI hI Kv hKv; have t0 := cell_chain hI lbp g0; have t1 := cell_chain hI lbp g1; have t2 := cell_chain hI lbp g2; go_simp; exact hKv)
      intro Kd hKd
      go_simp
      refine hKd _ ?_
      clear hKd Kd
      apply anyI_step 3 rfl (by kernel_rfl)
      focus (intro wI hI Kv hKv; have t0 := cell_chain hI lbp g0; have t1 := cell_chain hI lbp g1; have t2 := cell_chain hI lbp g2; go_simp; exact hKv)
      intro Kd hKd
      go_simp
      refine hKd _ ?_
      clear hKd Kd
      apply anyI_step 9 rfl (by kernel_rfl)
      focus (intro wI hI Kv hKv; have t0 := cell_chain hI lbp g0; have t1 := cell_chain hI lbp g1; have t2 := cell_chain hI lbp g2; go_simp; exact hKv)
      intro Kd hKd
      go_simp
      refine hKd _ ?_
      clear hKd Kd
      refine anyI_one' 10 rfl (by kernel_rfl) ((Below.refl _ _).drew) (fun Kd hKd => ?_)
      go_wp2_with (go_at_call 122; go_must (refine (Decided_any n A c rs i k first _ (HP.out.p.r.below (Below.refl _ w).drew (Nat.le_refl _)) hrl).mono ?_); rintro e w1 ⟨rfl, hB1⟩; rw [HD.out])
      have HB1 : Hid (Below w.heap.size w w1) := (Below.refl _ w).drew.trans hB1
      clear hB1 g0 g1 g2
      apply anyI_step 11 rfl (by kernel_rfl)
      focus (intro wI hI Kv hKv; go_simp; exact hKv)
      intro Kd hKd
      go_simp
      refine hKd _ ?_
      clear hKd Kd
      apply anyI_step 12 rfl (by kernel_rfl)
      focus (intro wI hI Kv hKv; go_simp; exact hKv)
      intro Kd hKd
      go_simp
      refine hKd _ ?_
      clear hKd Kd
      apply anyI_step 13 rfl (by kernel_rfl)
      focus (intro wI hI Kv hKv; go_simp; exact hKv)
      intro Kd hKd
      go_simp
      refine hKd _ ?_
      clear hKd Kd
      apply anyI_step 14 rfl (by kernel_rfl)
      focus (intro wI hI Kv hKv; go_simp; exact hKv)
      intro Kd hKd
      go_simp
      refine hKd _ ?_
      clear hKd Kd
      apply anyI_step 15 rfl (by kernel_rfl)
      focus (intro wI hI Kv hKv; go_simp; exact hKv)
      intro Kd hKd
      go_simp
      refine hKd _ ?_
      clear hKd Kd
      refine anyI_end (by kernel_rfl) (HB1.out) (hQd _ _ ?_)
      clear hQd Qd
      have HP1 : Hid (Pw w1 bp n A c rs first O oc bs M v) := HP.out.p.below HB1.out
      obtain ⟨bO, oO, b, hb, hn1, hn2, hlO, hlb, hix, hcO, hix2, hc2, hf2⟩ := HP1.out.at_ hi hki
      have HBI := Lib.hid hb
      have hbm := List.mem_of_getElem? hb
      have HBM := Lib.hid hbm
      have g3 := HP1.out.box.cell 3 (v := .slice O bs.length oc) rfl
      have lb1 := HP1.out.box.lt
      have HM := Lib.hid (HP.out.m i k hi hki)
      obtain ⟨d, HDP⟩ : ∃ d, Hid ((planA rs n first (i : Int) (k : Int)).depth = d) := ⟨_, rfl⟩
      have hdb := planA_bd rs n first (i : Int) (k : Int)
      rw [HDP.out] at hdb
      have HL := Lib.hid hl
      clear hl hb hbm
      rcases Int.lt_or_le (M i k) 0 with h0 | h0
      · have q0 : decide (M i k < 0) = true := decide_eq_true h0
        obtain ⟨x, HX⟩ : ∃ x, Hid (M i k = x) := ⟨_, rfl⟩
        rw [HX.out] at q0 hc2 h0
        go_wp2
        refine draw (fun w' => Frame (fun y => y ∈ bs) w1 w') 17 rfl (by kernel_rfl) (fun Qd hQd => ?_)
        apply anyI_step 0 rfl (by kernel_rfl)
        focus (intro wI hI Kv hKv; have t3 := cell_frame hI lb1 HNB.out g3; have t4 := cell_frame hI hlO hn2 hcO; go_simp; exact hKv)
        intro Kd hKd
        go_simp
        refine hKd _ ?_
        clear hKd Kd
        apply anyI_step 4 rfl (by kernel_rfl)
        focus (intro wI hI Kv hKv; have t3 := cell_frame hI lb1 HNB.out g3; have t4 := cell_frame hI hlO hn2 hcO; go_simp; exact hKv)
        intro Kd hKd
        go_simp
        refine hKd _ ?_
        clear hKd Kd
        apply anyI_step 7 rfl (by kernel_rfl)
        focus (intro wI hI Kv hKv; have t3 := cell_frame hI lb1 HNB.out g3; have t4 := cell_frame hI hlO hn2 hcO; go_simp; exact hKv)
        intro Kd hKd
        go_simp
        refine hKd _ ?_
        clear hKd Kd
        apply anyI_step 8 rfl (by kernel_rfl)
        focus (intro wI hI Kv hKv; have t3 := cell_frame hI lb1 HNB.out g3; have t4 := cell_frame hI hlO hn2 hcO; go_simp; exact hKv)
        intro Kd hKd
        go_simp
        refine hKd _ ?_
        clear hKd Kd
        apply anyI_step 9 rfl (by kernel_rfl)
        focus (intro wI hI Kv hKv; have t3 := cell_frame hI lb1 HNB.out g3; have t4 := cell_frame hI hlO hn2 hcO; go_simp; exact hKv)
        intro Kd hKd
        go_simp
        refine hKd _ ?_
        clear hKd Kd
        apply anyI_step 10 rfl (by kernel_rfl)
        focus (intro wI hI Kv hKv; have t3 := cell_frame hI lb1 HNB.out g3; have t4 := cell_frame hI hlO hn2 hcO; go_simp; exact hKv)
        intro Kd hKd
        go_simp
        refine hKd _ ?_
        clear hKd Kd
        apply anyI_step 1 rfl (by kernel_rfl)
        focus (intro wI hI Kv hKv; have t3 := cell_frame hI lb1 HNB.out g3; have t4 := cell_frame hI hlO hn2 hcO; go_simp; exact hKv)
        intro Kd hKd
        go_simp
        refine hKd _ ?_
        clear hKd Kd
        apply anyI_step 2 rfl (by kernel_rfl)
        focus (intro wI hI Kv hKv; have t3 := cell_frame hI lb1 HNB.out g3; have t4 := cell_frame hI hlO hn2 hcO; go_simp; exact hKv)
        intro Kd hKd
        go_simp
        refine hKd _ ?_
        clear hKd Kd
        apply anyI_step 3 rfl (by kernel_rfl)
        focus (intro wI hI Kv hKv; have t3 := cell_frame hI lb1 HNB.out g3; have t4 := cell_frame hI hlO hn2 hcO; go_simp; exact hKv)
        intro Kd hKd
        go_simp
        refine hKd _ ?_
        clear hKd Kd
        apply anyI_step 5 rfl (by kernel_rfl)
        focus (intro wI hI Kv hKv; have t3 := cell_frame hI lb1 HNB.out g3; have t4 := cell_frame hI hlO hn2 hcO; go_simp; exact hKv)
        intro Kd hKd
        go_simp
        refine hKd _ ?_
        clear hKd Kd
        apply anyI_step 6 rfl (by kernel_rfl)
        focus (intro wI hI Kv hKv; have t3 := cell_frame hI lb1 HNB.out g3; have t4 := cell_frame hI hlO hn2 hcO; go_simp; exact hKv)
        intro Kd hKd
        go_simp
        refine hKd _ ?_
        clear hKd Kd
        refine anyI_one' 11 rfl (by kernel_rfl) ((Frame.refl _ _).drew) (fun Kd hKd => ?_)
        go_wp2_with (go_at_call 123; go_must (refine (best_any rs n hn hr first bp A c O oc bs v f IH (i : Int) (k : Int) r M _ hu HK.out HH.out ⟨HP1.out.drew, HP.out.m⟩ HL.out).mono ?_); rintro e w2 ⟨rfl, ⟨M2, hP2⟩, hF2⟩)
        rw [HDP.out]
        have HP2 := Lib.hid hP2
        have HF2 : Hid (Frame (fun y => y ∈ bs) w1 w2) := (Frame.refl _ w1).drew.trans hF2 (fun _ _ h => h)
        clear hP2 hF2
        apply anyI_step 12 rfl (by kernel_rfl)
        focus (intro wI hI Kv hKv; go_simp; exact hKv)
        intro Kd hKd
        go_simp
        refine hKd _ ?_
        clear hKd Kd
        apply anyI_step 13 rfl (by kernel_rfl)
        focus (intro wI hI Kv hKv; go_simp; exact hKv)
        intro Kd hKd
        go_simp
        refine hKd _ ?_
        clear hKd Kd
        apply anyI_step 14 rfl (by kernel_rfl)
        focus (intro wI hI Kv hKv; go_simp; exact hKv)
        intro Kd hKd
        go_simp
        refine hKd _ ?_
        clear hKd Kd
        apply anyI_step 15 rfl (by kernel_rfl)
        focus (intro wI hI Kv hKv; go_simp; exact hKv)
        intro Kd hKd
        go_simp
        refine hKd _ ?_
        clear hKd Kd
        obtain ⟨e1, e2, e3⟩ := HP2.out.p.cell_ HBI.out hki
        refine anyI_one' 16 rfl (by kernel_rfl) (HF2.out) (fun Kd hKd => ?_)
        go_wp2
        have HF3 : Hid (Frame (fun y => y ∈ bs) w1 (w2.setCell ⟨b, k, none⟩ (.int .i64 d))) := HF2.out.setCell (.inl HBM.out) _
        refine anyI_end (by kernel_rfl) (HF3.out) (hQd _ _ ?_)
        clear hQd Qd
        have HP3 := Lib.hid (HP2.out.p.set HBI.out hki d)
        obtain ⟨W3, hW3⟩ : ∃ W3, w2.setCell ⟨b, k, none⟩ (.int .i64 d) = W3 := ⟨_, rfl⟩
        rw [hW3] at HF3 HP3 ⊢
        clear hW3 e1 e2 e3 g3 hc2 hf2 hcO hix hix2 hlO hlb hn1 hn2
        have HM3 : Hid (MemoOk rs n first (upd M2 i k d)) := by
          have := HP2.out.m.set i k
          rw [HDP.out] at this
          exact this
        obtain ⟨bO, oO, b', hb, hn1, hn2, hlO, hlb, hix, hcO, hix2, hc2, hf2⟩ := HP3.out.at_ hi hki
        have g3 := HP3.out.box.cell 3 (v := .slice O bs.length oc) rfl
        have e4 : upd M2 i k d i k = d := by simp [upd]
        rw [e4] at hc2
        have HBW : Hid (Frame (fun y => y ∈ bs) w W3) := (Frame.of_all HB1.out).trans HF3.out (fun _ _ h => h)
        clear hb e4
        go_wp2
        go_ret
        exact ⟨by rw [HDP.out]; rfl, ⟨_, HP3.out, HM3.out⟩, HBW.out⟩
      · have HMD : Hid (M i k = d) := by
          rcases HM.out with h | h
          · omega
          · show _ = _; rw [h, HDP.out]
        rw [HMD.out] at hc2 h0
        have q0 : decide (d < 0) = false := by simp; omega
        go_wp2
        go_ret
        exact ⟨by rw [HDP.out]; rfl, ⟨M, HP1.out, HP.out.m⟩, Frame.of_all HB1.out⟩
theorem depth_any (rs : List Int) (n : Nat) (hn : n ≤ 6) (hr : rulesB n rs) (hrl : rs.length ≤ 10) (first : Bool) (bp : Nat) (A : Option Addr) (c : Nat) (O : Option Addr) (oc : Nat) (bs : List Nat) (v : Value) : ∀ f, DepthIH rs n first bp A c O oc bs v f
  | 0 => fun _ _ _ _ h => absurd h (Nat.not_lt_zero _)
  | f + 1 => depth_step rs n hn hr hrl first bp A c O oc bs v f (depth_any rs n hn hr hrl first bp A c O oc bs v f)
end Go.Proofs.Ytlnonadkdonhmaa

/- Contract of lay. -/
namespace Go.Proofs.Ytlnonadkdonhmaa
open Go.RowKit Go.Maps

/-- All that lay keeps lies below B. -/
structure PB (rs : List Int) (bp : Nat) (A O : Option Addr) (bs : List Nat) (B : Nat) : Prop where
  bp : bp < B
  bs : ∀ b, b ∈ bs → b < B
  out : ∀ a, O = some a → a.block < B
  r : ints rs ≠ [] → ∀ a, A = some a → a.block < B
section
variable {w w' : World} {bp n c oc B : Nat} {A O : Option Addr} {rs : List Int} {first : Bool} {bs : List Nat} {M : Nat → Nat → Int} {v : Value} {S : Nat → Prop}
/-- What lies from B on is not in the parts. -/
theorem Px.high (h : Px rs n first bp A c O oc bs v M w) (hb : PB rs bp A O bs B) (hF : Frame S w w') (hS : ∀ b, S b → B ≤ b) : Px rs n first bp A c O oc bs v M w' :=
  ⟨h.p.frame hF (fun e => by have := hS _ e; have := hb.bp; omega) (fun hn a ha e => by have := hS _ e; have := hb.r hn a ha; omega) (fun a ha e => by have := hS _ e; have := hb.out a ha; omega) (fun b hm e => by have := hS _ e; have := hb.bs b hm; omega), h.m⟩
theorem Px.setv (h : Px rs n first bp A c O oc bs v M w) (v' : Value) : Px rs n first bp A c O oc bs v' M (w.setCell ⟨bp, 4, none⟩ v') := by
  have hF : Frame (fun y => y = bp) w (w.setCell ⟨bp, 4, none⟩ v') := (Frame.refl (fun y => y = _) w).setCell (p := ⟨_, _, none⟩) (.inl rfl) _
  refine ⟨⟨h.p.box.set 4 v', h.p.r.frame hF (fun hn a ha => (h.p.apart hn a ha).1), h.p.out.frame hF (fun _ a ha => (h.p.outer a ha).1), h.p.len, h.p.nodup, fun i b hb => ⟨(h.p.row i b hb).1, (h.p.row i b hb).2.frame hF (h.p.row i b hb).1⟩, h.p.apart, h.p.outer⟩, h.m⟩
theorem Px.below (h : Px rs n first bp A c O oc bs v M w) (hB : Below w.heap.size w w') : Px rs n first bp A c O oc bs v M w' := ⟨h.p.below hB, h.m⟩
end
def LayIH (rs : List Int) (n : Nat) (first : Bool) (bp : Nat) (A : Option Addr) (c : Nat) (O : Option Addr) (oc : Nat) (bs : List Nat) (B f : Nat) : Prop :=
  ∀ (known has : Int) (M : Nat → Nat → Int) (v : Value) (xs : List Nd) (w : World), unk n known < f → inN n known → inN n has → Px rs n first bp A c O oc bs v M w → PB rs bp A O bs B →
    w.ownsRow B 107 4 v xs.length (nds xs) → B ≤ w.heap.size → xs.length + 2 ^ (unk n known + 1) ≤ 100000 →
    Calls Try.prog 108 #[.pointer (some ⟨bp, 0, none⟩), .int .i64 known, .int .i64 has] w fun e w' => e = .returned (.tuple #[]) ∧ ∃ v' M', Px rs n first bp A c O oc bs v' M' w' ∧
      w'.ownsRow B 107 4 v' (xs ++ growA rs n first known has xs.length).length (nds (xs ++ growA rs n first known has xs.length)) ∧ Frame (fun b => b = bp ∨ b ∈ bs ∨ v.ownBlock = some b) w w' ∧ (∀ g, v'.ownBlock = some g → v.ownBlock = some g ∨ w.heap.size ≤ g)

set_option maxRecDepth 100000 in
set_option maxHeartbeats 8000000 in
theorem lay_step (rs : List Int) (n : Nat) (hn : n ≤ 6) (hr : rulesB n rs) (hrl : rs.length ≤ 10) (first : Bool) (bp : Nat) (A : Option Addr) (c : Nat) (O : Option Addr) (oc : Nat) (bs : List Nat) (B f : Nat) (IH : Hid (LayIH rs n first bp A c O oc bs B f)) : LayIH rs n first bp A c O oc bs B (f + 1) := by
  intro known has M v xs w hu hk hh hP hPB hown hB hlen
  obtain ⟨Av, cv, rfl⟩ := own_fits hown
  have h64 : 2 ^ n ≤ 2 ^ 6 := Nat.pow_le_pow_right (by decide) hn
  have HK := Lib.hid hk
  have HH := Lib.hid hh
  have hkb := hk.isB hn
  have hhb := hh.isB hn
  have HP := Lib.hid hP
  have HPB := Lib.hid hPB
  have HOW := Lib.hid hown
  have hbA : bAll rs := fun r hm => by
    have h1 := goodR_lt (hr r hm)
    have h2 : (2 : Int) ^ n ≤ 64 := by exact_mod_cast h64
    exact ⟨by omega, by omega⟩
  have hdl := decd_leaf (first := first) hbA hkb hhb
  have hp8 : 2 ^ 1 ≤ 2 ^ (unk n known + 1) := Nat.pow_le_pow_right (by decide) (by omega)
  have hxl : xs.length + 2 ≤ 100000 := by omega
  have hbpB := hPB.bp
  clear hbA hk hh hP hPB hown
  cases hl : leafA rs first known has with
  | mk r bl =>
    rw [hl] at hdl
    cases bl with
    | true =>
      have HPL : Hid (planA rs n first known has = ⟨0, -1, r⟩) := planA_leaf hl
      have HGR : Hid (growA rs n first known has xs.length = [⟨-1, 0, 0, r⟩]) := by
        have e := growA_leaf (rs := rs) (n := n) (first := first) (k := known) (h := has) (a := xs.length) (by rw [HPL.out]; show (-1 : Int) < 0; decide)
        rw [HPL.out] at e
        exact e
      have HD1 : Hid ((decdA rs known has first).1 = r) := hdl.2 rfl
      have HD2 : Hid ((decdA rs known has first).2 = true) := hdl.1
      clear hl hdl hlen hp8
      have g0 := HP.out.p.box.cell 0 (v := .int .i64 (n : Int)) rfl
      have g1 := HP.out.p.box.cell 1 (v := .slice A rs.length c) rfl
      have g2 := HP.out.p.box.cell 2 (v := .bool first) rfl
      have lbp := HP.out.p.box.lt
      go_enter Try.func108, Try.ntmps108
      go_wp2
      refine draw (fun w' => Below w.heap.size w w') 16 rfl (by kernel_rfl) (fun Qd hQd => ?_)
      apply anyI_step 0 rfl (by kernel_rfl)
      focus (intro wI hI Kv hKv; have t0 := cell_chain hI lbp g0; have t1 := cell_chain hI lbp g1; have t2 := cell_chain hI lbp g2; go_simp; exact hKv)
      intro Kd hKd
      go_simp
      refine hKd _ ?_
      clear hKd Kd
      apply anyI_step 4 rfl (by kernel_rfl)
      focus (intro wI hI Kv hKv; have t0 := cell_chain hI lbp g0; have t1 := cell_chain hI lbp g1; have t2 := cell_chain hI lbp g2; go_simp; exact hKv)
      intro Kd hKd
      go_simp
      refine hKd _ ?_
      clear hKd Kd
      apply anyI_step 5 rfl (by kernel_rfl)
      focus (intro wI hI Kv hKv; have t0 := cell_chain hI lbp g0; have t1 := cell_chain hI lbp g1; have t2 := cell_chain hI lbp g2; go_simp; exact hKv)
      intro Kd hKd
      go_simp
      refine hKd _ ?_
      clear hKd Kd
      apply anyI_step 6 rfl (by kernel_rfl)
      focus (intro wI hI Kv hKv; have t0 := cell_chain hI lbp g0; have t1 := cell_chain hI lbp g1; have t2 := cell_chain hI lbp g2; go_simp; exact hKv)
      intro Kd hKd
      go_simp
      refine hKd _ ?_
      clear hKd Kd
      apply anyI_step 1 rfl (by kernel_rfl)
      focus (intro wI hI Kv hKv; have t0 := cell_chain hI lbp g0; have t1 := cell_chain hI lbp g1; have t2 := cell_chain hI lbp g2; go_simp; exact hKv)
      intro Kd hKd
      go_simp
      refine hKd _ ?_
      clear hKd Kd
      apply anyI_step 7 rfl (by kernel_rfl)
      focus (intro wI hI Kv hKv; have t0 := cell_chain hI lbp g0; have t1 := cell_chain hI lbp g1; have t2 := cell_chain hI lbp g2; go_simp; exact hKv)
      intro Kd hKd
      go_simp
      refine hKd _ ?_
      clear hKd Kd
      apply anyI_step 2 rfl (by kernel_rfl)
      focus (intro wI hI Kv hKv; have t0 := cell_chain hI lbp g0; have t1 := cell_chain hI lbp g1; have t2 := cell_chain hI lbp g2; go_simp; exact hKv)
      intro Kd hKd
      go_simp
      refine hKd _ ?_
      clear hKd Kd
      apply anyI_step 8 rfl (by kernel_rfl)
      focus (intro wI hI Kv hKv; have t0 := cell_chain hI lbp g0; have t1 := cell_chain hI lbp g1; have t2 := cell_chain hI lbp g2; go_simp; exact hKv)
      intro Kd hKd
      go_simp
      refine hKd _ ?_
      clear hKd Kd
      apply anyI_step 3 rfl (by kernel_rfl)
      focus (intro wI hI Kv hKv; have t0 := cell_chain hI lbp g0; have t1 := cell_chain hI lbp g1; have t2 := cell_chain hI lbp g2; go_simp; exact hKv)
      intro Kd hKd
      go_simp
      refine hKd _ ?_
      clear hKd Kd
      apply anyI_step 9 rfl (by kernel_rfl)
      focus (intro wI hI Kv hKv; have t0 := cell_chain hI lbp g0; have t1 := cell_chain hI lbp g1; have t2 := cell_chain hI lbp g2; go_simp; exact hKv)
      intro Kd hKd
      go_simp
      refine hKd _ ?_
      clear hKd Kd
      refine anyI_one' 10 rfl (by kernel_rfl) ((Below.refl _ _).drew) (fun Kd hKd => ?_)
      go_wp2_with (go_at_call 122; go_must (refine (Decided_any n A c rs known has first _ (HP.out.p.r.below (Below.refl _ w).drew (Nat.le_refl _)) hrl).mono ?_); rintro e w1 ⟨rfl, hB1⟩; rw [HD1.out, HD2.out])
      have HB1 : Hid (Below w.heap.size w w1) := (Below.refl _ w).drew.trans hB1
      clear hB1 g0 g1 g2
      apply anyI_step 11 rfl (by kernel_rfl)
      focus (intro wI hI Kv hKv; go_simp; exact hKv)
      intro Kd hKd
      go_simp
      refine hKd _ ?_
      clear hKd Kd
      apply anyI_step 12 rfl (by kernel_rfl)
      focus (intro wI hI Kv hKv; go_simp; exact hKv)
      intro Kd hKd
      go_simp
      refine hKd _ ?_
      clear hKd Kd
      apply anyI_step 13 rfl (by kernel_rfl)
      focus (intro wI hI Kv hKv; go_simp; exact hKv)
      intro Kd hKd
      go_simp
      refine hKd _ ?_
      clear hKd Kd
      apply anyI_step 14 rfl (by kernel_rfl)
      focus (intro wI hI Kv hKv; go_simp; exact hKv)
      intro Kd hKd
      go_simp
      refine hKd _ ?_
      clear hKd Kd
      apply anyI_step 15 rfl (by kernel_rfl)
      focus (intro wI hI Kv hKv; go_simp; exact hKv)
      intro Kd hKd
      go_simp
      refine hKd _ ?_
      clear hKd Kd
      refine anyI_end (by kernel_rfl) (HB1.out) (hQd _ _ ?_)
      clear hQd Qd
      have HP1 : Hid (Px rs n first bp A c O oc bs (.slice Av xs.length cv) M w1) := HP.out.below HB1.out
      have HO1 : Hid (w1.ownsRow B 107 4 (.slice Av xs.length cv) xs.length (nds xs)) := own_frame HOW.out (Frame.of_all (S := fun _ => False) HB1.out) (fun _ _ h => h)
      have hs1 := HB1.out.size
      have g4 := HP1.out.p.box.cell 4 (v := .slice Av xs.length cv) rfl
      have lb1 := HP1.out.p.box.lt
      go_wp2_with (at_builtin; go_must (refine wpList_app1' rNd _ rfl _ _ rfl HO1.out rfl [_, _, _, _] 1 rfl rfl (by simp [Value.oneCell']) (by omega) (by omega) ?_); intro v6 w6 ho6 hB6 hg6 hloc6; obtain ⟨Av6, cv6, rfl⟩ := own_fits ho6; have HP6 : Hid (Px rs n first bp A c O oc bs (.slice Av xs.length cv) M w6) := HP1.out.high HPB.out (Frame.of_grown hg6) (fun b e => (HO1.out.lt _ e).1); have b1 := HP6.out.p.box.cell 4 (v := .slice Av xs.length cv) rfl; have b2 := HP6.out.p.box.free 4; have b3 := HP6.out.p.box.lt)
      try simp only [Exit.inBlock, Exit.then]
      refine bodyPost_ret (v := .tuple #[]) (results_none rfl _ _ _) rfl ?_
      have hFb : Frame (fun y => y = bp) w6 (w6.setCell ⟨bp, 4, none⟩ (.slice Av6 (xs.length + 1) cv6)) := (Frame.refl (fun y => y = _) w6).setCell (p := ⟨_, _, none⟩) (.inl rfl) _
      refine ⟨rfl, (.slice Av6 (xs.length + 1) cv6), M, HP6.out.setv (.slice Av6 (xs.length + 1) cv6), ?_, ?_, fun g hg => (hloc6 g hg).imp id (fun h => by omega)⟩
      · rw [HGR.out, nds_snoc, List.length_append]
        exact own_frame ho6 hFb (fun g hg e => by have := (ho6.lt _ hg).1; omega)
      · exact ((Frame.of_all HB1.out).trans (Frame.of_grown hg6) (fun b _ e => .inr (.inr e))).trans hFb (fun b _ e => .inl e)
    | false =>
      obtain ⟨cc, hcc, hic, hch⟩ := planA_chan hn hr hkb hhb hl
      have HCH := Lib.hid hch
      obtain ⟨d, HDD⟩ : ∃ d, Hid ((planA rs n first known has).depth = d) := ⟨_, rfl⟩
      have HU : Hid (unk n (fullI known cc) + 1 = unk n known) := unk_full hn hkb hcc hic
      have HKB : Hid (inN n (fullI known cc)) := inN_full hn HK.out hcc
      have HHB : Hid (inN n (fullI has cc)) := inN_full hn HH.out hcc
      have HGR : Hid _ := growA_test (rs := rs) (first := first) (h := has) (a := xs.length) hn hkb hcc hic HCH.out
      have hp2 := p2_nat (k := cc) (by omega)
      have HE1 : Hid (bits BinOp.or .i64 known (2 ^ cc) = fullI known cc) := by show _ = _; simp [fullI]
      have HE2 : Hid (bits BinOp.or .i64 has (2 ^ cc) = fullI has cc) := by show _ = _; simp [fullI]
      have hpw : 2 ^ (unk n known + 1) = 2 * 2 ^ (unk n (fullI known cc) + 1) := by rw [HU.out, Nat.pow_succ]; omega
      have hp1 : 1 ≤ 2 ^ (unk n (fullI known cc) + 1) := Nat.one_le_two_pow
      have HPW := Lib.hid hpw
      have HLEN : Hid (xs.length + 2 * 2 ^ (unk n (fullI known cc) + 1) ≤ 100000) := by show _ ≤ _; rw [← hpw]; exact hlen
      obtain ⟨r', HD1⟩ : ∃ r', Hid ((decdA rs known has first).1 = r') := ⟨_, rfl⟩
      have HD2 : Hid ((decdA rs known has first).2 = false) := hdl.1
      have DIH := Lib.hid (depth_any rs n hn hr hrl first bp A c O oc bs (.slice Av xs.length cv) (unk n known))
      have HL := Lib.hid hl
      clear hl hdl hlen hp8 hch hic hpw
      have g0 := HP.out.p.box.cell 0 (v := .int .i64 (n : Int)) rfl
      have g1 := HP.out.p.box.cell 1 (v := .slice A rs.length c) rfl
      have g2 := HP.out.p.box.cell 2 (v := .bool first) rfl
      have lbp := HP.out.p.box.lt
      go_enter Try.func108, Try.ntmps108
      go_wp2
      refine draw (fun w' => Below w.heap.size w w') 16 rfl (by kernel_rfl) (fun Qd hQd => ?_)
      apply anyI_step 0 rfl (by kernel_rfl)
      focus (intro wI hI Kv hKv; have t0 := cell_chain hI lbp g0; have t1 := cell_chain hI lbp g1; have t2 := cell_chain hI lbp g2; go_simp; exact hKv)
      intro Kd hKd
      go_simp
      refine hKd _ ?_
      clear hKd Kd
      apply anyI_step 4 rfl (by kernel_rfl)
      focus (intro wI hI Kv hKv; have t0 := cell_chain hI lbp g0; have t1 := cell_chain hI lbp g1; have t2 := cell_chain hI lbp g2; go_simp; exact hKv)
      intro Kd hKd
      go_simp
      refine hKd _ ?_
      clear hKd Kd
      apply anyI_step 5 rfl (by kernel_rfl)
      focus (intro wI hI Kv hKv; have t0 := cell_chain hI lbp g0; have t1 := cell_chain hI lbp g1; have t2 := cell_chain hI lbp g2; go_simp; exact hKv)
      intro Kd hKd
      go_simp
      refine hKd _ ?_
      clear hKd Kd
      apply anyI_step 6 rfl (by kernel_rfl)
      focus (intro wI hI Kv hKv; have t0 := cell_chain hI lbp g0; have t1 := cell_chain hI lbp g1; have t2 := cell_chain hI lbp g2; go_simp; exact hKv)
      intro Kd hKd
      go_simp
      refine hKd _ ?_
      clear hKd Kd
      apply anyI_step 1 rfl (by kernel_rfl)
      focus (intro wI hI Kv hKv; have t0 := cell_chain hI lbp g0; have t1 := cell_chain hI lbp g1; have t2 := cell_chain hI lbp g2; go_simp; exact hKv)
      intro Kd hKd
      go_simp
      refine hKd _ ?_
      clear hKd Kd
      apply anyI_step 7 rfl (by kernel_rfl)
      focus (intro wI hI Kv hKv; have t0 := cell_chain hI lbp g0; have t1 := cell_chain hI lbp g1; have t2 := cell_chain hI lbp g2; go_simp; exact hKv)
      intro Kd hKd
      go_simp
      refine hKd _ ?_
      clear hKd Kd
      apply anyI_step 2 rfl (by kernel_rfl)
      focus (intro wI hI Kv hKv; have t0 := cell_chain hI lbp g0; have t1 := cell_chain hI lbp g1; have t2 := cell_chain hI lbp g2; go_simp; exact hKv)
      intro Kd hKd
      go_simp
      refine hKd _ ?_
      clear hKd Kd
      apply anyI_step 8 rfl (by kernel_rfl)
      focus (intro wI hI Kv hKv; have t0 := cell_chain hI lbp g0; have t1 := cell_chain hI lbp g1; have t2 := cell_chain hI lbp g2; go_simp; exact hKv)
      intro Kd hKd
      go_simp
      refine hKd _ ?_
      clear hKd Kd
      apply anyI_step 3 rfl (by kernel_rfl)
      focus (intro wI hI Kv hKv; have t0 := cell_chain hI lbp g0; have t1 := cell_chain hI lbp g1; have t2 := cell_chain hI lbp g2; go_simp; exact hKv)
      intro Kd hKd
      go_simp
      refine hKd _ ?_
      clear hKd Kd
      apply anyI_step 9 rfl (by kernel_rfl)
      focus (intro wI hI Kv hKv; have t0 := cell_chain hI lbp g0; have t1 := cell_chain hI lbp g1; have t2 := cell_chain hI lbp g2; go_simp; exact hKv)
      intro Kd hKd
      go_simp
      refine hKd _ ?_
      clear hKd Kd
      refine anyI_one' 10 rfl (by kernel_rfl) ((Below.refl _ _).drew) (fun Kd hKd => ?_)
      go_wp2_with (go_at_call 122; go_must (refine (Decided_any n A c rs known has first _ (HP.out.p.r.below (Below.refl _ w).drew (Nat.le_refl _)) hrl).mono ?_); rintro e w1 ⟨rfl, hB1⟩; rw [HD1.out, HD2.out])
      have HB1 : Hid (Below w.heap.size w w1) := (Below.refl _ w).drew.trans hB1
      clear hB1 g0 g1 g2
      apply anyI_step 11 rfl (by kernel_rfl)
      focus (intro wI hI Kv hKv; go_simp; exact hKv)
      intro Kd hKd
      go_simp
      refine hKd _ ?_
      clear hKd Kd
      apply anyI_step 12 rfl (by kernel_rfl)
      focus (intro wI hI Kv hKv; go_simp; exact hKv)
      intro Kd hKd
      go_simp
      refine hKd _ ?_
      clear hKd Kd
      apply anyI_step 13 rfl (by kernel_rfl)
      focus (intro wI hI Kv hKv; go_simp; exact hKv)
      intro Kd hKd
      go_simp
      refine hKd _ ?_
      clear hKd Kd
      apply anyI_step 14 rfl (by kernel_rfl)
      focus (intro wI hI Kv hKv; go_simp; exact hKv)
      intro Kd hKd
      go_simp
      refine hKd _ ?_
      clear hKd Kd
      apply anyI_step 15 rfl (by kernel_rfl)
      focus (intro wI hI Kv hKv; go_simp; exact hKv)
      intro Kd hKd
      go_simp
      refine hKd _ ?_
      clear hKd Kd
      refine anyI_end (by kernel_rfl) (HB1.out) (hQd _ _ ?_)
      clear hQd Qd
      have HP1 : Hid (Px rs n first bp A c O oc bs (.slice Av xs.length cv) M w1) := HP.out.below HB1.out
      have HO1 : Hid (w1.ownsRow B 107 4 (.slice Av xs.length cv) xs.length (nds xs)) := own_frame HOW.out (Frame.of_all (S := fun _ => False) HB1.out) (fun _ _ h => h)
      have hs1 := HB1.out.size
      go_wp2_with fail
      refine (best_any rs n hn hr first bp A c O oc bs _ (unk n known) DIH known has r M w1 (Nat.lt_succ_self _) HK.out HH.out HP1.out HL.out).mono ?_
      rintro e w2 ⟨rfl, ⟨M2, hP2⟩, hF2⟩
      rw [HCH.out, HDD.out]
      have HP2 := Lib.hid hP2
      have HO2 : Hid (w2.ownsRow B 107 4 (.slice Av xs.length cv) xs.length (nds xs)) := own_frame HO1.out hF2 (fun g hg e => by have := (HO1.out.lt _ hg).1; have := HPB.out.bs g e; omega)
      have HF2 : Hid (Frame (fun b => b = bp ∨ b ∈ bs ∨ (Value.slice Av xs.length cv).ownBlock = some b) w w2) := (Frame.of_all HB1.out).trans hF2 (fun b _ e => .inr (.inl e))
      have hs2 := HF2.out.size
      have g4 := hP2.p.box.cell 4 (v := .slice Av xs.length cv) rfl
      have lb2 := hP2.p.box.lt
      clear hP2 hF2
      go_wp2_with (at_builtin; go_must (refine wpList_app1' rNd _ rfl _ _ rfl HO2.out rfl [_, _, _, _] 1 rfl rfl (by simp [Value.oneCell']) (by omega) (by omega) ?_); intro v6 w6 ho6 hB6 hg6 hloc6; obtain ⟨Av6, cv6, rfl⟩ := own_fits ho6; have HP6 : Hid (Px rs n first bp A c O oc bs (.slice Av xs.length cv) M2 w6) := HP2.out.high HPB.out (Frame.of_grown hg6) (fun b e => (HO2.out.lt _ e).1); have b1 := HP6.out.p.box.cell 4 (v := .slice Av xs.length cv) rfl; have b2 := HP6.out.p.box.free 4; have b3 := HP6.out.p.box.lt)
      refine stail 9 (by kernel_rfl) (by kernel_rfl) (fun Kq hKq => ?_)
      simp only [List.take_succ_cons, List.take_zero, List.drop_succ_cons, List.drop_zero] at hKq ⊢
      repeat still_step
      refine wpStill_nil (hKq _ ?_)
      clear hKq Kq
      go_wp2_with fail
      rw [hp2, HE1.out, HE2.out]
      obtain ⟨W7, hW7⟩ : ∃ W7, (w6.setCell ⟨bp, 4, none⟩ (.slice Av6 (xs.length + 1) cv6)).drew = W7 := ⟨_, rfl⟩
      rw [hW7]
      have hFb : Frame (fun y => y = bp) w6 W7 := by rw [← hW7]; exact ((Frame.refl (fun y => y = _) w6).setCell (p := ⟨_, _, none⟩) (.inl rfl) _).drew
      have HP7 : Hid (Px rs n first bp A c O oc bs (.slice Av6 (xs.length + 1) cv6) M2 W7) := by
        have e := (HP6.out.setv (.slice Av6 (xs.length + 1) cv6)).below (Below.refl _ _).drew
        rw [hW7] at e
        exact e
      have HO7 : Hid (W7.ownsRow B 107 4 (.slice Av6 (xs.length + 1) cv6) (xs ++ [(⟨cc, (xs.length : Int) + 1, 0, -1⟩ : Nd)]).length (nds (xs ++ [(⟨cc, (xs.length : Int) + 1, 0, -1⟩ : Nd)]))) := by
        show World.ownsRow _ _ _ _ _ _ _
        rw [nds_snoc, List.length_append]
        exact own_frame ho6 hFb (fun g hg e => by have := (ho6.lt _ hg).1; omega)
      have HF7 : Hid (Frame (fun b => b = bp ∨ b ∈ bs ∨ (Value.slice Av xs.length cv).ownBlock = some b) w W7) := (HF2.out.trans (Frame.of_grown hg6) (fun b _ e => .inr (.inr e))).trans hFb (fun b _ e => .inl e)
      have hs7 := HF7.out.size
      have HLOC6 : Hid (∀ g, (Value.slice Av6 (xs.length + 1) cv6).ownBlock = some g → (Value.slice Av xs.length cv).ownBlock = some g ∨ w.heap.size ≤ g) := fun g hg => (hloc6 g hg).imp id (fun h => by omega)
      obtain ⟨ys, HYS⟩ : ∃ ys, Hid (growA rs n first (fullI known cc) (fullI has cc) (xs.length + 1) = ys) := ⟨_, rfl⟩
      have hyl : ys.length + 1 ≤ 2 ^ (unk n (fullI known cc) + 1) := by rw [← HYS.out]; exact growL_len _ _ _ _
      have hll := HLEN.out
      clear hW7 ho6 hB6 hg6 hloc6 hFb b1 b2 b3 g4
      refine (IH.out (fullI known cc) (fullI has cc) M2 (.slice Av6 (xs.length + 1) cv6) _ W7 (by have := HU.out; omega) HKB.out HHB.out HP7.out HPB.out HO7.out (by omega) (by rw [List.length_append, List.length_cons, List.length_nil]; omega)).mono ?_
      rintro e w8 ⟨rfl, v8, M8, hP8, ho8, hF8, hloc8⟩
      have el : (xs ++ [(⟨cc, (xs.length : Int) + 1, 0, -1⟩ : Nd)]).length = xs.length + 1 := by simp
      rw [el, HYS.out] at ho8
      have el2 : (xs ++ [(⟨cc, (xs.length : Int) + 1, 0, -1⟩ : Nd)] ++ ys).length = xs.length + ys.length + 1 := by simp; omega
      rw [el2] at ho8
      obtain ⟨g7, cap7, rfl⟩ := ownsRow_succ ho8
      have hix := ix_nd (b := g7) (n := xs.length + ys.length + 1) (c := cap7) (k := xs.length) (by omega)
      have hc7 := ho8.cellAt (xs.length * 4 + 2) (by omega)
      have hf7 := ho8.frozenAt (xs.length * 4 + 2)
      have hget : (nds (xs ++ [(⟨cc, (xs.length : Int) + 1, 0, -1⟩ : Nd)] ++ ys))[xs.length * 4 + 2]? = some (.int .i64 0) := by
        rw [List.append_assoc]
        have e : nds (xs ++ ([(⟨cc, (xs.length : Int) + 1, 0, -1⟩ : Nd)] ++ ys)) = nds xs ++ ([.int .i64 cc, .int .i64 ((xs.length : Int) + 1), .int .i64 0, .int .i64 (-1)] ++ nds ys) := by simp [nds, ndCells]
        rw [e, List.getElem?_append_right (by rw [nds_len]; omega), nds_len, Nat.add_sub_cancel_left]
        rfl
      rw [hget] at hc7
      have hg7 := (ho8.lt g7 rfl).1
      have hg7' := (ho8.lt g7 rfl).2
      have HP8 := Lib.hid hP8
      have HO8 := Lib.hid ho8
      have HF8 : Hid (Frame (fun b => b = bp ∨ b ∈ bs ∨ (Value.slice Av xs.length cv).ownBlock = some b) w w8) := HF7.out.trans hF8 (fun b hb e => by
        rcases e with e | e | e
        · exact .inl e
        · exact .inr (.inl e)
        · rcases HLOC6.out b e with h | h
          · exact .inr (.inr h)
          · omega)
      have HG7 : Hid ((Value.slice Av xs.length cv).ownBlock = some g7 ∨ w.heap.size ≤ g7) := by
        rcases hloc8 g7 rfl with h | h
        · exact HLOC6.out g7 h
        · exact .inr (by omega)
      have hs8 := HF8.out.size
      have g4 := hP8.p.box.cell 4 (v := .slice (some ⟨g7, 0, none⟩) (xs.length + ys.length + 1) cap7) rfl
      have lb8 := hP8.p.box.lt
      clear hget hP8 ho8 hF8 hloc8 el el2
      go_wp2_with fail
      refine stail 12 (by kernel_rfl) (by kernel_rfl) (fun Kq hKq => ?_)
      simp only [List.take_succ_cons, List.take_zero, List.drop_succ_cons, List.drop_zero] at hKq ⊢
      repeat still_step
      refine wpStill_nil (hKq _ ?_)
      clear hKq Kq
      go_wp2_with fail
      rw [HE1.out]
      obtain ⟨hst, hgr9⟩ := HO8.out.stored (xs.length * 4 + 2) (.int .i64 ((xs.length : Int) + ys.length + 1))
      rw [List.append_assoc, List.singleton_append, nds_setno] at hst
      obtain ⟨X9, hX9⟩ : ∃ X9, w8.setCell ⟨g7, xs.length * 4 + 2, none⟩ (.int .i64 ((xs.length : Int) + ys.length + 1)) = X9 := ⟨_, rfl⟩
      rw [hX9] at hst hgr9 ⊢
      obtain ⟨xs9, HX9⟩ : ∃ xs9, Hid (xs ++ (⟨cc, (xs.length : Int) + 1, (xs.length : Int) + ys.length + 1, -1⟩ : Nd) :: ys = xs9) := ⟨_, rfl⟩
      have hl9 : xs9.length = xs.length + ys.length + 1 := by rw [← HX9.out]; simp; omega
      have hF89 := (Frame.of_grown hgr9).drew
      have ho9 : X9.drew.ownsRow B 107 4 (.slice (some ⟨g7, 0, none⟩) (xs.length + ys.length + 1) cap7) xs9.length (nds xs9) := by
        rw [hl9, ← HX9.out]
        exact own_frame hst ((Frame.refl (fun _ => False) X9).drew) (fun _ _ h => h)
      have hP9 : Px rs n first bp A c O oc bs (.slice (some ⟨g7, 0, none⟩) (xs.length + ys.length + 1) cap7) M8 X9.drew := HP8.out.high HPB.out hF89 (fun b e => (HO8.out.lt _ e).1)
      have HP9 := Lib.hid hP9
      have HO9 := Lib.hid ho9
      have HF9 : Hid (Frame (fun b => b = bp ∨ b ∈ bs ∨ (Value.slice Av xs.length cv).ownBlock = some b) w X9.drew) := HF8.out.trans hF89 (fun b hb e => by
        have e' : g7 = b := by simpa [Value.ownBlock] using e
        rcases HG7.out with h | h
        · exact .inr (.inr (by rw [← e']; exact h))
        · omega)
      have hs9 := HF9.out.size
      clear hst hgr9 ho9 hF89 hP9 hX9
      refine (IH.out (fullI known cc) has M8 _ xs9 X9.drew (by have := HU.out; omega) HKB.out HH.out HP9.out HPB.out HO9.out (by omega) (by omega)).mono ?_
      rintro e w10 ⟨rfl, v10, M10, hP10, ho10, hF10, hloc10⟩
      have HP10 := Lib.hid hP10
      have HO10 := Lib.hid ho10
      have HF10 : Hid (Frame (fun b => b = bp ∨ b ∈ bs ∨ (Value.slice Av xs.length cv).ownBlock = some b) w w10) := HF9.out.trans hF10 (fun b hb e => by
        rcases e with e | e | e
        · exact .inl e
        · exact .inr (.inl e)
        · have e' : g7 = b := by simpa [Value.ownBlock] using e
          rcases HG7.out with h | h
          · exact .inr (.inr (by rw [← e']; exact h))
          · omega)
      have HLOC10 : Hid (∀ g, v10.ownBlock = some g → (Value.slice Av xs.length cv).ownBlock = some g ∨ w.heap.size ≤ g) := fun g hg => by
        rcases hloc10 g hg with h | h
        · have e' : g7 = g := by simpa [Value.ownBlock] using h
          rw [← e']; exact HG7.out
        · exact .inr (by omega)
      have HL9 := Lib.hid hl9
      clear hP10 ho10 hF10 hloc10 hl9
      go_wp2
      go_end0
      refine ⟨rfl, v10, M10, HP10.out, ?_, HF10.out, HLOC10.out⟩
      have e : xs ++ growA rs n first known has xs.length = xs9 ++ growA rs n first (fullI known cc) has xs9.length := by
        rw [HGR.out, HYS.out, HL9.out, ← HX9.out, List.append_assoc, List.cons_append]
        have e1 : (xs.length : Int) + 1 + ys.length = (xs.length : Int) + ys.length + 1 := by omega
        have e2 : xs.length + 1 + ys.length = xs.length + ys.length + 1 := by omega
        rw [e1, e2]
      rw [e]
      exact HO10.out
theorem lay_any (rs : List Int) (n : Nat) (hn : n ≤ 6) (hr : rulesB n rs) (hrl : rs.length ≤ 10) (first : Bool) (bp : Nat) (A : Option Addr) (c : Nat) (O : Option Addr) (oc : Nat) (bs : List Nat) (B : Nat) : ∀ f, LayIH rs n first bp A c O oc bs B f
  | 0 => fun _ _ _ _ _ _ h => absurd h (Nat.not_lt_zero _)
  | f + 1 => lay_step rs n hn hr hrl first bp A c O oc bs B f (lay_any rs n hn hr hrl first bp A c O oc bs B f)
end Go.Proofs.Ytlnonadkdonhmaa

/- Contract: ref.Tree. -/
namespace Go.Proofs.Ytlnonadkdonhmaa
open Go.RowKit Go.Maps

theorem r130 : ElemRow Try.prog 130 22 1 24 := ElemRow.mk' (z := .slice none 0 0) Try.underlying130 info22 rfl (by decide) (by decide)
/-- The memo's rows that are made so far. -/
structure Mk (w : World) (bp : Nat) (nn : Int) (A : Option Addr) (c l : Nat) (first : Bool) (B P q : Nat) (v : Value) (bs : List Nat) : Prop where
  box : Blk w bp (.cells #[.int .i64 nn, .slice A l c, .bool first, v, .slice none 0 0] 158)
  own : w.ownsRow B 22 1 v q (bs.map (rowV P))
  len : bs.length = q
  nodup : bs.Nodup
  row : ∀ (i : Nat) (b : Nat), bs[i]? = some b → B ≤ b ∧ Blk w b (.cells (ints (List.replicate P (-1))).toArray 3)
theorem Mk.frame {w w' : World} {bp : Nat} {nn : Int} {A : Option Addr} {c l : Nat} {first : Bool} {B P q : Nat} {v : Value} {bs : List Nat} {S : Nat → Prop} (h : Mk w bp nn A c l first B P q v bs) (hF : Frame S w w') (h1 : ¬ S bp) (h2 : ∀ g, v.ownBlock = some g → ¬ S g) (h3 : ∀ b, b ∈ bs → ¬ S b) : Mk w' bp nn A c l first B P q v bs :=
  ⟨h.box.frame hF h1, own_frame h.own hF h2, h.len, h.nodup, fun i b hb => ⟨(h.row i b hb).1, (h.row i b hb).2.frame hF (h3 b (List.mem_of_getElem? hb))⟩⟩
theorem Mk.lt {w : World} {bp : Nat} {nn : Int} {A : Option Addr} {c l : Nat} {first : Bool} {B P q : Nat} {v : Value} {bs : List Nat} (h : Mk w bp nn A c l first B P q v bs) {b : Nat} (hb : b ∈ bs) : b < w.heap.size ∧ B ≤ b := by
  obtain ⟨i, hi⟩ := List.getElem?_of_mem hb
  exact ⟨(h.row i b hi).2.lt, (h.row i b hi).1⟩
theorem Mk.push {w w6 : World} {bp : Nat} {nn : Int} {A : Option Addr} {c l : Nat} {first : Bool} {B P q br : Nat} {v v6 : Value} {bs : List Nat} (h : Mk w bp nn A c l first B P q v bs) (hbp : bp < B) (hb : Blk w br (.cells (ints (List.replicate P (-1))).toArray 3)) (hB : B ≤ br) (hnew : br ∉ bs)
    (hg : w.grownBy w6 v.ownBlock) (ho : w6.ownsRow B 22 1 v6 (q + 1) (bs.map (rowV P) ++ [rowV P br])) : Mk (w6.setCell ⟨bp, 3, none⟩ v6) bp nn A c l first B P (q + 1) v6 (bs ++ [br]) := by
  have hF : Frame (fun y => y = bp) w6 (w6.setCell ⟨bp, 3, none⟩ v6) := (Frame.refl (fun y => y = _) w6).setCell (p := ⟨_, _, none⟩) (.inl rfl) _
  refine ⟨(h.box.grown hg (own_ne h.own h.box (by decide))).set 3 v6, ?_, by simp [h.len], ?_, fun i b hi => ?_⟩
  · rw [List.map_append]
    exact own_frame ho hF (fun g hg e => by have := (ho.lt _ hg).1; omega)
  · rw [List.nodup_append]
    refine ⟨h.nodup, by simp, ?_⟩
    intro x hx y hy e
    simp at hy
    subst hy e
    exact hnew hx
  · by_cases hlt : i < bs.length
    · rw [List.getElem?_append_left hlt] at hi
      have hr := h.row i b hi
      refine ⟨hr.1, (hr.2.grown hg (own_ne h.own hr.2 (by decide))).frame hF (fun e => by have := hr.1; omega)⟩
    · have hlen := (List.getElem?_eq_some_iff.1 hi).1
      simp at hlen
      have e1 : i = bs.length := by omega
      subst e1
      rw [List.getElem?_append_right (Nat.le_refl _)] at hi
      simp at hi
      subst hi
      exact ⟨hB, (hb.grown hg (own_ne h.own hb (by decide))).frame hF (fun e => by omega)⟩
theorem fill_set {P k : Nat} (hk : k < P) : (List.replicate k (-1 : Int) ++ List.replicate (P - k) 0).set k (-1) = List.replicate (k + 1) (-1) ++ List.replicate (P - (k + 1)) 0 := by
  have hz : P - k = (P - (k + 1)) + 1 := by omega
  rw [hz, List.replicate_succ, List.set_append_right _ _ (by simp), List.length_replicate, Nat.sub_self, List.set_cons_zero, List.replicate_succ', List.append_assoc]
  rfl
theorem fill_get {P k : Nat} (hk : k < P) : (List.replicate k (-1 : Int) ++ List.replicate (P - k) 0)[k]? = some 0 := by
  rw [List.getElem?_append_right (by simp), List.length_replicate, Nat.sub_self, List.getElem?_replicate, if_pos (by omega)]

set_option maxRecDepth 100000 in
set_option maxHeartbeats 16000000 in
theorem RefTree_any (N : Nat) (A : Option Addr) (c : Nat) (rs : List Int) (known has : Int) (first : Bool) (w : World) (hA : Cells w A (ints rs)) (hg : grpOk (N : Int) rs = true) (hk : inN N known) (hh : inN N has) :
    Calls Try.prog 62 #[.agg #[.int .i64 (N : Int), .slice A rs.length c], .int .i64 known, .int .i64 has, .bool first] w fun e w' => ∃ A' c', e = .returned (.tuple #[.slice A' (growA rs N first known has 0).length c', .int .i64 (planA rs N first known has).depth]) ∧ Cells w' A' (nds (growA rs N first known has 0)) ∧ Below w.heap.size w w' := by
  obtain ⟨hn1, hn6, hrl, _⟩ := grpOk_true hg
  have HRB : Hid (rulesB N rs) := rulesB_of hg
  have HK := Lib.hid hk
  have HH := Lib.hid hh
  have hN6 : N ≤ 6 := by omega
  have hp64 : (2 : Nat) ^ N ≤ 64 := by
    have h3 : (2 : Nat) ^ N ≤ 2 ^ 6 := Nat.pow_le_pow_right (by decide) hN6
    exact h3
  obtain ⟨P, hP⟩ : ∃ P, Hid (2 ^ N = P) := ⟨2 ^ N, rfl⟩
  obtain ⟨nn, hnn⟩ : ∃ nn : Int, (N : Int) = nn := ⟨_, rfl⟩
  have hp0 := p2_wrap (n := nn) (by omega) (by omega)
  have hp0' := p2_wrap' (n := nn) (by omega) (by omega)
  have hpe : (2 : Int) ^ nn.toNat = (P : Int) := by rw [← hnn, Int.toNat_natCast, ← hP.out]; push_cast; rfl
  have hp1 : wrap64 (2 ^ nn.toNat) = (P : Int) := by rw [← hpe]; exact hp0
  have hp1' : IntKind.i64.wrap (2 ^ nn.toNat) = (P : Int) := by rw [← hpe]; exact hp0'
  have hnn0 : 0 ≤ nn := by omega
  have hnn6 : nn ≤ 6 := by omega
  have hP64 : P ≤ 64 := by rw [← hP.out]; exact hp64
  have HNN := Lib.hid hnn
  rw [hnn]
  obtain ⟨i0, hi, hz0, hz1, hz2⟩ := info_parts info3
  clear hpe hp64 hnn hp0 hp0' hg hk hh
  go_enter Try.func62, Try.ntmps62
  go_wp2
  obtain ⟨W, hW⟩ : ∃ W, (w.alloc (.cells #[.int .i64 nn, .slice A rs.length c] 24)).alloc (.cells #[.int .i64 nn, .slice A rs.length c, .bool first, .slice none 0 0, .slice none 0 0] 158) = W := ⟨_, rfl⟩
  rw [hW]
  have HB0 : Hid (Below w.heap.size w W) := by rw [← hW]; exact ((Below.refl _ w).alloc (Nat.le_refl _) _).alloc (by simp) _
  have h24 : Blk W w.heap.size (.cells #[.int .i64 nn, .slice A rs.length c] 24) := by rw [← hW]; exact (Blk.new _ _).alloc _
  have h158 : Blk W (w.heap.size + 1) (.cells #[.int .i64 nn, .slice A rs.length c, .bool first, .slice none 0 0, .slice none 0 0] 158) := by
    rw [← hW]
    have e := Blk.new (w.alloc (.cells #[.int .i64 nn, .slice A rs.length c] 24)) (.cells #[.int .i64 nn, .slice A rs.length c, .bool first, .slice none 0 0, .slice none 0 0] 158)
    rw [World.size_alloc] at e
    exact e
  have hsW : W.heap.size = w.heap.size + 2 := by rw [← hW]; simp
  have H24 := Lib.hid h24
  have HMK : Hid (Mk W (w.heap.size + 1) nn A c rs.length first W.heap.size P 0 (.slice none 0 0) []) := ⟨h158, World.ownsRow_nil _ _ _ _, rfl, List.nodup_nil, fun i b hb => by simp at hb⟩
  have HA := Lib.hid hA
  clear hW h24 h158 hA
  go_loopw [11] (fun i wr => ∃ (q : Nat) (v : Value) (bs : List Nat), q ≤ P ∧ i = .int .i64 q ∧ Mk wr (w.heap.size + 1) nn A c rs.length first W.heap.size P q v bs ∧ Frame (fun b => b = w.heap.size + 1) W wr) (fun i _ => P - (intOf i).toNat)
  case atStart => exact ⟨0, _, [], Nat.zero_le _, rfl, HMK.out, Frame.refl _ _⟩
  case round =>
    obtain ⟨q, v, bs, hq, rfl, hM, hF⟩ := hrel
    obtain ⟨wq, rfl⟩ : ∃ wq : World, wq = wr := ⟨_, rfl⟩
    have HM := Lib.hid hM
    have HF := Lib.hid hF
    have hsq := hF.size
    have hb4 := H24.out.frame hF (by omega)
    have g0 := hb4.cell 0 (v := .int .i64 nn) rfl
    have lb4 := hb4.lt
    have hown := hM.own
    obtain ⟨Ov, oc, rfl⟩ := own_fits hown
    clear hM hF hb4 hown
    by_cases hlt : q < P
    · go_wp2_with (at_make; go_must (refine wpList_make_full _ rfl _ _ 22 rfl wq.heap.size 3 i0 (.int .i64 0) 1 Try.underlying22 hi hz0 hz1 .i64 .i64 P P P rfl rfl rfl rfl (by rw [hz2]; omega) (by unfold maxLen; omega) (Nat.le_refl _) ?_); intro w1 ho1 hg1)
      rw [made_ints] at ho1
      have HB1 := Lib.hid (own_full ho1)
      have HF1 : Hid (Frame (fun _ => False) wq w1) := (Frame.of_grown hg1).mono (fun b _ e => by cases e)
      have hs1 := HF1.out.size
      obtain ⟨br, hbr⟩ : ∃ br, wq.heap.size = br := ⟨_, rfl⟩
      have HBR : Hid (wq.heap.size = br) := hbr
      have hbr1 : W.heap.size ≤ br := by omega
      rw [hbr] at HB1 ⊢
      clear ho1 hg1 hbr
      go_wp2
      go_loopw [31] (fun i wr => ∃ k : Nat, k ≤ P ∧ i = .int .i64 k ∧ Blk wr br (.cells (ints (List.replicate k (-1 : Int) ++ List.replicate (P - k) 0)).toArray 3) ∧ Frame (fun b => b = br) w1 wr) (fun i _ => P - (intOf i).toNat)
      case atStart => exact ⟨0, Nat.zero_le _, rfl, by simpa using HB1.out, Frame.refl _ _⟩
      case round =>
        obtain ⟨k, hk, rfl, hbk, hFk⟩ := hrel
        have HBK := Lib.hid hbk
        have HFK := Lib.hid hFk
        clear hbk hFk
        by_cases hkl : k < P
        · have hix := ix_own (b := br) (n := P) (c := P) (k := k) Try.underlying22 szInt hkl
          have q0 := HBK.out.cell k (ints_get (fill_get hkl))
          have q1 := HBK.out.free k
          have q2 := HBK.out.lt
          go_wp2
          go_roundw
          case rel =>
            refine ⟨k + 1, by omega, by go_num, ?_, HFK.out.setCell (.inl rfl) _⟩
            have e := HBK.out.set k (.int .i64 (-1))
            rw [ints_set, fill_set hkl] at e
            exact e
          case measure => simp [intOf]; omega
        · obtain rfl : k = P := by omega
          have HBP : Hid (Blk wr br (.cells (ints (List.replicate k (-1 : Int))).toArray 3)) := by
            have e := HBK.out
            rw [Nat.sub_self, List.replicate_zero, List.append_nil] at e
            exact e
          have hbrq := HBR.out
          have HFQ : Hid (Frame (fun b => b = br) wq wr) := (HF1.out.trans HFK.out (fun b hb e => by have := HBR.out; omega)).mono (fun b _ e => by cases e)
          have HMR : Hid (Mk wr (w.heap.size + 1) nn A c rs.length first W.heap.size k q (.slice Ov q oc) bs) := HM.out.frame HFQ.out (by omega) (fun g hg e => by have := (HM.out.own.lt _ hg).2; omega) (fun b hb e => by have := (HM.out.lt hb).1; omega)
          have hsr := HFQ.out.size
          have g3 := HMR.out.box.cell 3 (v := .slice Ov q oc) rfl
          have lb3 := HMR.out.box.lt
          go_wp2_with (at_builtin; go_must (refine wpList_app1' r130 _ rfl _ _ rfl HMR.out.own rfl [_] 1 rfl rfl (by simp [Value.oneCell']) (by omega) (by omega) ?_); intro v6 w6 ho6 hB6 hg6 hloc6; obtain ⟨Av6, cv6, rfl⟩ := own_fits ho6; have hb6 := HMR.out.box.grown hg6 (own_ne HMR.out.own HMR.out.box (by decide)); have b1 := hb6.cell 3 (v := .slice Ov q oc) rfl; have b2 := hb6.free 3; have b3 := hb6.lt)
          go_roundw
          case rel =>
            refine ⟨q + 1, _, bs ++ [br], by omega, by go_num, HMR.out.push (by omega) HBP.out hbr1 (fun hm => by have := (HM.out.lt hm).1; omega) hg6 ho6, ?_⟩
            refine (((HF.out.trans HFQ.out (fun b hb e => by omega)).trans (Frame.of_grown hg6) (fun b hb e => by have := (HMR.out.own.lt _ e).1; omega)).setCell (.inl rfl) _)
          case measure => simp [intOf]; omega
    · obtain rfl : q = P := by omega
      have hl := HM.out.len
      have hcs := (Cells.of_own HM.out.own (by simp [hl]; omega)).1
      go_wp2_with fail
      obtain rfl := HNN.out
      have hq2 := hP.out
      obtain rfl := hq2
      have hMO : MemoOk rs N first (fun _ _ => -1) := fun _ _ _ _ => .inl rfl
      have hrp : ((List.range (2 ^ N)).map fun _ => (-1 : Int)) = List.replicate (2 ^ N) (-1) := by rw [List.map_const']; simp
      have HPX : Hid (Px rs N first (w.heap.size + 1) A c Ov oc bs (.slice none 0 0) (fun _ _ => -1) wq) := by
        refine ⟨⟨by rw [hl]; exact HM.out.box, HA.out.frame ((Frame.of_all (S := fun b => b = w.heap.size + 1) HB0.out).trans HF.out (fun _ _ h => h)) (fun hn a ha => ?_), hcs, hl, HM.out.nodup, fun i b hb => ⟨?_, ?_⟩, fun hn a ha => ⟨?_, fun hm => ?_⟩, fun a ha => ⟨?_, fun hm => ?_⟩⟩, hMO⟩
        · have := HA.out.lt hn ha; omega
        · have := (HM.out.row i b hb).1; omega
        · rw [hrp]; exact (HM.out.row i b hb).2
        · have := HA.out.lt hn ha; omega
        · have := HA.out.lt hn ha
          have := (HM.out.lt hm).2
          omega
        · subst ha
          have := (HM.out.own.lt a.block rfl).1; omega
        · subst ha
          obtain ⟨i, hi'⟩ := List.getElem?_of_mem hm
          exact own_ne HM.out.own (HM.out.row i _ hi').2 (by decide) rfl
      have HPB : Hid (PB rs (w.heap.size + 1) A Ov bs wq.heap.size) := ⟨by omega, fun b hm => (HM.out.lt hm).1, fun a ha => by subst ha; exact (HM.out.own.lt a.block rfl).2, fun hn a ha => by have := HA.out.lt hn ha; omega⟩
      have hul := unk_le N known
      have hpu : 2 ^ (unk N known + 1) ≤ 2 ^ 7 := Nat.pow_le_pow_right (by decide) (by omega)
      clear hcs hrp hMO hi hz0 hz1 hz2
      refine (lay_any rs N hN6 HRB.out hrl first (w.heap.size + 1) A c Ov oc bs wq.heap.size (unk N known + 1) known has (fun _ _ => -1) (.slice none 0 0) [] wq (Nat.lt_succ_self _) HK.out HH.out HPX.out HPB.out (World.ownsRow_nil _ _ _ _) (Nat.le_refl _) (by simp; omega)).mono ?_
      rintro e w5 ⟨rfl, v5, M5, hP5, ho5, hF5, hloc5⟩
      simp only [List.nil_append, List.length_nil] at ho5
      have hgl : (growA rs N first known has 0).length ≤ 127 := by
        have := growL_len (rs := rs) (n := N) (first := first) (unk N known + 1) known has 0
        unfold growA
        omega
      obtain ⟨A5, c5, rfl⟩ := own_fits ho5
      have HC5 := Lib.hid (Cells.of_own ho5 (by rw [nds_len]; omega)).1
      have HP5 := Lib.hid hP5
      have HO5 := Lib.hid ho5
      have HF5 := Lib.hid hF5
      have g4 := hP5.p.box.cell 4 (v := .slice A5 (growA rs N first known has 0).length c5) rfl
      have lb5 := hP5.p.box.lt
      have hnb5 := hP5.p.bp_not
      clear hP5 ho5 hF5 hloc5
      go_wp2_with fail
      refine draw (fun w' => Frame (fun b => b ∈ bs) w5 w') 10 rfl (by kernel_rfl) (fun Qd hQd => ?_)
      apply anyI_step 0 rfl (by kernel_rfl)
      focus (intro wI hI Kv hKv; have t4 := cell_frame hI lb5 hnb5 g4; go_simp; exact hKv)
      intro Kd hKd
      go_simp
      refine hKd _ ?_
      clear hKd Kd
      apply anyI_step 4 rfl (by kernel_rfl)
      focus (intro wI hI Kv hKv; have t4 := cell_frame hI lb5 hnb5 g4; go_simp; exact hKv)
      intro Kd hKd
      go_simp
      refine hKd _ ?_
      clear hKd Kd
      apply anyI_step 5 rfl (by kernel_rfl)
      focus (intro wI hI Kv hKv; have t4 := cell_frame hI lb5 hnb5 g4; go_simp; exact hKv)
      intro Kd hKd
      go_simp
      refine hKd _ ?_
      clear hKd Kd
      apply anyI_step 6 rfl (by kernel_rfl)
      focus (intro wI hI Kv hKv; have t4 := cell_frame hI lb5 hnb5 g4; go_simp; exact hKv)
      intro Kd hKd
      go_simp
      refine hKd _ ?_
      clear hKd Kd
      apply anyI_step 1 rfl (by kernel_rfl)
      focus (intro wI hI Kv hKv; have t4 := cell_frame hI lb5 hnb5 g4; go_simp; exact hKv)
      intro Kd hKd
      go_simp
      refine hKd _ ?_
      clear hKd Kd
      apply anyI_step 2 rfl (by kernel_rfl)
      focus (intro wI hI Kv hKv; have t4 := cell_frame hI lb5 hnb5 g4; go_simp; exact hKv)
      intro Kd hKd
      go_simp
      refine hKd _ ?_
      clear hKd Kd
      apply anyI_step 3 rfl (by kernel_rfl)
      focus (intro wI hI Kv hKv; have t4 := cell_frame hI lb5 hnb5 g4; go_simp; exact hKv)
      intro Kd hKd
      go_simp
      refine hKd _ ?_
      clear hKd Kd
      refine anyI_one' 7 rfl (by kernel_rfl) ((Frame.refl _ _).drew) (fun Kd hKd => ?_)
      go_wp2_with (go_at_call 109; go_must (refine (depth_any rs N hN6 HRB.out hrl first (w.heap.size + 1) A c Ov oc bs _ (unk N known + 1) known has M5 _ (Nat.lt_succ_self _) HK.out HH.out (HP5.out.below (Below.refl _ w5).drew)).mono ?_); rintro e w6 ⟨rfl, hP6, hF6⟩)
      have HF6 : Hid (Frame (fun b => b ∈ bs) w5 w6) := (Frame.refl _ w5).drew.trans hF6 (fun _ _ h => h)
      clear hP6 hF6
      apply anyI_step 8 rfl (by kernel_rfl)
      focus (intro wI hI Kv hKv; go_simp; exact hKv)
      intro Kd hKd
      go_simp
      refine hKd _ ?_
      clear hKd Kd
      apply anyI_step 9 rfl (by kernel_rfl)
      focus (intro wI hI Kv hKv; go_simp; exact hKv)
      intro Kd hKd
      go_simp
      refine hKd _ ?_
      clear hKd Kd
      refine anyI_end (by kernel_rfl) (HF6.out) (hQd _ _ ?_)
      clear hQd Qd
      go_wp2
      go_ret2
      refine ⟨A5, c5, rfl, HC5.out.frame HF6.out (fun _ a ha hm => ?_), ?_⟩
      · subst ha
        have := (HO5.out.lt a.block rfl).1
        have := (HM.out.lt hm).1
        omega
      · have e1 : Frame (fun b => w.heap.size ≤ b) W wq := HF.out.mono (fun b _ e => by omega)
        have e2 : Frame (fun b => w.heap.size ≤ b) W w5 := e1.trans HF5.out (fun b _ e => by
          rcases e with e | e | e
          · omega
          · have := (HM.out.lt e).2; omega
          · cases e)
        have e3 : Frame (fun b => w.heap.size ≤ b) W w6 := e2.trans HF6.out (fun b _ e => by have := (HM.out.lt e).2; omega)
        exact HB0.out.trans (e3.below (fun b h => h) (by omega))
end Go.Proofs.Ytlnonadkdonhmaa
