/- Contracts and lemmas that a claim of this seat uses. -/
import Derived.Test.YtlnonadkdonhmaaL7
import Derived.Test.YtlnonadkdonhmaaL6
import Derived.Test.YtlnonadkdonhmaaL1
import Derived.Test.YtlnonadkdonhmaaL4

/- Contract of plan: a test. -/
namespace Go.Proofs.Ytlnonadkdonhmaa
open Go.RowKit Go.Maps

theorem cell_frame {S : Nat → Prop} {W w' : World} (hF : Frame S W w') {b i : Nat} (hb : b < W.heap.size) (hn : ¬ S b) {v : Value} (hc : W.cell? ⟨b, i, none⟩ = some v) : w'.cell? ⟨b, i, none⟩ = some v :=
  (World.cell?_of_block (w := W) (w' := w') (a := ⟨b, i, none⟩) (hF.block b hb hn)).trans hc

/-- On the way through the two plans below. -/
def PhSt (rs : List Int) (n : Nat) (first : Bool) (bm : Nat) (lim : Nat) (t : PT) (P1 P2 : Pl) (wr : World) (b1 b2 b3 b4 : Bool) (v1 v2 v3 v4 : Value) (W : World) : Prop :=
  Frame (fun b => b = bm) wr W ∧ (∃ t', PtAt W bm t' ∧ PtOk rs n first t' ∧ ∀ q, pget t' q ≠ none → pget t q ≠ none ∨ unk n q.1 < lim) ∧ (b1 = true → v1 = plV P1) ∧ (b2 = true → v2 = plV P2) ∧
  (b3 = true → ∃ g, v3 = .pointer (some ⟨g, 0, none⟩) ∧ Blk W g (.cells #[.int .i64 0, .int .i64 0, .int .i64 0] 154) ∧ wr.heap.size ≤ g) ∧
  (b4 = true → ∃ g, v4 = .pointer (some ⟨g, 0, none⟩) ∧ Blk W g (.cells #[.int .i64 0, .int .i64 0, .int .i64 0] 154) ∧ wr.heap.size ≤ g) ∧ (b3 = true → b4 = true → v3 ≠ v4)

theorem Gw.frame {S : Nat → Prop} {w w' : World} {bw bm : Nat} {n : Int} {A : Option Addr} {c : Nat} {rs : List Int} {first : Bool} (h : Gw w bw bm n A c rs first) (hF : Frame S w w') (h1 : ¬ S bw) (h2 : ints rs ≠ [] → ∀ a, A = some a → ¬ S a.block) : Gw w' bw bm n A c rs first :=
  ⟨h.g.frame hF h1, h.r.frame hF h2⟩

/-- A plan more has been found. -/
theorem PhSt.next {rs : List Int} {n : Nat} {first : Bool} {bm lim : Nat} {t tX : PT} {P1 P2 : Pl} {wr X w' : World} {b1 b2 b3 b4 : Bool} {v1 v2 v3 v4 : Value} {k' h' : Int} {e : Ending} (h : PhSt rs n first bm lim t P1 P2 wr b1 b2 b3 b4 v1 v2 v3 v4 X)
    (hT : PtAt X bm tX) (hK : ∀ q, pget tX q ≠ none → pget t q ≠ none ∨ unk n q.1 < lim) (hu : unk n k' < lim) (hp : PlanPost rs n first bm k' h' tX X e w') :
    e = .returned (plV (planA rs n first k' h')) ∧ ∀ b1' b2' v1' v2', (b1' = true → v1' = plV P1) → (b2' = true → v2' = plV P2) → PhSt rs n first bm lim t P1 P2 wr b1' b2' b3 b4 v1' v2' v3 v4 w' := by
  obtain ⟨he, t', hT', hO', hK', hF'⟩ := hp
  obtain ⟨hF, _, _, _, h3, h4, h34⟩ := h
  refine ⟨he, fun b1' b2' v1' v2' q1 q2 => ⟨hF.trans hF' (fun _ _ h => h), ⟨t', hT', hO', fun q hq => ?_⟩, q1, q2, fun e3 => ?_, fun e4 => ?_, h34⟩⟩
  · rcases hK' q hq with h | h
    · exact hK q h
    · exact .inr (by omega)
  · obtain ⟨g, hv, hb, hg⟩ := h3 e3
    exact ⟨g, hv, hb.frame hF' (fun e => MapIs.not_blk hT hb e.symm), hg⟩
  · obtain ⟨g, hv, hb, hg⟩ := h4 e4
    exact ⟨g, hv, hb.frame hF' (fun e => MapIs.not_blk hT hb e.symm), hg⟩
theorem PhSt.alloc3 {rs : List Int} {n : Nat} {first : Bool} {bm lim : Nat} {t : PT} {P1 P2 : Pl} {wr X : World} {b1 b2 b3 b4 : Bool} {v1 v2 v3 v4 : Value} (h : PhSt rs n first bm lim t P1 P2 wr b1 b2 b3 b4 v1 v2 v3 v4 X) :
    PhSt rs n first bm lim t P1 P2 wr b1 b2 true b4 v1 v2 (.pointer (some ⟨X.heap.size, 0, none⟩)) v4 (X.alloc (.cells #[.int .i64 0, .int .i64 0, .int .i64 0] 154)) := by
  obtain ⟨hF, ⟨t', hT, hO, hK⟩, h1, h2, h3, h4, h34⟩ := h
  refine ⟨hF.alloc _, ⟨t', MapIs.alloc hT _, hO, hK⟩, h1, h2, fun _ => ⟨_, rfl, Blk.new _ _, hF.size⟩, fun e4 => ?_, fun _ e4 => ?_⟩
  · obtain ⟨g, hv, hb, hg⟩ := h4 e4
    exact ⟨g, hv, hb.alloc _, hg⟩
  · obtain ⟨g, hv, hb, hg⟩ := h4 e4
    rw [hv]
    intro e
    injection e with e; injection e with e; injection e with e
    have := hb.lt; omega
theorem PhSt.alloc4 {rs : List Int} {n : Nat} {first : Bool} {bm lim : Nat} {t : PT} {P1 P2 : Pl} {wr X : World} {b1 b2 b3 b4 : Bool} {v1 v2 v3 v4 : Value} (h : PhSt rs n first bm lim t P1 P2 wr b1 b2 b3 b4 v1 v2 v3 v4 X) :
    PhSt rs n first bm lim t P1 P2 wr b1 b2 b3 true v1 v2 v3 (.pointer (some ⟨X.heap.size, 0, none⟩)) (X.alloc (.cells #[.int .i64 0, .int .i64 0, .int .i64 0] 154)) := by
  obtain ⟨hF, ⟨t', hT, hO, hK⟩, h1, h2, h3, h4, h34⟩ := h
  refine ⟨hF.alloc _, ⟨t', MapIs.alloc hT _, hO, hK⟩, h1, h2, fun e3 => ?_, fun _ => ⟨_, rfl, Blk.new _ _, hF.size⟩, fun e3 _ => ?_⟩
  · obtain ⟨g, hv, hb, hg⟩ := h3 e3
    exact ⟨g, hv, hb.alloc _, hg⟩
  · obtain ⟨g, hv, hb, hg⟩ := h3 e3
    rw [hv]
    intro e
    injection e with e; injection e with e; injection e with e
    have := hb.lt; omega


set_option maxRecDepth 100000 in
set_option maxHeartbeats 8000000 in
theorem plan_test (rs : List Int) (n : Nat) (hn : n ≤ 6) (first : Bool) (bw bm : Nat) (A : Option Addr) (c : Nat) (f : Nat) (IH : Hid (PlanIH rs n first bw bm A c f)) (known has : Int) (t : PT) (w : World) (hk : isB known) (hh : isB has) (hu : unk n known < f + 1) (hG : Gw w bw bm n A c rs first) (hT : PtAt w bm t) (hO : PtOk rs n first t)
    (hAm : Hid (ints rs ≠ [] → ∀ a, A = some a → a.block ≠ bm)) (hx : pget t (known, has) = none) {r0 : Int} (HL : Hid (leafA rs first known has = (r0, false))) :
    Calls Try.prog 105 #[.pointer (some ⟨bw, 0, none⟩), .agg #[.int .i64 known, .int .i64 has]] w (PlanPost rs n first bm known has t w) := by
  have g0' := hG.g.cell 0 (v := .int .i64 (n : Int)) rfl
  have hbm := MapIs.lt hT
  have hG0 := hG
  have g3 := hG.g.cell 3 (v := .map (some bm)) rfl
  have hbw := hG.g.lt
  have hrun : ∀ w', Below w.heap.size w w' → (Instr.lookup 148 (.map (some bm)) (.agg #[.int .i64 known, .int .i64 has]) true).run Try.prog w' = .ok (.tuple #[plV ⟨0, 0, 0⟩, .bool false]) w' := by
    intro w' hB
    have := pt_look (hT.later hB) (isB_rng hk) (isB_rng hh)
    rw [hx] at this
    exact this
  have HRUN := Lib.hid hrun
  have HT := Lib.hid hT
  have HO := Lib.hid hO
  have HX := Lib.hid hx
  have HG := Lib.hid hG
  simp only [plV] at HRUN
  have HB0 : Hid (Below w.heap.size w (((w.alloc (.cells #[.int .i64 known, .int .i64 has] 151)).alloc (.cells #[.int .i64 0, .int .i64 0, .int .i64 0] 154)))) := ((Below.refl _ w).alloc (Nat.le_refl _) _).alloc (by simp) _
  clear hrun hx hT hO hG hG0
  go_enter Try.func105, Try.ntmps105
  go_wp2
  obtain ⟨W, hW⟩ : ∃ W, (w.alloc (.cells #[.int .i64 known, .int .i64 has] 151)).alloc (.cells #[.int .i64 0, .int .i64 0, .int .i64 0] 154) = W := ⟨_, rfl⟩
  rw [hW] at HB0 ⊢
  have hb1 : Blk W w.heap.size (.cells #[.int .i64 known, .int .i64 has] 151) := by rw [← hW]; exact (Blk.new _ _).alloc _
  have hb2 : Blk W (w.heap.size + 1) (.cells #[.int .i64 0, .int .i64 0, .int .i64 0] 154) := by
    rw [← hW]
    have e := Blk.new (w.alloc (.cells #[.int .i64 known, .int .i64 has] 151)) (.cells #[.int .i64 0, .int .i64 0, .int .i64 0] 154)
    rw [World.size_alloc] at e
    exact e
  have hsW : W.heap.size = w.heap.size + 2 := by rw [← hW]; simp
  have p0 := hb1.cell 0 (v := .int .i64 known) rfl
  have p1 := hb1.cell 1 (v := .int .i64 has) rfl
  have q3 := cell_chain HB0.out hbw g3
  have l1 : w.heap.size < W.heap.size := by omega
  have l2 : w.heap.size + 1 < W.heap.size := by omega
  have l3 : bw < W.heap.size := by omega
  have HSW := Lib.hid hsW
  have H1 := Lib.hid hb1
  have H2 := Lib.hid hb2
  clear hW hb1 hb2 hsW
  refine draw (fun w' => Below W.heap.size W w') 12 rfl (by kernel_rfl) (fun Qd hQd => ?_)
  apply anyI_step 0 rfl (by kernel_rfl)
  focus (intro wI hI Kv hKv; have t0 := cell_chain hI l1 p0; have t1 := cell_chain hI l1 p1; have t3 := cell_chain hI l3 q3; have tl := HRUN.out wI (HB0.out.trans (hI.mono (by omega))); go_simp; exact hKv)
  intro Kd hKd
  go_simp
  refine hKd _ ?_
  clear hKd Kd
  apply anyI_step 1 rfl (by kernel_rfl)
  focus (intro wI hI Kv hKv; have t0 := cell_chain hI l1 p0; have t1 := cell_chain hI l1 p1; have t3 := cell_chain hI l3 q3; have tl := HRUN.out wI (HB0.out.trans (hI.mono (by omega))); go_simp; exact hKv)
  intro Kd hKd
  go_simp
  refine hKd _ ?_
  clear hKd Kd
  apply anyI_step 2 rfl (by kernel_rfl)
  focus (intro wI hI Kv hKv; have t0 := cell_chain hI l1 p0; have t1 := cell_chain hI l1 p1; have t3 := cell_chain hI l3 q3; have tl := HRUN.out wI (HB0.out.trans (hI.mono (by omega))); go_simp; exact hKv)
  intro Kd hKd
  go_simp
  refine hKd _ ?_
  clear hKd Kd
  apply anyI_step 3 rfl (by kernel_rfl)
  focus (intro wI hI Kv hKv; have t0 := cell_chain hI l1 p0; have t1 := cell_chain hI l1 p1; have t3 := cell_chain hI l3 q3; have tl := HRUN.out wI (HB0.out.trans (hI.mono (by omega))); go_simp; exact hKv)
  intro Kd hKd
  go_simp
  refine hKd _ ?_
  clear hKd Kd
  apply anyI_step 4 rfl (by kernel_rfl)
  focus (intro wI hI Kv hKv; have t0 := cell_chain hI l1 p0; have t1 := cell_chain hI l1 p1; have t3 := cell_chain hI l3 q3; have tl := HRUN.out wI (HB0.out.trans (hI.mono (by omega))); go_simp; exact hKv)
  intro Kd hKd
  go_simp
  refine hKd _ ?_
  clear hKd Kd
  apply anyI_step 5 rfl (by kernel_rfl)
  focus (intro wI hI Kv hKv; have t0 := cell_chain hI l1 p0; have t1 := cell_chain hI l1 p1; have t3 := cell_chain hI l3 q3; have tl := HRUN.out wI (HB0.out.trans (hI.mono (by omega))); go_simp; exact hKv)
  intro Kd hKd
  go_simp
  refine hKd _ ?_
  clear hKd Kd
  apply anyI_step 6 rfl (by kernel_rfl)
  focus (intro wI hI Kv hKv; have t0 := cell_chain hI l1 p0; have t1 := cell_chain hI l1 p1; have t3 := cell_chain hI l3 q3; have tl := HRUN.out wI (HB0.out.trans (hI.mono (by omega))); go_simp; exact hKv)
  intro Kd hKd
  go_simp
  refine hKd _ ?_
  clear hKd Kd
  apply anyI_step 7 rfl (by kernel_rfl)
  focus (intro wI hI Kv hKv; have t0 := cell_chain hI l1 p0; have t1 := cell_chain hI l1 p1; have t3 := cell_chain hI l3 q3; have tl := HRUN.out wI (HB0.out.trans (hI.mono (by omega))); go_simp; exact hKv)
  intro Kd hKd
  go_simp
  refine hKd _ ?_
  clear hKd Kd
  apply anyI_step 8 rfl (by kernel_rfl)
  focus (intro wI hI Kv hKv; have t0 := cell_chain hI l1 p0; have t1 := cell_chain hI l1 p1; have t3 := cell_chain hI l3 q3; have tl := HRUN.out wI (HB0.out.trans (hI.mono (by omega))); go_simp; exact hKv)
  intro Kd hKd
  go_simp
  refine hKd _ ?_
  clear hKd Kd
  refine anyI_one' 9 rfl (by kernel_rfl) ((Below.refl _ _).drew) (fun Kd hKd => ?_)
  go_wp2
  refine anyI_one' 10 rfl (by kernel_rfl) ((((Below.refl _ W).alloc (Nat.le_refl _) _).drew)) (fun Kd hKd => ?_)
  go_wp2
  apply anyI_step 11 rfl (by kernel_rfl)
  focus (intro wI hI Kv hKv; go_simp; exact hKv)
  intro Kd hKd
  go_simp
  refine hKd _ ?_
  clear hKd Kd
  refine anyI_end (by kernel_rfl) ((((Below.refl _ W).alloc (Nat.le_refl _) _).drew)) (hQd _ _ ?_)
  clear hQd Qd
  have HBW : Hid (Below W.heap.size W (W.alloc (.cells #[.int .i64 0, .int .i64 0, .int .i64 0] 154)).drew) := ((Below.refl _ W).alloc (Nat.le_refl _) _).drew
  have HGW := Lib.hid ((HG.out.later HB0.out).later HBW.out)
  go_wp2_with (go_at_call 121; go_must (refine (leaf_any bw bm n A c rs first known has _ HGW.out).mono ?_); rintro e w2 ⟨rfl, hB2⟩; rw [HL.out]; have HB2 : Hid (Below W.heap.size W w2) := HBW.out.trans (hB2.mono (by simp)); clear hB2; have s0 := cell_chain HB2.out l1 p0; have s1 := cell_chain HB2.out l1 p1; have s3 := cell_chain HB2.out l3 q3; have s4 := cell_chain (HB0.out.trans (HB2.out.mono (by omega))) hbw g0'; have hs2 := HB2.out.size; have k1 : w.heap.size < w2.heap.size := Nat.lt_of_lt_of_le l1 hs2; have k2 : w.heap.size + 1 < w2.heap.size := Nat.lt_of_lt_of_le l2 hs2; have k3 : bw < w2.heap.size := Nat.lt_of_lt_of_le l3 hs2)
  obtain ⟨V, hV⟩ : ∃ V, w2.alloc (.cells #[.int .i64 7, .int .i64 0, .int .i64 0] 154) = V := ⟨_, rfl⟩
  rw [hV]
  have HBV : Hid (Below w2.heap.size w2 V) := by rw [← hV]; exact (Below.refl _ w2).alloc (Nat.le_refl _) _
  have HV9 : Hid (Blk V w2.heap.size (.cells #[.int .i64 7, .int .i64 0, .int .i64 0] 154)) := by rw [← hV]; exact Blk.new _ _
  have HWV : Hid (Below W.heap.size W V) := HB2.out.trans (HBV.out.mono hs2)
  have HwV : Hid (Below w.heap.size w V) := HB0.out.trans (HWV.out.mono (by omega))
  have HTV : Hid (PtAt V bm t) := HT.out.later HwV.out
  have h9V := HV9.out.lt
  have HHW : Hid (W.heap.size ≤ w2.heap.size) := hs2
  clear hV s0 s1 s3 s4
  have s0 := cell_chain HWV.out l1 p0
  have s1 := cell_chain HWV.out l1 p1
  have s3 := cell_chain HWV.out l3 q3
  have H2V := Lib.hid (H2.out.below HWV.out l2)
  have HGV := Lib.hid (HG.out.later HwV.out)
  have hVs := HwV.out.size
  have HPQ : Hid (planA rs n first known has = planTo (planA rs n first) known has n) := planA_test hn hk HL.out
  go_loopw [41] (fun i wr => ∃ q : Nat, q ≤ n ∧ i = .int .i64 q ∧ (∃ t', PtAt wr bm t' ∧ PtOk rs n first t' ∧ ∀ x, pget t' x ≠ none → pget t x ≠ none ∨ unk n x.1 < unk n known) ∧
      Blk wr w2.heap.size (.cells #[.int .i64 (planTo (planA rs n first) known has q).depth, .int .i64 (planTo (planA rs n first) known has q).chan, .int .i64 (planTo (planA rs n first) known has q).rule] 154) ∧ Frame (fun b => b = bm ∨ b = w2.heap.size) V wr)
    (fun i _ => n - (intOf i).toNat)
  case atStart => exact ⟨0, Nat.zero_le _, rfl, ⟨t, HTV.out, HO.out, fun x hx => .inl hx⟩, HV9.out, Frame.refl _ _⟩
  case round =>
    obtain ⟨q, hq, rfl, ⟨t1, hT1, hO1, hK1⟩, hb9, hF⟩ := hrel
    have HT1 := Lib.hid hT1
    have HO1 := Lib.hid hO1
    have HK1 := Lib.hid hK1
    have HF := Lib.hid hF
    have HB9 := Lib.hid hb9
    have hszr := hF.size
    have m1 : w.heap.size < wr.heap.size := by omega
    have m2 : w.heap.size ≠ bm := by omega
    have m3 : w.heap.size ≠ w2.heap.size := by omega
    have c0 := cell_frame hF (by omega) (by omega) s0
    have c1 := cell_frame hF (by omega) (by omega) s1
    obtain ⟨⟨d, ch, r⟩, HPT⟩ : ∃ p, Hid (planTo (planA rs n first) known has q = p) := ⟨_, rfl⟩
    rw [HPT.out] at HB9
    simp only at HB9
    clear hT1 hO1 hK1 hF hb9
    by_cases hlt : q < n
    · by_cases hin : inI known q = true
      · have HI := Lib.hid hin
        have HS : Hid (planTo (planA rs n first) known has (q + 1) = ⟨d, ch, r⟩) := by
          show _ = _
          rw [planTo, if_pos HI.out, HPT.out]
        clear hin
        go_wp2_with (go_at_call 107; refine (in_any known q _ (by omega) (by omega)).mono ?_; rintro e w1 ⟨rfl, rfl⟩; rw [HI.out])
        go_roundw
        case rel => exact ⟨q + 1, by omega, by go_num, ⟨t1, HT1.out, HO1.out, HK1.out⟩, by rw [HS.out]; exact HB9.out, HF.out⟩
        case measure => simp [intOf]; omega
      · simp only [Bool.not_eq_true] at hin
        have HI := Lib.hid hin
        obtain ⟨P1, HP1⟩ : ∃ p, Hid (planA rs n first (fullI known q) (fullI has q) = p) := ⟨_, rfl⟩
        obtain ⟨P2, HP2⟩ : ∃ p, Hid (planA rs n first (fullI known q) has = p) := ⟨_, rfl⟩
        have hd1 : 0 ≤ P1.depth ∧ P1.depth ≤ 7 := by rw [← HP1.out]; exact planA_bd _ _ _ _ _
        have hd2 : 0 ≤ P2.depth ∧ P2.depth ≤ 7 := by rw [← HP2.out]; exact planA_bd _ _ _ _ _
        have HU : Hid (unk n (fullI known q) + 1 = unk n known) := unk_full hn hk hlt hin
        have HKB : Hid (isB (fullI known q)) := full_isB hk (by omega) (by omega)
        have HHB : Hid (isB (fullI has q)) := full_isB hh (by omega) (by omega)
        have hp := p2_nat (k := q) (by omega)
        have hp' : IntKind.i64.wrap (2 ^ q) = 2 ^ q := by rw [IntKind.wrap_i64]; unfold wrap64 at hp; exact hp
        have hbwm : ¬ bw = bm := fun e => MapIs.not_blk HT.out HG.out.g e.symm
        have HGR : Hid (Gw wr bw bm n A c rs first) := HGV.out.frame HF.out (by omega) (fun hn a ha => by have := HG.out.r.lt hn ha; have := hAm.out hn a ha; omega)
        have HE1 : Hid (bits BinOp.or .i64 known (2 ^ q) = fullI known q) := by show _ = _; simp [fullI]
        have HE2 : Hid (bits BinOp.or .i64 has (2 ^ q) = fullI has q) := by show _ = _; simp [fullI]
        clear hin
        go_wp2_with (go_at_call 107; refine (in_any known q _ (by omega) (by omega)).mono ?_; rintro e w1 ⟨rfl, rfl⟩; rw [HI.out])
        refine draw (fun w' => Frame (fun b => b = bm) wr w') 27 rfl (by kernel_rfl) (fun Qd hQd => ?_)
        apply anyI_step 0 rfl (by kernel_rfl)
        focus (intro wI hI Kv hKv; have t0 := cell_frame hI m1 m2 c0; have t1 := cell_frame hI m1 m2 c1; go_simp; exact hKv)
        intro Kd hKd
        go_simp
        refine hKd _ ?_
        clear hKd Kd
        apply anyI_step 1 rfl (by kernel_rfl)
        focus (intro wI hI Kv hKv; have t0 := cell_frame hI m1 m2 c0; have t1 := cell_frame hI m1 m2 c1; go_simp; exact hKv)
        intro Kd hKd
        go_simp
        refine hKd _ ?_
        clear hKd Kd
        apply anyI_step 2 rfl (by kernel_rfl)
        focus (intro wI hI Kv hKv; have t0 := cell_frame hI m1 m2 c0; have t1 := cell_frame hI m1 m2 c1; go_simp; exact hKv)
        intro Kd hKd
        go_simp
        refine hKd _ ?_
        clear hKd Kd
        apply anyI_step 3 rfl (by kernel_rfl)
        focus (intro wI hI Kv hKv; have t0 := cell_frame hI m1 m2 c0; have t1 := cell_frame hI m1 m2 c1; go_simp; exact hKv)
        intro Kd hKd
        go_simp
        refine hKd _ ?_
        clear hKd Kd
        apply anyI_step 4 rfl (by kernel_rfl)
        focus (intro wI hI Kv hKv; have t0 := cell_frame hI m1 m2 c0; have t1 := cell_frame hI m1 m2 c1; go_simp; exact hKv)
        intro Kd hKd
        go_simp
        refine hKd _ ?_
        clear hKd Kd
        apply anyI_step 5 rfl (by kernel_rfl)
        focus (intro wI hI Kv hKv; have t0 := cell_frame hI m1 m2 c0; have t1 := cell_frame hI m1 m2 c1; go_simp; exact hKv)
        intro Kd hKd
        go_simp
        refine hKd _ ?_
        clear hKd Kd
        apply anyI_step 6 rfl (by kernel_rfl)
        focus (intro wI hI Kv hKv; have t0 := cell_frame hI m1 m2 c0; have t1 := cell_frame hI m1 m2 c1; go_simp; exact hKv)
        intro Kd hKd
        go_simp
        refine hKd _ ?_
        clear hKd Kd
        apply anyI_step 7 rfl (by kernel_rfl)
        focus (intro wI hI Kv hKv; have t0 := cell_frame hI m1 m2 c0; have t1 := cell_frame hI m1 m2 c1; go_simp; exact hKv)
        intro Kd hKd
        go_simp
        refine hKd _ ?_
        clear hKd Kd
        apply anyI_step 8 rfl (by kernel_rfl)
        focus (intro wI hI Kv hKv; have t0 := cell_frame hI m1 m2 c0; have t1 := cell_frame hI m1 m2 c1; go_simp; exact hKv)
        intro Kd hKd
        go_simp
        refine hKd _ ?_
        clear hKd Kd
        apply anyI_step 9 rfl (by kernel_rfl)
        focus (intro wI hI Kv hKv; have t0 := cell_frame hI m1 m2 c0; have t1 := cell_frame hI m1 m2 c1; go_simp; exact hKv)
        intro Kd hKd
        go_simp
        refine hKd _ ?_
        clear hKd Kd
        apply anyI_step 10 rfl (by kernel_rfl)
        focus (intro wI hI Kv hKv; have t0 := cell_frame hI m1 m2 c0; have t1 := cell_frame hI m1 m2 c1; go_simp; exact hKv)
        intro Kd hKd
        go_simp
        refine hKd _ ?_
        clear hKd Kd
        apply anyI_step 11 rfl (by kernel_rfl)
        focus (intro wI hI Kv hKv; have t0 := cell_frame hI m1 m2 c0; have t1 := cell_frame hI m1 m2 c1; go_simp; exact hKv)
        intro Kd hKd
        go_simp
        refine hKd _ ?_
        clear hKd Kd
        apply anyI_step 13 rfl (by kernel_rfl)
        focus (intro wI hI Kv hKv; have t0 := cell_frame hI m1 m2 c0; have t1 := cell_frame hI m1 m2 c1; go_simp; exact hKv)
        intro Kd hKd
        go_simp
        refine hKd _ ?_
        clear hKd Kd
        apply anyI_step 14 rfl (by kernel_rfl)
        focus (intro wI hI Kv hKv; have t0 := cell_frame hI m1 m2 c0; have t1 := cell_frame hI m1 m2 c1; go_simp; exact hKv)
        intro Kd hKd
        go_simp
        refine hKd _ ?_
        clear hKd Kd
        apply anyI_step 15 rfl (by kernel_rfl)
        focus (intro wI hI Kv hKv; have t0 := cell_frame hI m1 m2 c0; have t1 := cell_frame hI m1 m2 c1; go_simp; exact hKv)
        intro Kd hKd
        go_simp
        refine hKd _ ?_
        clear hKd Kd
        apply anyI_step 16 rfl (by kernel_rfl)
        focus (intro wI hI Kv hKv; have t0 := cell_frame hI m1 m2 c0; have t1 := cell_frame hI m1 m2 c1; go_simp; exact hKv)
        intro Kd hKd
        go_simp
        refine hKd _ ?_
        clear hKd Kd
        apply anyI_step 17 rfl (by kernel_rfl)
        focus (intro wI hI Kv hKv; have t0 := cell_frame hI m1 m2 c0; have t1 := cell_frame hI m1 m2 c1; go_simp; exact hKv)
        intro Kd hKd
        go_simp
        refine hKd _ ?_
        clear hKd Kd
        apply anyI_step 18 rfl (by kernel_rfl)
        focus (intro wI hI Kv hKv; have t0 := cell_frame hI m1 m2 c0; have t1 := cell_frame hI m1 m2 c1; go_simp; exact hKv)
        intro Kd hKd
        go_simp
        refine hKd _ ?_
        clear hKd Kd
        apply anyI_step 19 rfl (by kernel_rfl)
        focus (intro wI hI Kv hKv; have t0 := cell_frame hI m1 m2 c0; have t1 := cell_frame hI m1 m2 c1; go_simp; exact hKv)
        intro Kd hKd
        go_simp
        refine hKd _ ?_
        clear hKd Kd
        apply anyI_step 20 rfl (by kernel_rfl)
        focus (intro wI hI Kv hKv; have t0 := cell_frame hI m1 m2 c0; have t1 := cell_frame hI m1 m2 c1; go_simp; exact hKv)
        intro Kd hKd
        go_simp
        refine hKd _ ?_
        clear hKd Kd
        apply anyI_step 21 rfl (by kernel_rfl)
        focus (intro wI hI Kv hKv; have t0 := cell_frame hI m1 m2 c0; have t1 := cell_frame hI m1 m2 c1; go_simp; exact hKv)
        intro Kd hKd
        go_simp
        refine hKd _ ?_
        clear hKd Kd
        refine anyI_phase4 60 70 11 12 12 22 23 24 #[true, true, true, true, true, true, true, true, true, true, true, true, true, true, true, true, true, true, true, true, true, true, true, true, true, false, false] (PhSt rs n first bm (unk n known) t P1 P2 wr) rfl rfl rfl rfl (by decide) (by kernel_rfl) ⟨rfl, rfl, rfl, rfl⟩ ⟨rfl, rfl, rfl, rfl⟩ ?st ?inv ?s1 ?s2 ?s3 ?s4 ?fin
        case st => exact ⟨(Frame.refl _ _).drew, ⟨t1, HT1.out, HO1.out, HK1.out⟩, fun h => (by cases h), fun h => (by cases h), fun h => (by cases h), fun h => (by cases h), fun h => (by cases h)⟩
        case inv => exact fun _ _ _ _ _ _ _ _ _ h => h.1
        case s1 =>
          rintro b2 b3 b4 v1 v2 v3 v4 X hX
          have HXX := Lib.hid hX
          clear hX
          refine opQ_of_list (fun K' hK' => ?_)
          unfold put4
          obtain ⟨hFX, ⟨tX, hTX, hOX, hKX⟩, _⟩ := HXX.out
          have hGX := HGR.out.frame hFX hbwm (fun hn a ha => hAm.out hn a ha)
          have HTX := Lib.hid hTX
          have HKX := Lib.hid hKX
          have HOX := Lib.hid hOX
          clear hTX hKX hOX hFX
          go_wp2_with (go_at_call 105; rw [HE1.out, HE2.out]; go_must (refine (IH.out (fullI known q) (fullI has q) tX X (by have := HU.out; omega) HKB.out HHB.out hGX HTX.out HOX.out hAm.out).mono ?_); intro e w5 hp5; obtain ⟨rfl, hph⟩ := HXX.out.next HTX.out HKX.out (by have := HU.out; omega) hp5; rw [HP1.out]; have HPH := Lib.hid hph; clear hph hp5)
          exact ⟨_, rfl, HPH.out true b2 _ v2 (fun _ => rfl) HXX.out.2.2.2.1⟩
        case s2 =>
          rintro b1 b3 b4 v1 v2 v3 v4 X hX
          have HXX := Lib.hid hX
          clear hX
          refine opQ_of_list (fun K' hK' => ?_)
          unfold put4
          obtain ⟨hFX, ⟨tX, hTX, hOX, hKX⟩, _⟩ := HXX.out
          have hGX := HGR.out.frame hFX hbwm (fun hn a ha => hAm.out hn a ha)
          have HTX := Lib.hid hTX
          have HKX := Lib.hid hKX
          have HOX := Lib.hid hOX
          clear hTX hKX hOX hFX
          go_wp2_with (go_at_call 105; rw [HE1.out]; go_must (refine (IH.out (fullI known q) has tX X (by have := HU.out; omega) HKB.out hh hGX HTX.out HOX.out hAm.out).mono ?_); intro e w5 hp5; obtain ⟨rfl, hph⟩ := HXX.out.next HTX.out HKX.out (by have := HU.out; omega) hp5; rw [HP2.out]; have HPH := Lib.hid hph; clear hph hp5)
          exact ⟨_, rfl, HPH.out b1 true v1 _ HXX.out.2.2.1 (fun _ => rfl)⟩
        case s3 =>
          rintro b1 b2 b4 v1 v2 v3 v4 X hX
          have HXX := Lib.hid hX
          clear hX
          refine opQ_of_list (fun K' hK' => ?_)
          unfold put4
          go_wp2
          exact ⟨_, rfl, HXX.out.alloc3⟩
        case s4 =>
          rintro b1 b2 b3 v1 v2 v3 v4 X hX
          have HXX := Lib.hid hX
          clear hX
          refine opQ_of_list (fun K' hK' => ?_)
          unfold put4
          go_wp2
          exact ⟨_, rfl, HXX.out.alloc4⟩
        case fin =>
          rintro v1 v2 v3 v4 X ⟨hFX, ⟨tX, hTX, hOX, hKX⟩, h1, h2, h3, h4, h34⟩
          obtain rfl := h1 rfl
          obtain rfl := h2 rfl
          obtain ⟨ga, rfl, hba, hga⟩ := h3 rfl
          obtain ⟨gb, rfl, hbb, hgb⟩ := h4 rfl
          have hab : ¬ ga = gb := fun e => h34 rfl rfl (by rw [e])
          have hba' : ¬ gb = ga := fun e => hab e.symm
          have HBA := Lib.hid hba
          have HBB := Lib.hid hbb
          have HTX := Lib.hid hTX
          have HKX := Lib.hid hKX
          have HOX := Lib.hid hOX
          have HFX := Lib.hid hFX
          obtain ⟨d1, c1', r1⟩ := P1
          obtain ⟨d2, c2', r2⟩ := P2
          have a0 := hba.cell 0 (v := .int .i64 0) rfl
          have a1 := hba.cell 1 (v := .int .i64 0) rfl
          have a2 := hba.cell 2 (v := .int .i64 0) rfl
          have a3 := hba.free 0
          have a4 := hba.free 1
          have a5 := hba.free 2
          have e0 := hbb.cell 0 (v := .int .i64 0) rfl
          have e1 := hbb.cell 1 (v := .int .i64 0) rfl
          have e2 := hbb.cell 2 (v := .int .i64 0) rfl
          have e3 := hbb.free 0
          have e4 := hbb.free 1
          have e5 := hbb.free 2
          have h9X := HB9.out.frame HFX.out (fun e => MapIs.not_blk HT1.out HB9.out e.symm)
          have H9X := Lib.hid h9X
          have f0 := h9X.cell 0 (v := .int .i64 d) rfl
          have f1 := h9X.cell 1 (v := .int .i64 ch) rfl
          have f2 := h9X.cell 2 (v := .int .i64 r) rfl
          have f3 := h9X.free 0
          have f4 := h9X.free 1
          have f5 := h9X.free 2
          have n1 : ¬ ga = w2.heap.size := by omega
          have n2 : ¬ gb = w2.heap.size := by omega
          have n3 : ¬ w2.heap.size = ga := by omega
          have n4 : ¬ w2.heap.size = gb := by omega
          simp only at hd1 hd2
          unfold put4
          simp only [plV]
          clear h1 h2 h3 h4 h34 hba hbb hTX hKX hOX hFX h9X
          refine anyI_one' 25 rfl (by kernel_rfl) (HFX.out) (fun Kd hKd => ?_)
          go_wp2
          have HFa : Hid (Frame (fun b => b = bm) wr (((X.setCell ⟨ga, 0, none⟩ (.int .i64 d1)).setCell ⟨ga, 1, none⟩ (.int .i64 c1')).setCell ⟨ga, 2, none⟩ (.int .i64 r1))) := ((HFX.out.setCell (.inr hga) _).setCell (.inr hga) _).setCell (.inr hga) _
          refine anyI_one' 26 rfl (by kernel_rfl) (HFa.out) (fun Kd hKd => ?_)
          go_wp2
          have HFb : Hid (Frame (fun b => b = bm) wr ((((((X.setCell ⟨ga, 0, none⟩ (.int .i64 d1)).setCell ⟨ga, 1, none⟩ (.int .i64 c1')).setCell ⟨ga, 2, none⟩ (.int .i64 r1)).setCell ⟨gb, 0, none⟩ (.int .i64 d2)).setCell ⟨gb, 1, none⟩ (.int .i64 c2')).setCell ⟨gb, 2, none⟩ (.int .i64 r2))) := ((HFa.out.setCell (.inr hgb) _).setCell (.inr hgb) _).setCell (.inr hgb) _
          refine anyI_end (by kernel_rfl) (HFb.out) (hQd _ _ ?_)
          clear hQd Qd
          have HYA : Hid (Blk ((((((X.setCell ⟨ga, 0, none⟩ (.int .i64 d1)).setCell ⟨ga, 1, none⟩ (.int .i64 c1')).setCell ⟨ga, 2, none⟩ (.int .i64 r1)).setCell ⟨gb, 0, none⟩ (.int .i64 d2)).setCell ⟨gb, 1, none⟩ (.int .i64 c2')).setCell ⟨gb, 2, none⟩ (.int .i64 r2)) ga (.cells #[.int .i64 d1, .int .i64 c1', .int .i64 r1] 154)) := (((((HBA.out.set 0 (.int .i64 d1)).set 1 (.int .i64 c1')).set 2 (.int .i64 r1)).far (by exact hab) _).far (by exact hab) _).far (by exact hab) _
          have HYB : Hid (Blk ((((((X.setCell ⟨ga, 0, none⟩ (.int .i64 d1)).setCell ⟨ga, 1, none⟩ (.int .i64 c1')).setCell ⟨ga, 2, none⟩ (.int .i64 r1)).setCell ⟨gb, 0, none⟩ (.int .i64 d2)).setCell ⟨gb, 1, none⟩ (.int .i64 c2')).setCell ⟨gb, 2, none⟩ (.int .i64 r2)) gb (.cells #[.int .i64 d2, .int .i64 c2', .int .i64 r2] 154)) := (((((HBB.out.far (by exact hba') _).far (by exact hba') _).far (by exact hba') _).set 0 (.int .i64 d2)).set 1 (.int .i64 c2')).set 2 (.int .i64 r2)
          have HY9 : Hid (Blk ((((((X.setCell ⟨ga, 0, none⟩ (.int .i64 d1)).setCell ⟨ga, 1, none⟩ (.int .i64 c1')).setCell ⟨ga, 2, none⟩ (.int .i64 r1)).setCell ⟨gb, 0, none⟩ (.int .i64 d2)).setCell ⟨gb, 1, none⟩ (.int .i64 c2')).setCell ⟨gb, 2, none⟩ (.int .i64 r2)) w2.heap.size (.cells #[.int .i64 d, .int .i64 ch, .int .i64 r] 154)) := (((((H9X.out.far (by exact n3) _).far (by exact n3) _).far (by exact n3) _).far (by exact n4) _).far (by exact n4) _).far (by exact n4) _
          have hna : bm ≠ ga := MapIs.not_blk HTX.out HBA.out
          have hnb : bm ≠ gb := MapIs.not_blk HTX.out HBB.out
          have hn9 : bm ≠ w2.heap.size := MapIs.not_blk HTX.out H9X.out
          have HYT : Hid (PtAt ((((((X.setCell ⟨ga, 0, none⟩ (.int .i64 d1)).setCell ⟨ga, 1, none⟩ (.int .i64 c1')).setCell ⟨ga, 2, none⟩ (.int .i64 r1)).setCell ⟨gb, 0, none⟩ (.int .i64 d2)).setCell ⟨gb, 1, none⟩ (.int .i64 c2')).setCell ⟨gb, 2, none⟩ (.int .i64 r2)) bm tX) := MapIs.far (MapIs.far (MapIs.far (MapIs.far (MapIs.far (MapIs.far HTX.out (by exact hna) _) (by exact hna) _) (by exact hna) _) (by exact hnb) _) (by exact hnb) _) (by exact hnb) _
          obtain ⟨Y, hY⟩ : ∃ Y, ((((((X.setCell ⟨ga, 0, none⟩ (.int .i64 d1)).setCell ⟨ga, 1, none⟩ (.int .i64 c1')).setCell ⟨ga, 2, none⟩ (.int .i64 r1)).setCell ⟨gb, 0, none⟩ (.int .i64 d2)).setCell ⟨gb, 1, none⟩ (.int .i64 c2')).setCell ⟨gb, 2, none⟩ (.int .i64 r2)) = Y := ⟨_, rfl⟩
          rw [hY] at HFb HYA HYB HY9 HYT ⊢
          clear hY a0 a1 a2 a3 a4 a5 e0 e1 e2 e3 e4 e5 f0 f1 f2 f3 f4 f5 n1 n2 n3 n4 hab hba' hna hnb
          have y1 := HYA.out.cell 0 (v := .int .i64 d1) rfl
          have y2 := HYB.out.cell 0 (v := .int .i64 d2) rfl
          have f0 := HY9.out.cell 0 (v := .int .i64 d) rfl
          have f1 := HY9.out.cell 1 (v := .int .i64 ch) rfl
          have f2 := HY9.out.cell 2 (v := .int .i64 r) rfl
          have f3 := HY9.out.free 0
          have f4 := HY9.out.free 1
          have f5 := HY9.out.free 2
          obtain ⟨D, HD, hD1, hD2, hcase⟩ : ∃ D : Int, Hid (1 + max d1 d2 = D) ∧ 1 ≤ D ∧ D ≤ 8 ∧ ((d1 < d2 ∧ D = 1 + d2) ∨ (d1 = d2 ∧ D = 1 + d2) ∨ (d2 < d1 ∧ D = 1 + d1)) := ⟨1 + max d1 d2, rfl, by omega, by omega, by omega⟩
          have HSq : Hid (planTo (planA rs n first) known has (q + 1) = if D < d then ⟨D, q, 0⟩ else ⟨d, ch, r⟩) := by
            show _ = _
            rw [planTo, if_neg (by rw [HI.out]; decide), HPT.out, HP1.out, HP2.out]
            simp only [HD.out]
          have HCASE := Lib.hid hcase
          clear hcase
          by_cases hDd : D < d
          · have HS : Hid (planTo (planA rs n first) known has (q + 1) = ⟨D, q, 0⟩) := by rw [HSq.out, if_pos hDd]; exact Lib.hid rfl
            have hFY : Frame (fun b => b = bm ∨ b = w2.heap.size) V Y := HF.out.trans HFb.out (fun b _ e => .inl e)
            have HFY := Lib.hid hFY
            clear hFY HSq
            rcases HCASE.out with ⟨hle, rfl⟩ | ⟨rfl, rfl⟩ | ⟨hle, rfl⟩
            all_goals clear HCASE HD
            · go_wp2
              go_roundw
              case rel =>
                refine ⟨q + 1, by omega, by go_num, ⟨tX, MapIs.far (MapIs.far (MapIs.far HYT.out (p := ⟨w2.heap.size, 0, none⟩) hn9 _) (p := ⟨w2.heap.size, 1, none⟩) hn9 _) (p := ⟨w2.heap.size, 2, none⟩) hn9 _, HOX.out, HKX.out⟩, ?_, ((HFY.out.setCell (p := ⟨w2.heap.size, 0, none⟩) (.inl (.inr rfl)) _).setCell (p := ⟨w2.heap.size, 1, none⟩) (.inl (.inr rfl)) _).setCell (p := ⟨w2.heap.size, 2, none⟩) (.inl (.inr rfl)) _⟩
                rw [HS.out]
                exact ((HY9.out.set 0 (.int .i64 (1 + d2))).set 1 (.int .i64 q)).set 2 (.int .i64 0)
              case measure => simp [intOf]; omega
            · go_wp2
              go_roundw
              case rel =>
                refine ⟨q + 1, by omega, by go_num, ⟨tX, MapIs.far (MapIs.far (MapIs.far HYT.out (p := ⟨w2.heap.size, 0, none⟩) hn9 _) (p := ⟨w2.heap.size, 1, none⟩) hn9 _) (p := ⟨w2.heap.size, 2, none⟩) hn9 _, HOX.out, HKX.out⟩, ?_, ((HFY.out.setCell (p := ⟨w2.heap.size, 0, none⟩) (.inl (.inr rfl)) _).setCell (p := ⟨w2.heap.size, 1, none⟩) (.inl (.inr rfl)) _).setCell (p := ⟨w2.heap.size, 2, none⟩) (.inl (.inr rfl)) _⟩
                rw [HS.out]
                exact ((HY9.out.set 0 (.int .i64 (1 + d1))).set 1 (.int .i64 q)).set 2 (.int .i64 0)
              case measure => simp [intOf]; omega
            · go_wp2
              go_roundw
              case rel =>
                refine ⟨q + 1, by omega, by go_num, ⟨tX, MapIs.far (MapIs.far (MapIs.far HYT.out (p := ⟨w2.heap.size, 0, none⟩) hn9 _) (p := ⟨w2.heap.size, 1, none⟩) hn9 _) (p := ⟨w2.heap.size, 2, none⟩) hn9 _, HOX.out, HKX.out⟩, ?_, ((HFY.out.setCell (p := ⟨w2.heap.size, 0, none⟩) (.inl (.inr rfl)) _).setCell (p := ⟨w2.heap.size, 1, none⟩) (.inl (.inr rfl)) _).setCell (p := ⟨w2.heap.size, 2, none⟩) (.inl (.inr rfl)) _⟩
                rw [HS.out]
                exact ((HY9.out.set 0 (.int .i64 (1 + d1))).set 1 (.int .i64 q)).set 2 (.int .i64 0)
              case measure => simp [intOf]; omega
          · have HS : Hid (planTo (planA rs n first) known has (q + 1) = ⟨d, ch, r⟩) := by rw [HSq.out, if_neg hDd]; exact Lib.hid rfl
            have hFY : Frame (fun b => b = bm ∨ b = w2.heap.size) V Y := HF.out.trans HFb.out (fun b _ e => .inl e)
            have HFY := Lib.hid hFY
            clear hFY HSq
            rcases HCASE.out with ⟨hle, rfl⟩ | ⟨rfl, rfl⟩ | ⟨hle, rfl⟩
            all_goals clear HCASE HD
            · go_wp2
              go_roundw
              case rel => exact ⟨q + 1, by omega, by go_num, ⟨tX, HYT.out, HOX.out, HKX.out⟩, by rw [HS.out]; exact HY9.out, HFY.out⟩
              case measure => simp [intOf]; omega
            · go_wp2
              go_roundw
              case rel => exact ⟨q + 1, by omega, by go_num, ⟨tX, HYT.out, HOX.out, HKX.out⟩, by rw [HS.out]; exact HY9.out, HFY.out⟩
              case measure => simp [intOf]; omega
            · go_wp2
              go_roundw
              case rel => exact ⟨q + 1, by omega, by go_num, ⟨tX, HYT.out, HOX.out, HKX.out⟩, by rw [HS.out]; exact HY9.out, HFY.out⟩
              case measure => simp [intOf]; omega
    · obtain rfl : q = n := by omega
      have HNV : Hid (pget t1 (known, has) = none) := by
        show _ = _
        cases e : pget t1 (known, has) with
        | none => rfl
        | some x =>
          rcases HK1.out (known, has) (by rw [e]; simp) with h | h
          · exact absurd HX.out h
          · exact absurd h (Nat.lt_irrefl _)
      have HFV : Hid (Frame (fun b => b = bm) w wr) := (Frame.of_all (S := fun b => b = bm) HwV.out).trans HF.out (fun b hb e => by
        rcases e with e | e
        · exact e
        · omega)
      have HKV : Hid (∀ x, pget t1 x ≠ none → pget t x ≠ none ∨ unk q x.1 ≤ unk q known) := fun x hx => (HK1.out x hx).imp id Nat.le_of_lt
      have HPL : Hid ((⟨d, ch, r⟩ : Pl) = planA rs q first known has) := by rw [HPQ.out, HPT.out]; exact Lib.hid rfl
      have H2R : Hid (Blk wr (w.heap.size + 1) (.cells #[.int .i64 0, .int .i64 0, .int .i64 0] 154)) := H2V.out.frame HF.out (by omega)
      have b1' : bw < V.heap.size := by omega
      have b2' : ¬ (bw = bm ∨ bw = w2.heap.size) := by
        rintro (e | e)
        · exact MapIs.not_blk HT.out HG.out.g e.symm
        · omega
      have s3' := cell_frame HF.out b1' b2' s3
      clear s0 s1 s3
      have v0 := HB9.out.cell 0 (v := .int .i64 d) rfl
      have v1 := HB9.out.cell 1 (v := .int .i64 ch) rfl
      have v2 := HB9.out.cell 2 (v := .int .i64 r) rfl
      obtain ⟨w5, hput, hT5, hg5⟩ := pt_put (w := wr.drew) HT1.out (isB_rng hk) (isB_rng hh) HNV.out (n := ⟨d, ch, r⟩)
      simp only [plV] at hput
      have HT5 := Lib.hid hT5
      have HG5 := Lib.hid hg5
      have hn9 : some bm ≠ some w2.heap.size := fun e => HT1.out.not_blk HB9.out (by injection e)
      have hnr : some bm ≠ some (w.heap.size + 1) := fun e => HT1.out.not_blk H2R.out (by injection e)
      have V9 := Lib.hid (Blk.grown (w := wr.drew) HB9.out hg5 hn9)
      have V2 := Lib.hid (Blk.grown (w := wr.drew) H2R.out hg5 hnr)
      have x0 := V9.out.cell 0 (v := .int .i64 d) rfl
      have x1 := V9.out.cell 1 (v := .int .i64 ch) rfl
      have x2 := V9.out.cell 2 (v := .int .i64 r) rfl
      have z0 := V2.out.cell 0 (v := .int .i64 0) rfl
      have z1 := V2.out.cell 1 (v := .int .i64 0) rfl
      have z2 := V2.out.cell 2 (v := .int .i64 0) rfl
      have y0 := V2.out.free 0
      have y1 := V2.out.free 1
      have y2 := V2.out.free 2
      clear hT5 hg5 hn9 hnr
      go_wp2
      refine stail 6 (by kernel_rfl) (by kernel_rfl) (fun Kq hKq => ?_)
      simp only [List.take_succ_cons, List.take_zero, List.drop_succ_cons, List.drop_zero] at hKq ⊢
      repeat still_step
      refine wpStill_nil (hKq _ ?_)
      clear hKq Kq
      go_wp2
      obtain ⟨hl, hp⟩ := plan_close (br := w.heap.size + 1) (by omega) V2.out HT5.out HG5.out HFV.out HO1.out HNV.out HKV.out HPL.out
      exact bodyPost_ret (v := .agg #[.int .i64 d, .int .i64 ch, .int .i64 r]) (results_c rfl rfl hl) rfl hp
end Go.Proofs.Ytlnonadkdonhmaa

/- Contract of plan, whole; trees in plain words. -/
namespace Go.Proofs.Ytlnonadkdonhmaa
open Go.RowKit Go.Maps

theorem plan_any (rs : List Int) (n : Nat) (hn : n ≤ 6) (first : Bool) (bw bm : Nat) (A : Option Addr) (c : Nat) : ∀ f, PlanIH rs n first bw bm A c f
  | 0 => fun _ _ _ _ h => absurd h (Nat.not_lt_zero _)
  | f + 1 => by
    intro known has t w hu hk hh hG hT hO hA
    have ih := plan_any rs n hn first bw bm A c f
    cases hx : pget t (known, has) with
    | some x => exact plan_found rs n first bw bm A c known has t w hk hh hG hT hO hx
    | none =>
      cases hl : leafA rs first known has with
      | mk r b =>
        cases b with
        | true => exact plan_leaf rs n first bw bm A c known has t w hk hh hG hT hO hx hl
        | false => exact plan_test rs n hn first bw bm A c f ih known has t w hk hh hu hG hT hO hA hx hl

/-! ### which channel is tested -/
/-- All rules are sets of the first n channels. -/
def rulesB (n : Nat) (rs : List Int) : Prop := ∀ r ∈ rs, goodR n r = true
theorem full_known_all : ((List.range 7).all fun n => (List.range 64).all fun k => (List.range 64).all fun r => !((List.range n).all fun c => inI (k : Int) (c : Int)) || !(decide (r < 2 ^ n)) || decide (bits BinOp.and .i64 (r : Int) (k : Int) = r)) = true := by kernel_rfl
theorem goodR_lt {n : Nat} {r : Int} (h : goodR n r = true) : 1 ≤ r ∧ r < 2 ^ n := by
  simp only [goodR, setI, Bool.and_eq_true, decide_eq_true_eq, Int.toNat_natCast] at h
  exact ⟨h.1, h.2.2⟩
theorem and_full {n : Nat} (hn : n ≤ 6) {k r : Int} (hk : isB k) (hr : goodR n r = true) (hall : ∀ c : Nat, c < n → inI k c = true) : bits BinOp.and .i64 r k = r := by
  obtain ⟨h1, h2⟩ := goodR_lt hr
  obtain ⟨x, rfl⟩ := Int.eq_ofNat_of_zero_le hk.1
  obtain ⟨y, rfl⟩ := Int.eq_ofNat_of_zero_le (show 0 ≤ r by omega)
  have hx := hk.2
  have hy : y < 2 ^ n := by exact_mod_cast h2
  have hy6 : 2 ^ n ≤ 2 ^ 6 := Nat.pow_le_pow_right (by decide) hn
  have a1 := List.all_eq_true.1 full_known_all n (List.mem_range.2 (by omega))
  have a2 := List.all_eq_true.1 a1 x (List.mem_range.2 (by omega))
  have a3 := List.all_eq_true.1 a2 y (List.mem_range.2 (by omega))
  have a4 : ((List.range n).all fun c => inI (x : Int) (c : Int)) = true := List.all_eq_true.2 fun c hc => hall c (List.mem_range.1 hc)
  rw [a4] at a3
  simpa [hy] using a3
theorem leafGo_full {n : Nat} (hn : n ≤ 6) {first : Bool} {k h : Int} (hk : isB k) (hall : ∀ c : Nat, c < n → inI k c = true) : ∀ (rs : List Int) (i : Nat), rulesB n rs → (leafGo first k h rs i true).2 = true
  | [], _, _ => rfl
  | r :: rs, i, hr => by
    unfold leafGo
    split
    · rfl
    · rename_i hs
      have hg : goneI r k h = true := by
        unfold goneI
        rw [and_full hn hk (hr r (List.mem_cons_self ..)) hall]
        simp only [withinI, Bool.not_eq_true] at hs
        simp only [bne, hs, Bool.not_false]
      rw [if_pos hg]
      exact leafGo_full hn hk hall rs (i + 1) fun x hx => hr x (List.mem_cons_of_mem _ hx)
/-- A part that is no leaf has a channel that is not known. -/
theorem leaf_open {n : Nat} (hn : n ≤ 6) {rs : List Int} {first : Bool} {k h : Int} (hk : isB k) (hr : rulesB n rs) (hl : (leafA rs first k h).2 = false) : ∃ c : Nat, c < n ∧ inI k c = false := by
  by_cases hh : ∃ c : Nat, c < n ∧ inI k c = false
  · exact hh
  · exfalso
    have hall : ∀ c : Nat, c < n → inI k c = true := by
      intro c hc
      cases e : inI k c with
      | true => rfl
      | false => exact absurd ⟨c, hc, e⟩ hh
    have := leafGo_full hn (first := first) (h := h) hk hall rs 0 hr
    unfold leafA at hl
    rw [this] at hl
    cases hl

theorem planTo_pick {rec : Int → Int → Pl} {k h : Int} {u : Nat} (hu : u < 6) : ∀ n : Nat, (∀ c : Nat, c < n → inI k c = false → (rec (fullI k c) (fullI h c)).depth ≤ u ∧ (rec (fullI k c) h).depth ≤ u) →
    ((∀ c : Nat, c < n → inI k c = true) ∧ planTo rec k h n = ⟨7, 0, 0⟩) ∨ (∃ c : Nat, c < n ∧ inI k c = false ∧ (planTo rec k h n).chan = c ∧ (planTo rec k h n).depth ≤ u + 1)
  | 0, _ => .inl ⟨fun c hc => absurd hc (Nat.not_lt_zero _), rfl⟩
  | n + 1, H => by
    have ih := planTo_pick hu n fun c hc hi => H c (by omega) hi
    cases hi : inI k n with
    | true =>
      have e : planTo rec k h (n + 1) = planTo rec k h n := by simp only [planTo, hi, if_true]
      rw [e]
      rcases ih with ⟨h1, h2⟩ | ⟨c, h1, h2⟩
      · refine .inl ⟨fun c hc => ?_, h2⟩
        rcases Nat.lt_or_ge c n with h | h
        · exact h1 c h
        · obtain rfl : c = n := by omega
          exact hi
      · exact .inr ⟨c, by omega, h2⟩
    | false =>
      obtain ⟨e1, e2⟩ := H n (by omega) hi
      have hm : 1 + max (rec (fullI k n) (fullI h n)).depth (rec (fullI k n) h).depth ≤ u + 1 := by omega
      generalize hD : 1 + max (rec (fullI k n) (fullI h n)).depth (rec (fullI k n) h).depth = D at hm
      have e : planTo rec k h (n + 1) = if D < (planTo rec k h n).depth then ⟨D, n, 0⟩ else planTo rec k h n := by simp only [planTo, hi, hD]; rfl
      rw [e]
      rcases ih with ⟨h1, h2⟩ | ⟨c, h1, h2, h3, h4⟩
      · rw [h2, if_pos (by simp only; omega)]
        exact .inr ⟨n, by omega, hi, rfl, hm⟩
      · by_cases hlt : D < (planTo rec k h n).depth
        · rw [if_pos hlt]
          exact .inr ⟨n, by omega, hi, rfl, hm⟩
        · rw [if_neg hlt]
          exact .inr ⟨c, by omega, h2, h3, h4⟩
theorem unk_le (n : Nat) (k : Int) : unk n k ≤ n := by
  unfold unk
  have := List.length_filter_le (fun c : Nat => !(inI k c)) (List.range n)
  simpa using this
/-- The depth is at most the number of channels that are not known. -/
theorem planA_depth {rs : List Int} {n : Nat} (hn : n ≤ 6) {first : Bool} (hr : rulesB n rs) : ∀ (f : Nat) (k h : Int), unk n k < f → isB k → isB h → (planA rs n first k h).depth ≤ unk n k
  | 0, _, _, hf, _, _ => absurd hf (Nat.not_lt_zero _)
  | f + 1, k, h, hf, hk, hh => by
    cases hl : leafA rs first k h with
    | mk r b =>
      cases b with
      | true => rw [planA_leaf hl]; simp
      | false =>
        obtain ⟨c0, hc0, hi0⟩ := leaf_open hn hk hr (by rw [hl])
        have hu0 := unk_full hn hk hc0 hi0
        have hul := unk_le n k
        have hp := planTo_pick (rec := planA rs n first) (k := k) (h := h) (u := unk n k - 1) (by omega) n (fun c hc hi => by
          have hu := unk_full hn hk hc hi
          have a1 := planA_depth hn (first := first) hr f (fullI k c) (fullI h c) (by omega) (full_isB hk (by omega) (by omega)) (full_isB hh (by omega) (by omega))
          have a2 := planA_depth hn (first := first) hr f (fullI k c) h (by omega) (full_isB hk (by omega) (by omega)) hh
          omega)
        rw [planA_test hn hk hl]
        rcases hp with ⟨h1, _⟩ | ⟨c, _, _, _, h4⟩
        · rw [h1 c0 hc0] at hi0; cases hi0
        · omega
/-- The channel that is tested first. -/
theorem planA_chan {rs : List Int} {n : Nat} (hn : n ≤ 6) {first : Bool} (hr : rulesB n rs) {k h r : Int} (hk : isB k) (hh : isB h) (hl : leafA rs first k h = (r, false)) :
    ∃ c : Nat, c < n ∧ inI k c = false ∧ (planA rs n first k h).chan = c := by
  obtain ⟨c0, hc0, hi0⟩ := leaf_open hn hk hr (by rw [hl])
  have hu0 := unk_full hn hk hc0 hi0
  have hul := unk_le n k
  have hp := planTo_pick (rec := planA rs n first) (k := k) (h := h) (u := unk n k - 1) (by omega) n (fun c hc hi => by
    have hu := unk_full hn hk hc hi
    have a1 := planA_depth hn (first := first) hr n (fullI k c) (fullI h c) (by omega) (full_isB hk (by omega) (by omega)) (full_isB hh (by omega) (by omega))
    have a2 := planA_depth hn (first := first) hr n (fullI k c) h (by omega) (full_isB hk (by omega) (by omega)) hh
    omega)
  rw [planA_test hn hk hl]
  rcases hp with ⟨h1, _⟩ | ⟨c, h1, h2, h3, _⟩
  · rw [h1 c0 hc0] at hi0; cases hi0
  · exact ⟨c, h1, h2, h3⟩

/-! ### the nodes -/
def growL (rs : List Int) (n : Nat) (first : Bool) : Nat → Int → Int → Nat → List Nd
  | 0, _, _, _ => []
  | f + 1, k, h, at_ =>
    let x := planA rs n first k h
    if x.chan < 0 then [⟨-1, 0, 0, x.rule⟩] else
      let yes := growL rs n first f (fullI k x.chan) (fullI h x.chan) (at_ + 1)
      ⟨x.chan, (at_ : Int) + 1, (at_ : Int) + 1 + yes.length, -1⟩ :: (yes ++ growL rs n first f (fullI k x.chan) h (at_ + 1 + yes.length))
theorem growL_len {rs : List Int} {n : Nat} {first : Bool} : ∀ (f : Nat) (k h : Int) (a : Nat), (growL rs n first f k h a).length + 1 ≤ 2 ^ f
  | 0, _, _, _ => by simp [growL]
  | f + 1, k, h, a => by
    rw [growL]
    simp only
    split
    · have : 2 ^ 1 ≤ 2 ^ (f + 1) := Nat.pow_le_pow_right (by decide) (by omega)
      simp; omega
    · have h1 := growL_len (rs := rs) (n := n) (first := first) f (fullI k (planA rs n first k h).chan) (fullI h (planA rs n first k h).chan) (a + 1)
      have h2 := growL_len (rs := rs) (n := n) (first := first) f (fullI k (planA rs n first k h).chan) h (a + 1 + (growL rs n first f (fullI k (planA rs n first k h).chan) (fullI h (planA rs n first k h).chan) (a + 1)).length)
      rw [Nat.pow_succ]
      simp only [List.length_cons, List.length_append]
      omega
/-- The tree of a part: its fuel. -/
def growA (rs : List Int) (n : Nat) (first : Bool) (k h : Int) (at_ : Nat) : List Nd := growL rs n first (unk n k + 1) k h at_
theorem growA_leaf {rs : List Int} {n : Nat} {first : Bool} {k h : Int} {a : Nat} (hx : (planA rs n first k h).chan < 0) : growA rs n first k h a = [⟨-1, 0, 0, (planA rs n first k h).rule⟩] := by
  unfold growA; rw [growL]; simp only; rw [if_pos hx]
theorem growA_test {rs : List Int} {n : Nat} (hn : n ≤ 6) {first : Bool} {k h : Int} {a c : Nat} (hk : isB k) (hc : c < n) (hi : inI k c = false) (hx : (planA rs n first k h).chan = c) :
    growA rs n first k h a = ⟨c, (a : Int) + 1, (a : Int) + 1 + (growA rs n first (fullI k c) (fullI h c) (a + 1)).length, -1⟩ :: (growA rs n first (fullI k c) (fullI h c) (a + 1) ++ growA rs n first (fullI k c) h (a + 1 + (growA rs n first (fullI k c) (fullI h c) (a + 1)).length)) := by
  have hu := unk_full hn hk hc hi
  have e : growA rs n first k h a = growL rs n first (unk n k + 1) k h a := rfl
  rw [e, growL]
  simp only
  rw [if_neg (by omega), hx]
  unfold growA
  rw [hu]
end Go.Proofs.Ytlnonadkdonhmaa

/- Contract of grow. -/
namespace Go.Proofs.Ytlnonadkdonhmaa
open Go.RowKit Go.Maps

def GrowIH (rs : List Int) (n : Nat) (first : Bool) (bw bm : Nat) (A : Option Addr) (c B : Nat) (f : Nat) : Prop :=
  ∀ (known has : Int) (t : PT) (v : Value) (xs : List Nd) (w : World), unk n known < f → isB known → isB has → Gw w bw bm n A c rs first → PtAt w bm t → PtOk rs n first t → (ints rs ≠ [] → ∀ a, A = some a → a.block ≠ bm ∧ a.block < B) →
    w.ownsRow B 107 4 v xs.length (nds xs) → B ≤ w.heap.size → xs.length + 2 ^ (unk n known + 1) ≤ 100000 →
    Calls Try.prog 104 #[.pointer (some ⟨bw, 0, none⟩), v, .agg #[.int .i64 known, .int .i64 has]] w fun e w' => ∃ v' t', e = .returned v' ∧ w'.ownsRow B 107 4 v' (xs ++ growA rs n first known has xs.length).length (nds (xs ++ growA rs n first known has xs.length)) ∧
      PtAt w' bm t' ∧ PtOk rs n first t' ∧ Frame (fun b => b = bm ∨ v.ownBlock = some b) w w' ∧ (∀ g, v'.ownBlock = some g → v.ownBlock = some g ∨ w.heap.size ≤ g)

theorem nds_snoc (xs : List Nd) (x : Nd) : nds (xs ++ [x]) = nds xs ++ [.int .i64 x.ch, .int .i64 x.yes, .int .i64 x.no, .int .i64 x.rule] := by simp [nds, ndCells]
theorem nds_len (xs : List Nd) : (nds xs).length = xs.length * 4 := flat_len ndCells_len xs
theorem nds_setno (xs ys : List Nd) (x : Nd) (u : Int) : (nds (xs ++ x :: ys)).set (xs.length * 4 + 2) (.int .i64 u) = nds (xs ++ { x with no := u } :: ys) := by
  have e : nds (xs ++ x :: ys) = nds xs ++ ([.int .i64 x.ch, .int .i64 x.yes, .int .i64 x.no, .int .i64 x.rule] ++ nds ys) := by simp [nds, ndCells]
  have e2 : nds (xs ++ { x with no := u } :: ys) = nds xs ++ ([.int .i64 x.ch, .int .i64 x.yes, .int .i64 u, .int .i64 x.rule] ++ nds ys) := by simp [nds, ndCells]
  rw [e, e2, List.set_append_right _ _ (by rw [nds_len]; omega), nds_len]
  congr 1
  rw [Nat.add_sub_cancel_left]
  rfl
/-- Index k of a slice of nodes that begins its block. -/
theorem ix_nd {b n c k : Nat} (hk : k < n) (w' : World) :
    (Instr.indexAt 79 (.slice (some ⟨b, 0, none⟩) n c) (.int .i64 (k : Int))).run Try.prog w' = .ok (.pointer (some ⟨b, k * 4, none⟩)) w' := by
  obtain ⟨i, hi, hie⟩ : ∃ i, Try.prog.info? 107 = some i ∧ i.size = 4 := by
    have hs := rNd.size_eq
    cases hx : Try.prog.info? 107 with
    | none => rw [hx] at hs; cases hs
    | some i => rw [hx] at hs; exact ⟨i, rfl, by simpa using hs⟩
  have hin : (0 : Int) ≤ (k : Int) ∧ (k : Int) < (n : Int) := by omega
  simp [Instr.indexAt, run_underlying Try.underlying79, asIntOf, hin, sizeOf, typeInfo, hi, hie, hk]
  by_cases h0 : k = 0
  · simp [Addr.add, h0]
  · have : ¬ k * 4 = 0 := by omega
    simp [Addr.add, this]

set_option maxRecDepth 100000 in
set_option maxHeartbeats 4000000 in
theorem grow_step (rs : List Int) (n : Nat) (hn : n ≤ 6) (hr : rulesB n rs) (first : Bool) (bw bm : Nat) (A : Option Addr) (c B f : Nat) (IH : Hid (GrowIH rs n first bw bm A c B f)) : GrowIH rs n first bw bm A c B (f + 1) := by
  intro known has t v xs w hu hk hh hG hT hO hA hown hB hlen
  have hG1 := hG.later ((Below.refl _ w).alloc (Nat.le_refl _) (.cells #[.int .i64 known, .int .i64 has] 151))
  have hT1 := hT.later ((Below.refl _ w).alloc (Nat.le_refl _) (.cells #[.int .i64 known, .int .i64 has] 151))
  obtain ⟨Av, cv, rfl⟩ := own_fits hown
  have HG := Lib.hid hG
  have HG1 := Lib.hid hG1
  have HT := Lib.hid hT
  have HT1 := Lib.hid hT1
  have HO := Lib.hid hO
  have HA := Lib.hid hA
  have HOW := Lib.hid hown
  have hPL := plan_any rs n hn first bw bm A c (f + 1) known has t _ hu hk hh hG1 hT1 hO (fun hn a ha => (hA hn a ha).1)
  have HPL := Lib.hid hPL
  have hbp : Blk (w.alloc (.cells #[.int .i64 known, .int .i64 has] 151)) w.heap.size (.cells #[.int .i64 known, .int .i64 has] 151) := Blk.new _ _
  have HBP := Lib.hid hbp
  have hbm := MapIs.lt hT
  have hbml : w.heap.size ≠ bm := by omega
  clear hG hG1 hT hT1 hO hA hown hPL hbp
  have hbw := HG.out.g.lt
  have hsw : (w.alloc (.cells #[.int .i64 known, .int .i64 has] 151)).heap.size = w.heap.size + 1 := by simp
  have hp8 : 2 ^ 1 ≤ 2 ^ (unk n known + 1) := Nat.pow_le_pow_right (by decide) (by omega)
  cases hl : leafA rs first known has with
  | mk r0 bl =>
    cases bl with
    | true =>
      have HP : Hid (planA rs n first known has = ⟨0, -1, r0⟩) := planA_leaf hl
      have HGR : Hid (growA rs n first known has xs.length = [⟨-1, 0, 0, r0⟩]) := by
        have e := growA_leaf (rs := rs) (n := n) (first := first) (k := known) (h := has) (a := xs.length) (by rw [HP.out]; show (-1 : Int) < 0; decide)
        rw [HP.out] at e
        exact e
      clear hl hsw
      go_enter Try.func104, Try.ntmps104
      go_wp2_with (first
        | (go_at_call 105; go_must (refine HPL.out.mono ?_); rintro e w1 ⟨rfl, t1, hT1, hO1, hK1, hF1⟩; rw [HP.out]; simp only [plV]; have HT1' := Lib.hid hT1; have HO1 := Lib.hid hO1; have HF1 := Lib.hid hF1; have hsz1 := hF1.size; simp only [World.size_alloc] at hsz1; have HO1w := Lib.hid (own_frame (HOW.out.alloc (.cells #[.int .i64 known, .int .i64 has] 151)) hF1 (fun g hg e => MapIs.not_own HT.out HOW.out (by rw [hg, e]))); clear hT1 hO1 hK1 hF1)
        | (at_builtin; go_must (refine wpList_app1' rNd _ rfl _ _ rfl (HO1w.out.alloc _) rfl [_, _, _, _] 1 (by rw [World.size_alloc]; rfl) rfl (by simp [Value.oneCell']) (by omega) (by simp <;> omega) ?_); intro v6 w6 ho6 hB6 hg6 hloc6))
      go_ret
      have hF6 := Frame.of_grown hg6
      have e6 : Frame (fun b => b = bm ∨ (Value.slice Av xs.length cv).ownBlock = some b) w w6 := by
        refine (((((Frame.refl (fun b => b = bm ∨ (Value.slice Av xs.length cv).ownBlock = some b) w).alloc (.cells #[.int .i64 known, .int .i64 has] 151)).trans HF1.out (fun b _ e => .inl e)).alloc _).trans hF6 (fun b _ e => .inr e))
      refine ⟨v6, t1, rfl, ?_, ((MapIs.alloc HT1'.out _).frame hF6 (fun e => MapIs.not_own HT.out HOW.out e)), HO1.out, e6, fun g hg => ?_⟩
      · rw [HGR.out, nds_snoc, List.length_append]
        exact ho6
      · rcases hloc6 g hg with h | h
        · exact .inl h
        · simp only [World.size_alloc] at h
          exact .inr (by omega)
    | false =>
      obtain ⟨cc, hcc, hic, hch⟩ := planA_chan hn hr hk hh hl
      obtain ⟨⟨d, ch, r⟩, HP⟩ : ∃ p, Hid (planA rs n first known has = p) := ⟨_, rfl⟩
      rw [HP.out] at hch
      simp only at hch
      subst hch
      have HCH : Hid ((planA rs n first known has).chan = cc) := by show _ = _; rw [HP.out]
      have HU : Hid (unk n (fullI known cc) + 1 = unk n known) := unk_full hn hk hcc hic
      have HKB : Hid (isB (fullI known cc)) := full_isB hk (by omega) (by omega)
      have HHB : Hid (isB (fullI has cc)) := full_isB hh (by omega) (by omega)
      have HGR : Hid _ := growA_test (rs := rs) (first := first) (h := has) (a := xs.length) hn hk hcc hic HCH.out
      have hp2 := p2_nat (k := cc) (by omega)
      have HE1 : Hid (bits BinOp.or .i64 known (2 ^ cc) = fullI known cc) := by show _ = _; simp [fullI]
      have HE2 : Hid (bits BinOp.or .i64 has (2 ^ cc) = fullI has cc) := by show _ = _; simp [fullI]
      have hpw : 2 ^ (unk n known + 1) = 2 * 2 ^ (unk n (fullI known cc) + 1) := by rw [HU.out, Nat.pow_succ]; omega
      have hp1 : 1 ≤ 2 ^ (unk n (fullI known cc) + 1) := Nat.one_le_two_pow
      have HPW := Lib.hid hpw
      have HLEN : Hid (xs.length + 2 * 2 ^ (unk n (fullI known cc) + 1) ≤ 100000) := by show _ ≤ _; rw [← hpw]; exact hlen
      have hxl : xs.length ≤ 100000 := by omega
      have hc0 : decide ((cc : Int) < 0) = false := by simp
      clear hl hsw hic hpw
      go_enter Try.func104, Try.ntmps104
      go_wp2_with (first
        | (go_at_call 105; go_must (refine HPL.out.mono ?_); rintro e w1 ⟨rfl, t1, hT1, hO1, hK1, hF1⟩; rw [HP.out]; simp only [plV]; have HT1' := Lib.hid hT1; have HO1 := Lib.hid hO1; have HF1 := Lib.hid hF1; have hsz1 := hF1.size; simp only [World.size_alloc] at hsz1; have HO1w := Lib.hid (own_frame (HOW.out.alloc (.cells #[.int .i64 known, .int .i64 has] 151)) hF1 (fun g hg e => MapIs.not_own HT.out HOW.out (by rw [hg, e]))); have HBP1 := Lib.hid (HBP.out.frame hF1 hbml); clear hT1 hO1 hK1 hF1)
        | (at_builtin; go_must (refine wpList_app1' rNd _ rfl _ _ rfl (HO1w.out.alloc _) rfl [_, _, _, _] 1 (by rw [World.size_alloc]; rfl) rfl (by simp [Value.oneCell']) (by omega) (by simp <;> omega) ?_); intro v6 w6 ho6 hB6 hg6 hloc6; have hw7 : (w1.alloc (.cells #[.int .i64 d, .int .i64 (cc : Int), .int .i64 r] 154)).ownsRow B 107 4 (.slice Av xs.length cv) xs.length (nds xs) := HO1w.out.alloc _; have hbp7 : Blk (w1.alloc (.cells #[.int .i64 d, .int .i64 (cc : Int), .int .i64 r] 154)) w.heap.size (.cells #[.int .i64 known, .int .i64 has] 151) := HBP1.out.alloc _; have hb77 := Blk.new w1 (.cells #[.int .i64 d, .int .i64 (cc : Int), .int .i64 r] 154); have HBP6 := Lib.hid (hbp7.grown hg6 (own_ne hw7 hbp7 (by decide))); have HB76 := Lib.hid (hb77.grown hg6 (own_ne hw7 hb77 (by decide))); have b0 := HBP6.out.cell 0 (v := .int .i64 known) rfl; have b1 := HBP6.out.cell 1 (v := .int .i64 has) rfl; have b2 := HB76.out.cell 1 (v := .int .i64 (cc : Int)) rfl; clear hbp7 hb77)
        | fail)
      have hsz6 := hg6.size
      simp only [World.size_alloc] at hsz6
      have hT6 : PtAt w6 bm t1 := (MapIs.alloc HT1'.out _).frame (Frame.of_grown hg6) (fun e => MapIs.not_own HT.out HOW.out e)
      have hbwm : ¬ bw = bm := fun e => MapIs.not_blk HT.out HG.out.g e.symm
      have HGW1 : Hid (Gw w1 bw bm n A c rs first) := HG1.out.frame HF1.out hbwm (fun hn a ha => (HA.out hn a ha).1)
      have hG6 : Gw w6 bw bm n A c rs first := (HGW1.out.later ((Below.refl _ w1).alloc (Nat.le_refl _) _)).frame (Frame.of_grown hg6) (own_ne hw7 (HGW1.out.g.alloc _) (by decide)) (fun hn a ha e => by have := (hw7.lt _ e).1; have := (HA.out hn a ha).2; omega)
      have ho6' : w6.ownsRow B 107 4 v6 (xs ++ [(⟨cc, (xs.length : Int) + 1, 0, -1⟩ : Nd)]).length (nds (xs ++ [(⟨cc, (xs.length : Int) + 1, 0, -1⟩ : Nd)])) := by
        rw [nds_snoc, List.length_append]
        exact ho6
      have HT6 := Lib.hid hT6
      have HG6 := Lib.hid hG6
      have HO6 := Lib.hid ho6'
      have HLOC6 := Lib.hid hloc6
      have HGN6 := Lib.hid hg6
      have HW7 := Lib.hid hw7
      obtain ⟨ys, HYS⟩ : ∃ ys, Hid (growA rs n first (fullI known cc) (fullI has cc) (xs.length + 1) = ys) := ⟨_, rfl⟩
      have hyl : ys.length + 1 ≤ 2 ^ (unk n (fullI known cc) + 1) := by rw [← HYS.out]; exact growL_len _ _ _ _
      have hll := HLEN.out
      clear hT6 hG6 ho6' hloc6 hg6 hw7 ho6 hB6
      rw [HE1.out, HE2.out]
      refine (IH.out (fullI known cc) (fullI has cc) t1 v6 _ w6 (by have := HU.out; omega) HKB.out HHB.out HG6.out HT6.out HO1.out HA.out HO6.out (by omega) (by rw [List.length_append, List.length_cons, List.length_nil]; omega)).mono ?_
      rintro e w7 ⟨v7, t7, rfl, ho7, hT7, hO7, hF7, hloc7⟩
      have el : (xs ++ [(⟨cc, (xs.length : Int) + 1, 0, -1⟩ : Nd)]).length = xs.length + 1 := by simp
      rw [el, HYS.out] at ho7
      have el2 : (xs ++ [(⟨cc, (xs.length : Int) + 1, 0, -1⟩ : Nd)] ++ ys).length = xs.length + ys.length + 1 := by simp; omega
      rw [el2] at ho7
      obtain ⟨g7, cap7, rfl⟩ := ownsRow_succ ho7
      have hix := ix_nd (b := g7) (n := xs.length + ys.length + 1) (c := cap7) (k := xs.length) (by omega)
      have hc7 := ho7.cellAt (xs.length * 4 + 2) (by omega)
      have hf7 := ho7.frozenAt (xs.length * 4 + 2)
      have hget : (nds (xs ++ [(⟨cc, (xs.length : Int) + 1, 0, -1⟩ : Nd)] ++ ys))[xs.length * 4 + 2]? = some (.int .i64 0) := by
        rw [List.append_assoc]
        have e : nds (xs ++ ([(⟨cc, (xs.length : Int) + 1, 0, -1⟩ : Nd)] ++ ys)) = nds xs ++ ([.int .i64 cc, .int .i64 ((xs.length : Int) + 1), .int .i64 0, .int .i64 (-1)] ++ nds ys) := by simp [nds, ndCells]
        rw [e, List.getElem?_append_right (by rw [nds_len]; omega), nds_len, Nat.add_sub_cancel_left]
        rfl
      rw [hget] at hc7
      have hbp7 := HBP6.out.frame hF7 (fun e => by
        rcases e with e | e
        · omega
        · exact own_ne HO6.out HBP6.out (by decide) e)
      have hsz7 := hF7.size
      have HBP7 := Lib.hid hbp7
      have b3 := hbp7.cell 0 (v := .int .i64 known) rfl
      have b4 := hbp7.cell 1 (v := .int .i64 has) rfl
      have hgw : ¬ g7 = w.heap.size := fun e => own_ne ho7 hbp7 (by decide) (by rw [← e]; rfl)
      have hgw' : ¬ w.heap.size = g7 := fun e => hgw e.symm
      have HT7 := Lib.hid hT7
      have HO7w := Lib.hid ho7
      have HO7 := Lib.hid hO7
      have HF7 := Lib.hid hF7
      have HLOC7 := Lib.hid hloc7
      clear hget ho7 hT7 hO7 hF7 hloc7 hbp7 el el2
      go_wp2_with fail
      rw [HE1.out]
      obtain ⟨W8, hW8⟩ : ∃ W8, w7.setCell ⟨g7, xs.length * 4 + 2, none⟩ (.int .i64 ((xs.length : Int) + ys.length + 1)) = W8 := ⟨_, rfl⟩
      rw [hW8]
      obtain ⟨hst, hgr8⟩ := HO7w.out.stored (xs.length * 4 + 2) (.int .i64 ((xs.length : Int) + ys.length + 1))
      rw [hW8] at hst hgr8
      rw [List.append_assoc, List.singleton_append, nds_setno] at hst
      obtain ⟨xs8, HX8⟩ : ∃ xs8, Hid (xs ++ (⟨cc, (xs.length : Int) + 1, (xs.length : Int) + ys.length + 1, -1⟩ : Nd) :: ys = xs8) := ⟨_, rfl⟩
      have hl8 : xs8.length = xs.length + ys.length + 1 := by rw [← HX8.out]; simp; omega
      have ho8 : W8.ownsRow B 107 4 (.slice (some ⟨g7, 0, none⟩) (xs.length + ys.length + 1) cap7) xs8.length (nds xs8) := by
        rw [hl8, ← HX8.out]
        exact hst
      have hF78 := Frame.of_grown hgr8
      have hsz8 := hF78.size
      have hT8 : PtAt W8 bm t7 := HT7.out.frame hF78 (fun e => MapIs.not_own HT7.out HO7w.out e)
      have hG7 : Gw w7 bw bm n A c rs first := HG6.out.frame HF7.out (fun e => by
        rcases e with e | e
        · exact hbwm e
        · exact own_ne HO6.out HG6.out.g (by decide) e) (fun hn a ha e => by
        rcases e with e | e
        · exact (HA.out hn a ha).1 e
        · have := (HO6.out.lt _ e).1; have := (HA.out hn a ha).2; omega)
      have hG8 : Gw W8 bw bm n A c rs first := hG7.frame hF78 (own_ne HO7w.out hG7.g (by decide)) (fun hn a ha e => by have := (HO7w.out.lt _ e).1; have := (HA.out hn a ha).2; omega)
      have HT8 := Lib.hid hT8
      have HG8 := Lib.hid hG8
      have HO8 := Lib.hid ho8
      have HF78 := Lib.hid hF78
      have HL8 := Lib.hid hl8
      clear hst hgr8 ho8 hF78 hT8 hG7 hG8 hW8
      refine (IH.out (fullI known cc) has t7 _ xs8 W8 (by have := HU.out; omega) HKB.out hh HG8.out HT8.out HO7.out HA.out HO8.out (by omega) (by omega)).mono ?_
      rintro e w9 ⟨v9, t9, rfl, ho9, hT9, hO9, hF9, hloc9⟩
      have HT9 := Lib.hid hT9
      have HO9w := Lib.hid ho9
      have HO9 := Lib.hid hO9
      have HF9 := Lib.hid hF9
      have HLOC9 := Lib.hid hloc9
      clear ho9 hT9 hO9 hF9 hloc9 hl8
      go_wp2
      go_ret
      have hgl : ∀ g, v6.ownBlock = some g → (Value.slice Av xs.length cv).ownBlock = some g ∨ w.heap.size ≤ g := fun g hg => (HLOC6.out g hg).imp id (fun h => by simp only [World.size_alloc] at h; omega)
      have hg7l : (Value.slice Av xs.length cv).ownBlock = some g7 ∨ w.heap.size ≤ g7 := by
        rcases HLOC7.out g7 rfl with h | h
        · exact hgl g7 h
        · exact .inr (by omega)
      refine ⟨v9, t9, rfl, ?_, HT9.out, HO9.out, ?_, ?_⟩
      · have e : xs ++ growA rs n first known has xs.length = xs8 ++ growA rs n first (fullI known cc) has xs8.length := by
          rw [HGR.out, HYS.out, HL8.out, ← HX8.out, List.append_assoc, List.cons_append]
          have e1 : (xs.length : Int) + 1 + ys.length = (xs.length : Int) + ys.length + 1 := by omega
          have e2 : xs.length + 1 + ys.length = xs.length + ys.length + 1 := by omega
          rw [e1, e2]
        rw [e]
        exact HO9w.out
      · have f0 : Frame (fun b => b = bm ∨ (Value.slice Av xs.length cv).ownBlock = some b) w w6 :=
          ((((Frame.refl (fun b => b = bm ∨ (Value.slice Av xs.length cv).ownBlock = some b) w).alloc (.cells #[.int .i64 known, .int .i64 has] 151)).trans HF1.out (fun b _ e => .inl e)).alloc (.cells #[.int .i64 d, .int .i64 (cc : Int), .int .i64 r] 154)).trans (Frame.of_grown HGN6.out) (fun b _ e => .inr e)
        have h7 : ∀ b, b < w.heap.size → g7 = b → b = bm ∨ (Value.slice Av xs.length cv).ownBlock = some b := by
          intro b hb e
          subst e
          rcases hg7l with h | h
          · exact .inr h
          · omega
        refine ((f0.trans HF7.out (fun b hb e => ?_)).trans HF78.out (fun b hb e => ?_)).trans HF9.out (fun b hb e => ?_)
        · rcases e with e | e
          · exact .inl e
          · rcases hgl b e with h | h
            · exact .inr h
            · omega
        · exact h7 b hb (by injection e)
        · rcases e with e | e
          · exact .inl e
          · exact h7 b hb (by simpa [Value.ownBlock] using e)
      · intro g hg
        rcases HLOC9.out g hg with h | h
        · have e : g7 = g := by simpa [Value.ownBlock] using h
          rw [← e]; exact hg7l
        · exact .inr (by omega)
end Go.Proofs.Ytlnonadkdonhmaa

/- Contract: auto.Tree. -/
namespace Go.Proofs.Ytlnonadkdonhmaa
open Go.RowKit Go.Maps

theorem grow_any (rs : List Int) (n : Nat) (hn : n ≤ 6) (hr : rulesB n rs) (first : Bool) (bw bm : Nat) (A : Option Addr) (c B : Nat) : ∀ f, GrowIH rs n first bw bm A c B f
  | 0 => fun _ _ _ _ _ _ h => absurd h (Nat.not_lt_zero _)
  | f + 1 => grow_step rs n hn hr first bw bm A c B f (grow_any rs n hn hr first bw bm A c B f)

def partOk (n : Int) (known has : Int) : Bool := setI n known && setI n has && withinI has known
def treeOk (n : Int) (rs : List Int) (known has : Int) : Bool := grpOk n rs && partOk n known has
def treeT (n : Int) (rs : List Int) (known has : Int) (first : Bool) : List Nd := if treeOk n rs known has then growA rs n.toNat first known has 0 else []
def treeD (n : Int) (rs : List Int) (known has : Int) (first : Bool) : Int := if treeOk n rs known has then (planA rs n.toNat first known has).depth else 0

theorem setI_isB {n s : Int} (hn : n ≤ 6) (h : setI n s = true) : isB s := by
  simp only [setI, Bool.and_eq_true, decide_eq_true_eq] at h
  have h2 : (2 : Int) ^ n.toNat ≤ 2 ^ 6 := by
    have h3 : (2 ^ n.toNat : Nat) ≤ 2 ^ 6 := Nat.pow_le_pow_right (by decide) (by omega)
    exact_mod_cast h3
  exact ⟨h.1, by omega⟩
theorem rulesB_of {n : Nat} {rs : List Int} (h : grpOk n rs = true) : rulesB n rs := by
  have := (grpOk_true h).2.2.2
  rw [List.all_eq_true] at this
  exact this

theorem field154 (a b c : Int) (w : World) : (Instr.field 154 (.agg #[.int .i64 a, .int .i64 b, .int .i64 c]) 0).run Try.prog w = .ok (.int .i64 a) w := by kernel_rfl

set_option maxRecDepth 100000 in
set_option maxHeartbeats 4000000 in
theorem Tree_yes (n : Nat) (A : Option Addr) (c : Nat) (rs : List Int) (known has : Int) (first : Bool) (w : World) (hA : Cells w A (ints rs)) (hg : grpOk n rs = true) (hk : setI n known = true) (hh : setI n has = true) (hw : withinI has known = true) :
    Calls Try.prog 57 #[.agg #[.int .i64 (n : Int), .slice A rs.length c], .int .i64 known, .int .i64 has, .bool first] w fun e w' => ∃ A' c', e = .returned (.tuple #[.slice A' (growA rs n first known has 0).length c', .int .i64 (planA rs n first known has).depth, .int .i64 0]) ∧ Cells w' A' (nds (growA rs n first known has 0)) ∧ Below w.heap.size w w' := by
  obtain ⟨hn1, hn2, hrl, _⟩ := grpOk_true hg
  have HGI : Hid (errI (grpOk n rs) = 0) := by show _ = _; rw [hg]; rfl
  have HR : Hid (rulesB n rs) := rulesB_of hg
  have HKB : Hid (isB known) := setI_isB hn2 hk
  have HHB : Hid (isB has) := setI_isB hn2 hh
  have HK := Lib.hid hk
  have HH := Lib.hid hh
  have hbw : (bits BinOp.andNot .i64 has known != 0) = false := by
    have e : (bits BinOp.andNot .i64 has known == 0) = true := hw
    rw [bne, e]; rfl
  have HA1 := Lib.hid (hA.box0 (.cells #[.int .i64 (n : Int), .slice A rs.length c] 24))
  have hmm := @run_makeMap Try.prog
  clear hg hk hh hw
  go_enter Try.func57, Try.ntmps57
  go_wp2_with (first
    | (go_at_call 48; go_must (refine (check_any n A c rs _ HA1.out).mono ?_); rintro e w1 ⟨rfl, hB1⟩; rw [HGI.out]; have g0 := cell_chain (b := w.heap.size) (i := 0) (v := .int .i64 (n : Int)) hB1 (by simp) (by go_simp); have g1 := cell_chain (b := w.heap.size) (i := 1) (v := .slice A rs.length c) hB1 (by simp) (by go_simp))
    | fail)
  refine (isSet_any n known A rs.length c _ (by omega) (by omega)).mono ?_
  rintro e w2 ⟨rfl, hB2⟩
  rw [HK.out]
  have hs1 := hB1.size
  simp only [World.size_alloc] at hs1
  have hlt1 : w.heap.size < w1.heap.size := by omega
  have g0' := cell_chain hB2 hlt1 g0
  have g1' := cell_chain hB2 hlt1 g1
  clear g0 g1
  go_wp2_with fail
  refine (isSet_any n has A rs.length c _ (by omega) (by omega)).mono ?_
  rintro e w3 ⟨rfl, hB3⟩
  rw [HH.out]
  have hs2 := hB2.size
  have hlt2 : w.heap.size < w2.heap.size := by omega
  have g0 := cell_chain hB3 hlt2 g0'
  have g1 := cell_chain hB3 hlt2 g1'
  clear g0' g1'
  have hs3 := hB3.size
  have HBW : Hid (Below w.heap.size w w3) := (((Below.refl _ w).alloc (Nat.le_refl _) _).trans (hB1.mono (by simp))).trans ((hB2.mono (by omega)).trans (hB3.mono (by omega)))
  clear hB1 hB2 hB3
  go_wp2_with fail
  obtain ⟨W, hW⟩ : ∃ W, ((w3.alloc (.map #[] 0)).alloc (.cells #[.int .i64 (n : Int), .slice A rs.length c, .bool first, .map (some w3.heap.size)] 150)).alloc (.cells #[.int .i64 known, .int .i64 has] 151) = W := ⟨_, rfl⟩
  rw [hW]
  have hsW : W.heap.size = w3.heap.size + 3 := by rw [← hW]; simp
  have hBW : Below w3.heap.size w3 W := by rw [← hW]; exact (((Below.refl _ w3).alloc (Nat.le_refl _) _).alloc (by simp) _).alloc (by simp; omega) _
  have hG : Gw W (w3.heap.size + 1) w3.heap.size n A c rs first := by
    refine ⟨?_, (hA.below HBW.out (Nat.le_refl _)).below hBW (Nat.le_refl _)⟩
    rw [← hW]
    have e := Blk.new (w3.alloc (.map #[] 0)) (.cells #[.int .i64 (n : Int), .slice A rs.length c, .bool first, .map (some w3.heap.size)] 150)
    rw [World.size_alloc] at e
    exact e.alloc _
  have hT : PtAt W w3.heap.size [] := by
    rw [← hW]
    exact MapIs.alloc (MapIs.alloc (MapIs.new Try.prog 151 w3) _) _
  have hP : Blk W (w3.heap.size + 2) (.cells #[.int .i64 known, .int .i64 has] 151) := by
    rw [← hW]
    have e := Blk.new ((w3.alloc (.map #[] 0)).alloc (.cells #[.int .i64 (n : Int), .slice A rs.length c, .bool first, .map (some w3.heap.size)] 150)) (.cells #[.int .i64 known, .int .i64 has] 151)
    simp only [World.size_alloc] at e
    exact e
  have hAm : ints rs ≠ [] → ∀ a, A = some a → a.block ≠ w3.heap.size ∧ a.block < W.heap.size := fun hn a ha => by have := hA.lt hn ha; omega
  have hu := unk_le n known
  have hpu : 2 ^ (unk n known + 1) ≤ 2 ^ 7 := Nat.pow_le_pow_right (by decide) (by omega)
  have HG := Lib.hid hG
  have HT := Lib.hid hT
  have HP := Lib.hid hP
  have HAM := Lib.hid hAm
  have HBW3 := Lib.hid hBW
  clear hW hG hT hP hAm hBW g0 g1 hmm
  refine (grow_any rs n (by omega) HR.out first (w3.heap.size + 1) w3.heap.size A c W.heap.size (unk n known + 1) known has [] (.slice none 0 0) [] W (Nat.lt_succ_self _) HKB.out HHB.out HG.out HT.out (fun q x hq => by cases hq) HAM.out (World.ownsRow_nil _ _ _ _) (Nat.le_refl _) (by simp only [List.length_nil]; omega)).mono ?_
  rintro e w4 ⟨v4, t4, rfl, ho4, hT4, hO4, hF4, hloc4⟩
  simp only [List.nil_append, List.length_nil] at ho4
  have HO4w := Lib.hid ho4
  have HT4 := Lib.hid hT4
  have HO4 := Lib.hid hO4
  have HF4 : Hid (Frame (fun b => b = w3.heap.size) W w4) := hF4.mono (fun b _ e => by
    rcases e with e | e
    · exact e
    · cases e)
  have hP4 := HP.out.frame HF4.out (by omega)
  have b0 := hP4.cell 0 (v := .int .i64 known) rfl
  have b1 := hP4.cell 1 (v := .int .i64 has) rfl
  have hG4 : Gw w4 (w3.heap.size + 1) w3.heap.size n A c rs first := HG.out.frame HF4.out (by omega) (fun hn a ha => (HAM.out hn a ha).1)
  have HG4 := Lib.hid hG4
  have hs4 := HF4.out.size
  clear ho4 hT4 hO4 hF4 hloc4 hP4 hG4
  go_wp2_with fail
  refine (plan_any rs n (by omega) first (w3.heap.size + 1) w3.heap.size A c (unk n known + 1) known has t4 w4 (Nat.lt_succ_self _) HKB.out HHB.out HG4.out HT4.out HO4.out (fun hn a ha => (HAM.out hn a ha).1)).mono ?_
  rintro e w5 ⟨rfl, t5, hT5, hO5, hK5, hF5⟩
  obtain ⟨⟨d, ch, r⟩, HPA⟩ : ∃ p, Hid (planA rs n first known has = p) := ⟨_, rfl⟩
  rw [HPA.out]
  simp only [plV]
  have HF5 := Lib.hid hF5
  have ho5 := own_frame HO4w.out hF5 (fun g hg e => MapIs.not_own HT4.out HO4w.out (by rw [hg, e]))
  obtain ⟨A', c', rfl, hcs⟩ := own_out ho5 (by rw [nds_len]; have := growL_len (rs := rs) (n := n) (first := first) (unk n known + 1) known has 0; unfold growA; omega)
  have HCS := Lib.hid hcs
  have hfi := field154 d ch r w5
  clear hT5 hO5 hK5 hF5 ho5 hcs
  go_wp2
  refine bodyPost_ret (v := .tuple #[.slice A' (growA rs n first known has 0).length c', .int .i64 d, .int .i64 0]) (results_ttt rfl rfl rfl rfl) rfl ⟨A', c', by rw [HPA.out], HCS.out, ?_⟩
  exact (HBW.out.trans (HBW3.out.mono (by omega))).trans ((HF4.out.below (B := w.heap.size) (fun b hb => by omega) (by omega)).trans (HF5.out.below (B := w.heap.size) (fun b hb => by omega) (by omega)))

set_option maxRecDepth 100000 in
set_option maxHeartbeats 2000000 in
theorem Tree_no0 (n : Int) (A : Option Addr) (c : Nat) (rs : List Int) (known has : Int) (first : Bool) (w : World) (hA : Cells w A (ints rs)) (hg : grpOk n rs = false) :
    Calls Try.prog 57 #[.agg #[.int .i64 n, .slice A rs.length c], .int .i64 known, .int .i64 has, .bool first] w fun e w' => e = .returned (.tuple #[.slice none 0 0, .int .i64 0, .int .i64 2]) ∧ Below w.heap.size w w' := by
  have HGI : Hid (errI (grpOk n rs) = 2) := by show _ = _; rw [hg]; rfl
  have HA1 := Lib.hid (hA.box0 (.cells #[.int .i64 n, .slice A rs.length c] 24))
  clear hg
  go_enter Try.func57, Try.ntmps57
  go_wp2_with (go_at_call 48; go_must (refine (check_any n A c rs _ HA1.out).mono ?_); rintro e w1 ⟨rfl, hB1⟩; rw [HGI.out])
  exact bodyPost_ret (v := .tuple #[.slice none 0 0, .int .i64 0, .int .i64 2]) (results_ttt rfl rfl rfl rfl) rfl ⟨rfl, ((Below.refl _ w).alloc (Nat.le_refl _) _).trans (hB1.mono (by simp))⟩

set_option maxRecDepth 100000 in
set_option maxHeartbeats 2000000 in
theorem Tree_no1 (n : Int) (A : Option Addr) (c : Nat) (rs : List Int) (known has : Int) (first : Bool) (w : World) (hA : Cells w A (ints rs)) (hg : grpOk n rs = true) (hk : setI n known = false) :
    Calls Try.prog 57 #[.agg #[.int .i64 n, .slice A rs.length c], .int .i64 known, .int .i64 has, .bool first] w fun e w' => e = .returned (.tuple #[.slice none 0 0, .int .i64 0, .int .i64 2]) ∧ Below w.heap.size w w' := by
  obtain ⟨hn1, hn2, _⟩ := grpOk_true hg
  have HGI : Hid (errI (grpOk n rs) = 0) := by show _ = _; rw [hg]; rfl
  have HK := Lib.hid hk
  have HA1 := Lib.hid (hA.box0 (.cells #[.int .i64 n, .slice A rs.length c] 24))
  clear hg hk
  go_enter Try.func57, Try.ntmps57
  go_wp2_with (first
    | (go_at_call 48; go_must (refine (check_any n A c rs _ HA1.out).mono ?_); rintro e w1 ⟨rfl, hB1⟩; rw [HGI.out]; have g0 := cell_chain (b := w.heap.size) (i := 0) (v := .int .i64 n) hB1 (by simp) (by go_simp); have g1 := cell_chain (b := w.heap.size) (i := 1) (v := .slice A rs.length c) hB1 (by simp) (by go_simp))
    | (go_at_call 80; go_must (refine (isSet_any n known A rs.length c _ (by omega) (by omega)).mono ?_); rintro e w2 ⟨rfl, hB2⟩; rw [HK.out]))
  have hs1 := hB1.size
  simp only [World.size_alloc] at hs1
  exact bodyPost_ret (v := .tuple #[.slice none 0 0, .int .i64 0, .int .i64 2]) (results_ttt rfl rfl rfl rfl) rfl ⟨rfl, (((Below.refl _ w).alloc (Nat.le_refl _) _).trans (hB1.mono (by simp))).trans (hB2.mono (by omega))⟩

set_option maxRecDepth 100000 in
set_option maxHeartbeats 2000000 in
theorem Tree_no2 (n : Int) (A : Option Addr) (c : Nat) (rs : List Int) (known has : Int) (first : Bool) (w : World) (hA : Cells w A (ints rs)) (hg : grpOk n rs = true) (hk : setI n known = true) (hh : setI n has = false) :
    Calls Try.prog 57 #[.agg #[.int .i64 n, .slice A rs.length c], .int .i64 known, .int .i64 has, .bool first] w fun e w' => e = .returned (.tuple #[.slice none 0 0, .int .i64 0, .int .i64 2]) ∧ Below w.heap.size w w' := by
  obtain ⟨hn1, hn2, _⟩ := grpOk_true hg
  have HGI : Hid (errI (grpOk n rs) = 0) := by show _ = _; rw [hg]; rfl
  have HK := Lib.hid hk
  have HH := Lib.hid hh
  have HA1 := Lib.hid (hA.box0 (.cells #[.int .i64 n, .slice A rs.length c] 24))
  clear hg hk hh
  go_enter Try.func57, Try.ntmps57
  go_wp2_with (first
    | (go_at_call 48; go_must (refine (check_any n A c rs _ HA1.out).mono ?_); rintro e w1 ⟨rfl, hB1⟩; rw [HGI.out]; have g0 := cell_chain (b := w.heap.size) (i := 0) (v := .int .i64 n) hB1 (by simp) (by go_simp); have g1 := cell_chain (b := w.heap.size) (i := 1) (v := .slice A rs.length c) hB1 (by simp) (by go_simp))
    | fail)
  refine (isSet_any n known A rs.length c _ (by omega) (by omega)).mono ?_
  rintro e w2 ⟨rfl, hB2⟩
  rw [HK.out]
  have hs1 := hB1.size
  simp only [World.size_alloc] at hs1
  have hlt1 : w.heap.size < w1.heap.size := by omega
  have g0' := cell_chain hB2 hlt1 g0
  have g1' := cell_chain hB2 hlt1 g1
  clear g0 g1
  go_wp2_with fail
  refine (isSet_any n has A rs.length c _ (by omega) (by omega)).mono ?_
  rintro e w3 ⟨rfl, hB3⟩
  rw [HH.out]
  have hs2 := hB2.size
  have HBW : Hid (Below w.heap.size w w3) := (((Below.refl _ w).alloc (Nat.le_refl _) _).trans (hB1.mono (by simp))).trans ((hB2.mono (by omega)).trans (hB3.mono (by omega)))
  clear hB1 hB2 hB3
  go_wp2
  exact bodyPost_ret (v := .tuple #[.slice none 0 0, .int .i64 0, .int .i64 2]) (results_ttt rfl rfl rfl rfl) rfl ⟨rfl, HBW.out⟩

set_option maxRecDepth 100000 in
set_option maxHeartbeats 2000000 in
theorem Tree_no3 (n : Int) (A : Option Addr) (c : Nat) (rs : List Int) (known has : Int) (first : Bool) (w : World) (hA : Cells w A (ints rs)) (hg : grpOk n rs = true) (hk : setI n known = true) (hh : setI n has = true) (hw : withinI has known = false) :
    Calls Try.prog 57 #[.agg #[.int .i64 n, .slice A rs.length c], .int .i64 known, .int .i64 has, .bool first] w fun e w' => e = .returned (.tuple #[.slice none 0 0, .int .i64 0, .int .i64 2]) ∧ Below w.heap.size w w' := by
  have hbw : (bits BinOp.andNot .i64 has known != 0) = true := by
    have e : (bits BinOp.andNot .i64 has known == 0) = false := hw
    rw [bne, e]; rfl
  clear hw
  obtain ⟨hn1, hn2, _⟩ := grpOk_true hg
  have HGI : Hid (errI (grpOk n rs) = 0) := by show _ = _; rw [hg]; rfl
  have HK := Lib.hid hk
  have HH := Lib.hid hh
  have HA1 := Lib.hid (hA.box0 (.cells #[.int .i64 n, .slice A rs.length c] 24))
  clear hg hk hh
  go_enter Try.func57, Try.ntmps57
  go_wp2_with (first
    | (go_at_call 48; go_must (refine (check_any n A c rs _ HA1.out).mono ?_); rintro e w1 ⟨rfl, hB1⟩; rw [HGI.out]; have g0 := cell_chain (b := w.heap.size) (i := 0) (v := .int .i64 n) hB1 (by simp) (by go_simp); have g1 := cell_chain (b := w.heap.size) (i := 1) (v := .slice A rs.length c) hB1 (by simp) (by go_simp))
    | fail)
  refine (isSet_any n known A rs.length c _ (by omega) (by omega)).mono ?_
  rintro e w2 ⟨rfl, hB2⟩
  rw [HK.out]
  have hs1 := hB1.size
  simp only [World.size_alloc] at hs1
  have hlt1 : w.heap.size < w1.heap.size := by omega
  have g0' := cell_chain hB2 hlt1 g0
  have g1' := cell_chain hB2 hlt1 g1
  clear g0 g1
  go_wp2_with fail
  refine (isSet_any n has A rs.length c _ (by omega) (by omega)).mono ?_
  rintro e w3 ⟨rfl, hB3⟩
  rw [HH.out]
  have hs2 := hB2.size
  have HBW : Hid (Below w.heap.size w w3) := (((Below.refl _ w).alloc (Nat.le_refl _) _).trans (hB1.mono (by simp))).trans ((hB2.mono (by omega)).trans (hB3.mono (by omega)))
  clear hB1 hB2 hB3
  go_wp2
  exact bodyPost_ret (v := .tuple #[.slice none 0 0, .int .i64 0, .int .i64 2]) (results_ttt rfl rfl rfl rfl) rfl ⟨rfl, HBW.out⟩

theorem Tree_any (n : Int) (A : Option Addr) (c : Nat) (rs : List Int) (known has : Int) (first : Bool) (w : World) (hA : Cells w A (ints rs)) :
    Calls Try.prog 57 #[.agg #[.int .i64 n, .slice A rs.length c], .int .i64 known, .int .i64 has, .bool first] w fun e w' => ∃ A' c', e = .returned (.tuple #[.slice A' (treeT n rs known has first).length c', .int .i64 (treeD n rs known has first), .int .i64 (errI (treeOk n rs known has))]) ∧ Cells w' A' (nds (treeT n rs known has first)) ∧ Below w.heap.size w w' := by
  by_cases ho : treeOk n rs known has = true
  · have h := ho
    simp only [treeOk, partOk, Bool.and_eq_true] at h
    obtain ⟨hg, ⟨hk, hh⟩, hw⟩ := h
    obtain ⟨hn1, _⟩ := grpOk_true hg
    obtain ⟨N, rfl⟩ := Int.eq_ofNat_of_zero_le (a := n) (by omega)
    have e0 : errI (treeOk (N : Int) rs known has) = 0 := by rw [ho]; rfl
    have e1 : treeT (N : Int) rs known has first = growA rs N first known has 0 := by unfold treeT; rw [if_pos ho]; simp
    have e2 : treeD (N : Int) rs known has first = (planA rs N first known has).depth := by unfold treeD; rw [if_pos ho]; simp
    rw [e0, e1, e2]
    exact Tree_yes N A c rs known has first w hA hg hk hh hw
  · have e0 : errI (treeOk n rs known has) = 2 := by unfold errI; rw [if_neg ho]
    have e1 : treeT n rs known has first = [] := by unfold treeT; rw [if_neg ho]
    have e2 : treeD n rs known has first = 0 := by unfold treeD; rw [if_neg ho]
    rw [e0, e1, e2]
    have fin : ∀ {e : Ending} {w' : World}, (e = .returned (.tuple #[.slice none 0 0, .int .i64 0, .int .i64 2]) ∧ Below w.heap.size w w') → ∃ A' c', e = .returned (.tuple #[.slice A' ([] : List Nd).length c', .int .i64 0, .int .i64 2]) ∧ Cells w' A' (nds []) ∧ Below w.heap.size w w' :=
      fun h => ⟨none, 0, h.1, Cells.nil _ _, h.2⟩
    cases hg : grpOk n rs with
    | false => exact (Tree_no0 n A c rs known has first w hA hg).mono fun _ _ h => fin h
    | true =>
      cases hk : setI n known with
      | false => exact (Tree_no1 n A c rs known has first w hA hg hk).mono fun _ _ h => fin h
      | true =>
        cases hh : setI n has with
        | false => exact (Tree_no2 n A c rs known has first w hA hg hk hh).mono fun _ _ h => fin h
        | true =>
          cases hw : withinI has known with
          | false => exact (Tree_no3 n A c rs known has first w hA hg hk hh hw).mono fun _ _ h => fin h
          | true => exact absurd (by simp [treeOk, partOk, hg, hk, hh, hw]) ho
end Go.Proofs.Ytlnonadkdonhmaa
