/- The walk of SessKnown. -/
import Derived.Test.YtejabnoidhlfaaaS48
import Derived.Test.YtejabnoidhlfaaaS49

/- The walk of SessKnown. -/
namespace Go.Proofs.Ytejabnoidhlfaaa
open Go.RowKit Go.Maps

/-- An end in its box. -/
structure Eb (X : World) (b : Nat) (E : En) (A : Option Addr) (c : Nat) (D : Option Addr) (d : Nat) : Prop where
  k : Blk X b (.cells (enB E A c D d) 26)
  en : EnT X E A c D
theorem Eb.below {X Y : World} {b : Nat} {E : En} {A : Option Addr} {c : Nat} {D : Option Addr} {d : Nat} (h : Eb X b E A c D d) (hB : Below X.heap.size X Y) : Eb Y b E A c D d :=
  ⟨h.k.below hB h.k.lt, h.en.frame (Frame.of_all (S := fun _ => False) hB) (fun _ _ _ h => h) (fun _ _ _ h => h)⟩
theorem Eb.frame {S : Nat → Prop} {X Y : World} {b : Nat} {E : En} {A : Option Addr} {c : Nat} {D : Option Addr} {d : Nat} (h : Eb X b E A c D d) (hF : Frame S X Y) (hb : ¬ S b) (h1 : ∀ b cur, Blk X b (.cells cur 71) → ¬ S b) (h2 : ∀ b cur, Blk X b (.cells cur 73) → ¬ S b) : Eb Y b E A c D d :=
  ⟨h.k.frame hF hb, h.en.frame hF h1 h2⟩
/-- What a region that takes a packet leaves. -/
structure Kr (w V U : World) (b5 b6 : Nat) (R : En × Gn × Int) (x y z : Value) (A : Option Addr) (c : Nat) (D : Option Addr) (d : Nat) (P : Option Addr) (cp : Nat) (T : Option Addr) (ct : Nat) (L : Option Addr) (cl : Nat) : Prop where
  h6 : Blk (setEn U b5 R.1 A c D d) b6 (.cells #[x, y, z] 47)
  tj : Tj (setGn (setEn U b5 R.1 A c D d) b6 R.2.1 P cp T ct L cl) R b5 b6 A c D d P cp T ct L cl
  below : Below w.heap.size w (setGn (setEn U b5 R.1 A c D d) b6 R.2.1 P cp T ct L cl)
  oth : ∀ {b : Nat} {E : En} {A' : Option Addr} {c' : Nat} {D' : Option Addr} {d' : Nat}, Eb V b E A' c' D' d' → b ≠ b5 → Eb (setGn (setEn U b5 R.1 A c D d) b6 R.2.1 P cp T ct L cl) b E A' c' D' d'
theorem known_end {w V U0 UT U : World} {R : En × Gn × Int} {b5 b6 : Nat} {A : Option Addr} {c : Nat} {D : Option Addr} (d : Nat) {P : Option Addr} (cp : Nat) {T : Option Addr} {ct : Nat} {L : Option Addr} {cl : Nat} {e0 : En} {A0 D0 : Option Addr} {c0 d0 : Nat} {x y z : Value}
    (hwV : Below w.heap.size w V) (hB : Below V.heap.size V U) (hU : Below UT.heap.size UT U) (h5 : Blk U b5 (.cells (enB e0 A0 c0 D0 d0) 26)) (h6 : Blk U b6 (.cells #[x, y, z] 47)) (s5 : b5 < U0.heap.size ∨ UT.heap.size ≤ b5) (s6 : b6 < U0.heap.size ∨ UT.heap.size ≤ b6) (g5 : w.heap.size ≤ b5) (g6 : w.heap.size ≤ b6) (h : To U0 UT R A c D P T ct L cl) :
    Kr w V U b5 b6 R x y z A c D d P cp T ct L cl := by
  obtain ⟨h1, h2⟩ := tj_make (d := d) (cp := cp) hU h5 h6 s5 s6 h
  have hs := hwV.size
  have hs2 := hB.size
  refine ⟨h6.frame (setEn_frame (Frame.refl (fun b => b = b5) U) (.inl rfl)) (blk_ne h6 h5 (by decide)), h1, (hwV.trans (hB.mono hs)).trans (h2.below (B := w.heap.size) (fun b e => by rcases e with e | e <;> omega) (by omega)), fun hE hne => ?_⟩
  have hE2 := hE.below hB
  refine hE2.frame h2 (fun e => ?_) (fun b cur hb e => ?_) (fun b cur hb e => ?_)
  · rcases e with e | e
    · exact hne e
    · exact blk_ne hE2.k h6 (by decide) e
  · rcases e with e | e
    · exact blk_ne hb h5 (by decide) e
    · exact blk_ne hb h6 (by decide) e
  · rcases e with e | e
    · exact blk_ne hb h5 (by decide) e
    · exact blk_ne hb h6 (by decide) e
theorem wpList_build2 {ops : Array Oper} {rest : List Oper} {op : Oper} {a : Act} {w w' : World} {Q : Exit → Act → World → Prop} {t : TypeId} {n : Nat} {x y : Operand} {vx vy v : Value} (hw : Region.wanted op (yielded ops a.tmps) = true) (ho : op.op = .buildSlice t n #[(0, x), (1, y)]) (hx : a.eval x = vx) (hy : a.eval y = vy)
    (hr : (Instr.buildSlice t n #[(0, vx), (1, vy)]).run Try.prog w = .ok v w') (h : wpList Try.prog ops Q rest (a.put op.dst v) w') : wpList Try.prog ops Q (op :: rest) a w :=
  BigFrame.wpList_want hw fun K hK => by
    unfold Oper.wp execOp
    simp only [ho, List.map_toArray, List.map, hx, hy, Sem.run_bind, hr, Result.andThen_ok, Sem.run_pure]
    exact hK _ _ h
set_option maxRecDepth 100000 in
set_option maxHeartbeats 4000000 in
theorem build2 (w : World) : (Instr.buildSlice 35 2 #[(0, .agg #[.int .i64 2, .int .i64 1, .int .i64 5, .int .i64 0, .string ⟨#[120]⟩, .int .i64 0, .int .i64 0]), (1, .agg #[.int .i64 3, .int .i64 1, .int .i64 5, .int .i64 0, .string ⟨#[]⟩, .int .i64 0, .int .i64 0])]).run Try.prog w =
    .ok (.slice (some ⟨w.heap.size, 0, none⟩) 2 2) (w.alloc (.cells #[.int .i64 2, .int .i64 1, .int .i64 5, .int .i64 0, .string ⟨#[120]⟩, .int .i64 0, .int .i64 0, .int .i64 3, .int .i64 1, .int .i64 5, .int .i64 0, .string ⟨#[]⟩, .int .i64 0, .int .i64 0] 44)) := by
  go_simp
theorem kvals : ∃ (EA EB : En) (S1 : En × List Pk × Int) (R1 R2 R3 R4 : En × Gn × Int), startA 1 = (EA, 0) ∧ startA 5 = (EB, 0) ∧ (EA.out = [] ∧ EA.inn = []) ∧ (EB.out = [] ∧ EB.inn = []) ∧ tickA EA = ([kP1], 0) ∧ takeA EB kP1 = R1 ∧ sendA EA tX = S1 ∧ takeA S1.1 kP2 = R2 ∧ takeA R1.1 kP3 = R3 ∧ takeA kM kP4 = R4 ∧
    (R1.2.2 = 0 ∧ R1.2.1.packets = [kP2] ∧ R1.1.peer = 1 ∧ R1.1.phase = 2) ∧ S1.2 = ([], 0) ∧ (R2.2.2 = 0 ∧ R2.1.phase = 3 ∧ R2.2.1.packets = [⟨2, 1, 5, 0, tX, 0, 0⟩, ⟨3, 1, 5, 0, ⟨#[]⟩, 0, 0⟩]) ∧
    (R3.2.2 = 0 ∧ R3.1.phase = 3 ∧ R3.1.want = 1 ∧ R3.2.1.packets = [⟨3, 5, 1, 0, ⟨#[]⟩, 1, 0⟩] ∧ R3.2.1.taken = [tX]) ∧ (R4.2.2 = 0 ∧ R4.1.peer = 6 ∧ R4.1.phase = 2 ∧ R4.2.1.packets = [] ∧ R4.2.1.taken = [] ∧ R4.2.1.lost = []) :=
  ⟨kA0, kB0, sendA kA0 tX, takeA kB0 kP1, takeA kA1 kP2, takeA kB1 kP3, takeA kM kP4, by kernel_rfl, by kernel_rfl, ⟨by kernel_rfl, by kernel_rfl⟩, ⟨by kernel_rfl, by kernel_rfl⟩, k0_ok.2.2, rfl, rfl, rfl, rfl, rfl, k1_ok, k2_ok, k3_ok, k4_ok, k5_ok⟩
theorem to_of' {R : En × Gn × Int} {U0 UT : World} {A : Option Addr} {c : Nat} {D : Option Addr} {P T : Option Addr} {ct : Nat} {L : Option Addr} {cl : Nat}
    (h : EnAt UT R.1 A D ∧ GnAt UT R.2.1 P T L ∧ (A = none → c = 0) ∧ R.1.out.length ≤ c ∧ RowAt UT U0.heap.size A R.1.out ∧ ImAt UT D R.1.inn ∧ (∀ a, T = some a → U0.heap.size ≤ a.block) ∧ (∀ a, P = some a → U0.heap.size ≤ a.block) ∧ (∀ a, L = some a → U0.heap.size ≤ a.block) ∧ (T = none → ct = 0) ∧ (L = none → cl = 0) ∧ Below U0.heap.size U0 UT) :
    To U0 UT R A c D P T ct L cl ∧ Below U0.heap.size U0 UT := by
  obtain ⟨h1, h2, h3, h4, h5, h6, h7, h8, h9, h10, h11, h12⟩ := h
  exact ⟨⟨h1, h2, h3, h4, h5, h6, h7, h8, h9, h10, h11⟩, h12⟩
set_option maxRecDepth 100000 in
set_option maxHeartbeats 16000000 in
theorem walk_known (w : World) : Calls Try.prog 7 #[] w fun r w' => r = .returned (.bool true) ∧ Below w.heap.size w w' := by
  obtain ⟨EA, EB, S1, R1, R2, R3, R4, hA, hB, hNA, hNB, hTI, hR1, hS1, hR2, hR3, hR4, k1, k2, k3, k4, k5⟩ := kvals
  have HA := Lib.hid hA
  have HB := Lib.hid hB
  have HNA := Lib.hid hNA
  have HNB := Lib.hid hNB
  have HTI := Lib.hid hTI
  have HR1 := Lib.hid hR1
  have HS1 := Lib.hid hS1
  have HR2 := Lib.hid hR2
  have HR3 := Lib.hid hR3
  have HR4 := Lib.hid hR4
  have K1 := Lib.hid k1
  have K2 := Lib.hid k2
  have K3 := Lib.hid k3
  have K4 := Lib.hid k4
  have K5 := Lib.hid k5
  clear hA hB hNA hNB hTI hR1 hS1 hR2 hR3 hR4 k1 k2 k3 k4 k5
  go_enter Try.func7, Try.ntmps7
  go_wp2_with fail
  refine (start_any 1 w).mono ?_
  rintro r w1 ⟨rfl, hB⟩
  have HBc : Hid (Below w.heap.size w w1) := hB
  have H1W := Lib.hid hB.size
  clear hB
  rw [HA.out]
  unfold enV
  go_upto_region 2 with fail
  obtain ⟨w2, hv⟩ : ∃ v, w1.alloc (.cells #[.int .i64 EA.life, .int .i64 EA.peer, .int .i64 EA.phase, .int .i64 EA.base, .slice none EA.out.length 0, .int .i64 EA.want, .slice none EA.inn.length 0] 26) = v := ⟨_, rfl⟩
  have hbv : Below w1.heap.size w1 w2 := by rw [← hv]; exact (Below.refl _ w1).alloc (Nat.le_refl _) _
  have HBv : Hid (Below w.heap.size w w2) := below_in HBc.out hbv
  have HM1 : Hid (Eb w2 w1.heap.size EA none 0 none 0) := ⟨by rw [← hv]; exact Blk.new _ _, enT_nil _ HNA.out.1 HNA.out.2⟩
  rw [hv]
  clear hv HBc
  have HBc := HBv
  clear HBv
  obtain ⟨b1, hb1⟩ : ∃ b, w1.heap.size = b := ⟨_, rfl⟩
  rw [hb1] at HM1 H1W ⊢
  clear hbv hb1
  go_wp2_with fail
  refine (start_any 5 w2).mono ?_
  rintro r w3 ⟨rfl, hB⟩
  have HBc : Hid (Below w.heap.size w w3) := below_in HBc.out hB
  have HM1 := Lib.hid (HM1.out.below hB)
  clear hB
  have H3W := Lib.hid HBc.out.size
  have H13 : Hid (b1 ≠ w3.heap.size) := Nat.ne_of_lt HM1.out.k.lt
  rw [HB.out]
  unfold enV
  go_upto_region 3 with fail
  obtain ⟨w4, hv⟩ : ∃ v, w3.alloc (.cells #[.int .i64 EB.life, .int .i64 EB.peer, .int .i64 EB.phase, .int .i64 EB.base, .slice none EB.out.length 0, .int .i64 EB.want, .slice none EB.inn.length 0] 26) = v := ⟨_, rfl⟩
  have hbv : Below w3.heap.size w3 w4 := by rw [← hv]; exact (Below.refl _ w3).alloc (Nat.le_refl _) _
  have HBv : Hid (Below w.heap.size w w4) := below_in HBc.out hbv
  have HM3 : Hid (Eb w4 w3.heap.size EB none 0 none 0) := ⟨by rw [← hv]; exact Blk.new _ _, enT_nil _ HNB.out.1 HNB.out.2⟩
  rw [hv]
  clear hv HBc
  have HBc := HBv
  clear HBv
  have HM1 := Lib.hid (HM1.out.below hbv)
  obtain ⟨b3, hb3⟩ : ∃ b, w3.heap.size = b := ⟨_, rfl⟩
  rw [hb3] at HM3 H3W H13 ⊢
  have H31 : Hid (b3 ≠ b1) := fun e => H13.out e.symm
  clear hbv hb3
  have q9 := HM1.out.k
  have a0 := q9.cell 0 (v := .int .i64 EA.life) rfl
  have a1 := q9.cell 1 (v := .int .i64 EA.peer) rfl
  have a2 := q9.cell 2 (v := .int .i64 EA.phase) rfl
  have a3 := q9.cell 3 (v := .int .i64 EA.base) rfl
  have a4 := q9.cell 4 (v := .slice none EA.out.length 0) rfl
  have a5 := q9.cell 5 (v := .int .i64 EA.want) rfl
  have a6 := q9.cell 6 (v := .slice none EA.inn.length 0) rfl
  have al := q9.lt
  clear q9
  go_wp2_with fail
  refine (tick_any EA none 0 none 0 w4 HM1.out.en.at_ HM1.out.en.nl).mono ?_
  rintro r w5 ⟨v, rfl, how, hB⟩
  rw [HTI.out] at how ⊢
  obtain ⟨P4, cp4, rfl, hc4⟩ := own_at how (by rw [pks_len]; simp)
  have HC4 := Lib.hid hc4
  have HBc : Hid (Below w.heap.size w w5) := below_in HBc.out hB
  have HM1 := Lib.hid (HM1.out.below hB)
  have HM3 := Lib.hid (HM3.out.below hB)
  clear hB how hc4 a0 a1 a2 a3 a4 a5 a6 al
  go_wp2_with fail
  refine (hello31_any 1 0 w5).mono ?_
  rintro r w6 ⟨rfl, hB⟩
  have HBc : Hid (Below w.heap.size w w6) := below_in HBc.out hB
  have HC4 := Lib.hid (HC4.out.below hB (Nat.le_refl _))
  have HM1 := Lib.hid (HM1.out.below hB)
  have HM3 := Lib.hid (HM3.out.below hB)
  clear hB
  go_wp2_with fail
  refine (one_any P4 cp4 [kP1] kP1 w6 HC4.out).mono ?_
  rintro r V ⟨rfl, hB⟩
  have HBc : Hid (Below w.heap.size w V) := below_in HBc.out hB
  have HM1 := Lib.hid (HM1.out.below hB)
  have HM3 := Lib.hid (HM3.out.below hB)
  clear hB HC4
  rw [decide_eq_true rfl]
  go_upto_region 6 with fail
  go_cut [2, 7] from 12 (fun v2 v7 wx => ∃ b7 A c D d P cp T ct L cl, v2 = .int .i64 0 ∧ v7 = .pointer (some ⟨b7, 0, none⟩) ∧ Tj wx R1 b3 b7 A c D d P cp T ct L cl ∧ Eb wx b1 EA none 0 none 0 ∧ Below w.heap.size w wx ∧ w.heap.size ≤ b7 ∧ (∀ a, P = some a → ¬ a.block = b1))
  case first => as_aux_lemma =>
    have HR := Lib.hid (Rg.start V)
    have H5W := H3W
    have H53 := H13
    refine draw (fun _ => True) 11 rfl (by kernel_rfl) (fun Qd hQd => ?_)
    refine anyI_three' 0 1 7 rfl rfl rfl (by kernel_rfl) (by trivial) (fun Kd hKd => ?_) (fun Kd hKd => ?_) (fun Kd hKd => ?_)
    · skip
      have q9 := HM3.out.k.below HR.out.below HM3.out.k.lt
      try unfold Z47 at q9
      try unfold Z26 at q9
      have a0 := q9.cell 0 (v := .int .i64 EB.life) rfl
      have a1 := q9.cell 1 (v := .int .i64 EB.peer) rfl
      have a2 := q9.cell 2 (v := .int .i64 EB.phase) rfl
      have a3 := q9.cell 3 (v := .int .i64 EB.base) rfl
      have a4 := q9.cell 4 (v := .slice none EB.out.length 0) rfl
      have a5 := q9.cell 5 (v := .int .i64 EB.want) rfl
      have a6 := q9.cell 6 (v := .slice none EB.inn.length 0) rfl
      have al := q9.lt
      clear q9
      have q9 := HM3.out.k
      have v0 := q9.cell 0 (v := .int .i64 EB.life) rfl
      have v1 := q9.cell 1 (v := .int .i64 EB.peer) rfl
      have v2 := q9.cell 2 (v := .int .i64 EB.phase) rfl
      have v3 := q9.cell 3 (v := .int .i64 EB.base) rfl
      have v4 := q9.cell 4 (v := .slice none EB.out.length 0) rfl
      have v5 := q9.cell 5 (v := .int .i64 EB.want) rfl
      have v6 := q9.cell 6 (v := .slice none EB.inn.length 0) rfl
      have vl := q9.lt
      clear q9
      go_wp2
      clear a0 a1 a2 a3 a4 a5 a6 al v0 v1 v2 v3 v4 v5 v6 vl
      refine anyI_two' 1 7 rfl rfl (by kernel_rfl) ((by trivial)) (fun Kd hKd => ?_) (fun Kd hKd => ?_)
      · skip
        go_wp2_with (go_at_call 31; go_must (refine (hello31_any 1 0 _).mono ?_); rintro r u1 ⟨rfl, hB1⟩)
        have HR := Lib.hid (HR.out.call hB1)
        clear hB1
        refine anyI_two' 2 7 rfl rfl (by kernel_rfl) ((by trivial)) (fun Kd hKd => ?_) (fun Kd hKd => ?_)
        · skip
          go_wp2_with (go_at_call 20; go_must (refine (take_any EB none 0 none 0 kP1 _ (HM3.out.en.at_.below HR.out.below) HM3.out.en.nl (by decide)).mono ?_); rintro r ut ⟨A', c', D', d', P', cp', T', ct', L', cl', rfl, hpost⟩)
          rw [HR1.out] at hpost ⊢
          obtain ⟨hto, hbt⟩ := to_of' hpost
          have HTO := Lib.hid hto
          have HT := Lib.hid (Rt.start HR.out hbt)
          have HS0 := Lib.hid HR.out.below.size
          clear hpost hto hbt
          apply anyI_step 3 rfl (by kernel_rfl)
          focus (intro wI hI Kv hKv; go_simp; exact hKv)
          intro Kd hKd
          go_simp
          refine hKd _ ?_
          clear hKd Kd
          apply anyI_step 4 rfl (by kernel_rfl)
          focus (intro wI hI Kv hKv; go_simp; exact hKv)
          intro Kd hKd
          go_simp
          refine hKd _ ?_
          clear hKd Kd
          apply anyI_step 5 rfl (by kernel_rfl)
          focus (intro wI hI Kv hKv; go_simp; exact hKv)
          intro Kd hKd
          go_simp
          refine hKd _ ?_
          clear hKd Kd
          apply anyI_step 6 rfl (by kernel_rfl)
          focus (intro wI hI Kv hKv; go_simp; exact hKv)
          intro Kd hKd
          go_simp
          refine hKd _ ?_
          clear hKd Kd
          refine anyI_one' 7 rfl (by kernel_rfl) ((by trivial)) (fun Kd hKd => ?_)
          go_wp2
          have HT := Lib.hid (HT.out.al6 (ut.heap.size) (by simp))
          have HK5 := Lib.hid (HM3.out.k.below HT.out.rg.below HM3.out.k.lt)
          have HF := Lib.hid (known_end d' cp' HBc.out HT.out.rg.below HT.out.ut HK5.out (HT.out.rg.k6 _ rfl).2 (.inl (by have := HS0.out; have := HM3.out.k.lt; omega)) (HT.out.s6 _ rfl) H5W.out (Nat.le_trans HBc.out.size (HT.out.rg.k6 _ rfl).1) HTO.out)
          refine anyI_one' 8 rfl (by kernel_rfl) ((by trivial)) (fun Kd hKd => ?_)
          refine wpList_store26 rfl _ _ rfl HK5.out rfl rfl ?_
          refine ⟨rfl, hKd _ _ ?_⟩
          clear hKd Kd
          refine anyI_one' 9 rfl (by kernel_rfl) ((by trivial)) (fun Kd hKd => ?_)
          refine wpList_store47 rfl _ _ rfl HF.out.h6 rfl rfl ?_
          refine ⟨rfl, hKd _ _ ?_⟩
          clear hKd Kd
          apply anyI_step 10 rfl (by kernel_rfl)
          focus (intro wI hI Kv hKv; go_simp; exact hKv)
          intro Kd hKd
          go_simp
          refine hKd _ ?_
          clear hKd Kd
          refine anyI_end (by kernel_rfl) (trivial) (hQd _ _ ?_)
          clear hQd Qd
          go_wp2_with fail
          go_meet
          exact ⟨ut.heap.size, A', c', D', d', P', cp', T', ct', L', cl', congrArg (Value.int .i64) K1.out.1, rfl, HF.out.tj, HF.out.oth HM1.out H53.out, HF.out.below, Nat.le_trans HBc.out.size (HT.out.rg.k6 _ rfl).1, fun a ha => by have := HTO.out.p a ha; have := HS0.out; have := HM1.out.k.lt; omega⟩
        · skip
          go_wp2
          have HR := Lib.hid (HR.out.al6 (u1.heap.size) (by simp))
          refine anyI_one' 2 rfl (by kernel_rfl) ((by trivial)) (fun Kd hKd => ?_)
          go_wp2_with (go_at_call 20; go_must (refine (take_any EB none 0 none 0 kP1 _ (HM3.out.en.at_.below HR.out.below) HM3.out.en.nl (by decide)).mono ?_); rintro r ut ⟨A', c', D', d', P', cp', T', ct', L', cl', rfl, hpost⟩)
          rw [HR1.out] at hpost ⊢
          obtain ⟨hto, hbt⟩ := to_of' hpost
          have HTO := Lib.hid hto
          have HT := Lib.hid (Rt.start HR.out hbt)
          have HS0 := Lib.hid HR.out.below.size
          clear hpost hto hbt
          apply anyI_step 3 rfl (by kernel_rfl)
          focus (intro wI hI Kv hKv; go_simp; exact hKv)
          intro Kd hKd
          go_simp
          refine hKd _ ?_
          clear hKd Kd
          apply anyI_step 4 rfl (by kernel_rfl)
          focus (intro wI hI Kv hKv; go_simp; exact hKv)
          intro Kd hKd
          go_simp
          refine hKd _ ?_
          clear hKd Kd
          apply anyI_step 5 rfl (by kernel_rfl)
          focus (intro wI hI Kv hKv; go_simp; exact hKv)
          intro Kd hKd
          go_simp
          refine hKd _ ?_
          clear hKd Kd
          apply anyI_step 6 rfl (by kernel_rfl)
          focus (intro wI hI Kv hKv; go_simp; exact hKv)
          intro Kd hKd
          go_simp
          refine hKd _ ?_
          clear hKd Kd
          have HK5 := Lib.hid (HM3.out.k.below HT.out.rg.below HM3.out.k.lt)
          have HF := Lib.hid (known_end d' cp' HBc.out HT.out.rg.below HT.out.ut HK5.out (HT.out.rg.k6 _ rfl).2 (.inl (by have := HS0.out; have := HM3.out.k.lt; omega)) (HT.out.s6 _ rfl) H5W.out (Nat.le_trans HBc.out.size (HT.out.rg.k6 _ rfl).1) HTO.out)
          refine anyI_one' 8 rfl (by kernel_rfl) ((by trivial)) (fun Kd hKd => ?_)
          refine wpList_store26 rfl _ _ rfl HK5.out rfl rfl ?_
          refine ⟨rfl, hKd _ _ ?_⟩
          clear hKd Kd
          refine anyI_one' 9 rfl (by kernel_rfl) ((by trivial)) (fun Kd hKd => ?_)
          refine wpList_store47 rfl _ _ rfl HF.out.h6 rfl rfl ?_
          refine ⟨rfl, hKd _ _ ?_⟩
          clear hKd Kd
          apply anyI_step 10 rfl (by kernel_rfl)
          focus (intro wI hI Kv hKv; go_simp; exact hKv)
          intro Kd hKd
          go_simp
          refine hKd _ ?_
          clear hKd Kd
          refine anyI_end (by kernel_rfl) (trivial) (hQd _ _ ?_)
          clear hQd Qd
          go_wp2_with fail
          go_meet
          exact ⟨u1.heap.size, A', c', D', d', P', cp', T', ct', L', cl', congrArg (Value.int .i64) K1.out.1, rfl, HF.out.tj, HF.out.oth HM1.out H53.out, HF.out.below, Nat.le_trans HBc.out.size (HT.out.rg.k6 _ rfl).1, fun a ha => by have := HTO.out.p a ha; have := HS0.out; have := HM1.out.k.lt; omega⟩
      · skip
        go_wp2
        have HR := Lib.hid (HR.out.al6 (V.heap.size) (by simp))
        refine anyI_one' 1 rfl (by kernel_rfl) ((by trivial)) (fun Kd hKd => ?_)
        go_wp2_with (go_at_call 31; go_must (refine (hello31_any 1 0 _).mono ?_); rintro r u1 ⟨rfl, hB1⟩)
        have HR := Lib.hid (HR.out.call hB1)
        clear hB1
        refine anyI_one' 2 rfl (by kernel_rfl) ((by trivial)) (fun Kd hKd => ?_)
        go_wp2_with (go_at_call 20; go_must (refine (take_any EB none 0 none 0 kP1 _ (HM3.out.en.at_.below HR.out.below) HM3.out.en.nl (by decide)).mono ?_); rintro r ut ⟨A', c', D', d', P', cp', T', ct', L', cl', rfl, hpost⟩)
        rw [HR1.out] at hpost ⊢
        obtain ⟨hto, hbt⟩ := to_of' hpost
        have HTO := Lib.hid hto
        have HT := Lib.hid (Rt.start HR.out hbt)
        have HS0 := Lib.hid HR.out.below.size
        clear hpost hto hbt
        apply anyI_step 3 rfl (by kernel_rfl)
        focus (intro wI hI Kv hKv; go_simp; exact hKv)
        intro Kd hKd
        go_simp
        refine hKd _ ?_
        clear hKd Kd
        apply anyI_step 4 rfl (by kernel_rfl)
        focus (intro wI hI Kv hKv; go_simp; exact hKv)
        intro Kd hKd
        go_simp
        refine hKd _ ?_
        clear hKd Kd
        apply anyI_step 5 rfl (by kernel_rfl)
        focus (intro wI hI Kv hKv; go_simp; exact hKv)
        intro Kd hKd
        go_simp
        refine hKd _ ?_
        clear hKd Kd
        apply anyI_step 6 rfl (by kernel_rfl)
        focus (intro wI hI Kv hKv; go_simp; exact hKv)
        intro Kd hKd
        go_simp
        refine hKd _ ?_
        clear hKd Kd
        have HK5 := Lib.hid (HM3.out.k.below HT.out.rg.below HM3.out.k.lt)
        have HF := Lib.hid (known_end d' cp' HBc.out HT.out.rg.below HT.out.ut HK5.out (HT.out.rg.k6 _ rfl).2 (.inl (by have := HS0.out; have := HM3.out.k.lt; omega)) (HT.out.s6 _ rfl) H5W.out (Nat.le_trans HBc.out.size (HT.out.rg.k6 _ rfl).1) HTO.out)
        refine anyI_one' 8 rfl (by kernel_rfl) ((by trivial)) (fun Kd hKd => ?_)
        refine wpList_store26 rfl _ _ rfl HK5.out rfl rfl ?_
        refine ⟨rfl, hKd _ _ ?_⟩
        clear hKd Kd
        refine anyI_one' 9 rfl (by kernel_rfl) ((by trivial)) (fun Kd hKd => ?_)
        refine wpList_store47 rfl _ _ rfl HF.out.h6 rfl rfl ?_
        refine ⟨rfl, hKd _ _ ?_⟩
        clear hKd Kd
        apply anyI_step 10 rfl (by kernel_rfl)
        focus (intro wI hI Kv hKv; go_simp; exact hKv)
        intro Kd hKd
        go_simp
        refine hKd _ ?_
        clear hKd Kd
        refine anyI_end (by kernel_rfl) (trivial) (hQd _ _ ?_)
        clear hQd Qd
        go_wp2_with fail
        go_meet
        exact ⟨V.heap.size, A', c', D', d', P', cp', T', ct', L', cl', congrArg (Value.int .i64) K1.out.1, rfl, HF.out.tj, HF.out.oth HM1.out H53.out, HF.out.below, Nat.le_trans HBc.out.size (HT.out.rg.k6 _ rfl).1, fun a ha => by have := HTO.out.p a ha; have := HS0.out; have := HM1.out.k.lt; omega⟩
    · skip
      go_wp2_with (go_at_call 31; go_must (refine (hello31_any 1 0 _).mono ?_); rintro r u1 ⟨rfl, hB1⟩)
      have HR := Lib.hid (HR.out.call hB1)
      clear hB1
      refine anyI_two' 0 7 rfl rfl (by kernel_rfl) ((by trivial)) (fun Kd hKd => ?_) (fun Kd hKd => ?_)
      · skip
        have q9 := HM3.out.k.below HR.out.below HM3.out.k.lt
        try unfold Z47 at q9
        try unfold Z26 at q9
        have a0 := q9.cell 0 (v := .int .i64 EB.life) rfl
        have a1 := q9.cell 1 (v := .int .i64 EB.peer) rfl
        have a2 := q9.cell 2 (v := .int .i64 EB.phase) rfl
        have a3 := q9.cell 3 (v := .int .i64 EB.base) rfl
        have a4 := q9.cell 4 (v := .slice none EB.out.length 0) rfl
        have a5 := q9.cell 5 (v := .int .i64 EB.want) rfl
        have a6 := q9.cell 6 (v := .slice none EB.inn.length 0) rfl
        have al := q9.lt
        clear q9
        have q9 := HM3.out.k
        have v0 := q9.cell 0 (v := .int .i64 EB.life) rfl
        have v1 := q9.cell 1 (v := .int .i64 EB.peer) rfl
        have v2 := q9.cell 2 (v := .int .i64 EB.phase) rfl
        have v3 := q9.cell 3 (v := .int .i64 EB.base) rfl
        have v4 := q9.cell 4 (v := .slice none EB.out.length 0) rfl
        have v5 := q9.cell 5 (v := .int .i64 EB.want) rfl
        have v6 := q9.cell 6 (v := .slice none EB.inn.length 0) rfl
        have vl := q9.lt
        clear q9
        go_wp2
        clear a0 a1 a2 a3 a4 a5 a6 al v0 v1 v2 v3 v4 v5 v6 vl
        refine anyI_two' 2 7 rfl rfl (by kernel_rfl) ((by trivial)) (fun Kd hKd => ?_) (fun Kd hKd => ?_)
        · skip
          go_wp2_with (go_at_call 20; go_must (refine (take_any EB none 0 none 0 kP1 _ (HM3.out.en.at_.below HR.out.below) HM3.out.en.nl (by decide)).mono ?_); rintro r ut ⟨A', c', D', d', P', cp', T', ct', L', cl', rfl, hpost⟩)
          rw [HR1.out] at hpost ⊢
          obtain ⟨hto, hbt⟩ := to_of' hpost
          have HTO := Lib.hid hto
          have HT := Lib.hid (Rt.start HR.out hbt)
          have HS0 := Lib.hid HR.out.below.size
          clear hpost hto hbt
          apply anyI_step 3 rfl (by kernel_rfl)
          focus (intro wI hI Kv hKv; go_simp; exact hKv)
          intro Kd hKd
          go_simp
          refine hKd _ ?_
          clear hKd Kd
          apply anyI_step 4 rfl (by kernel_rfl)
          focus (intro wI hI Kv hKv; go_simp; exact hKv)
          intro Kd hKd
          go_simp
          refine hKd _ ?_
          clear hKd Kd
          apply anyI_step 5 rfl (by kernel_rfl)
          focus (intro wI hI Kv hKv; go_simp; exact hKv)
          intro Kd hKd
          go_simp
          refine hKd _ ?_
          clear hKd Kd
          apply anyI_step 6 rfl (by kernel_rfl)
          focus (intro wI hI Kv hKv; go_simp; exact hKv)
          intro Kd hKd
          go_simp
          refine hKd _ ?_
          clear hKd Kd
          refine anyI_one' 7 rfl (by kernel_rfl) ((by trivial)) (fun Kd hKd => ?_)
          go_wp2
          have HT := Lib.hid (HT.out.al6 (ut.heap.size) (by simp))
          have HK5 := Lib.hid (HM3.out.k.below HT.out.rg.below HM3.out.k.lt)
          have HF := Lib.hid (known_end d' cp' HBc.out HT.out.rg.below HT.out.ut HK5.out (HT.out.rg.k6 _ rfl).2 (.inl (by have := HS0.out; have := HM3.out.k.lt; omega)) (HT.out.s6 _ rfl) H5W.out (Nat.le_trans HBc.out.size (HT.out.rg.k6 _ rfl).1) HTO.out)
          refine anyI_one' 8 rfl (by kernel_rfl) ((by trivial)) (fun Kd hKd => ?_)
          refine wpList_store26 rfl _ _ rfl HK5.out rfl rfl ?_
          refine ⟨rfl, hKd _ _ ?_⟩
          clear hKd Kd
          refine anyI_one' 9 rfl (by kernel_rfl) ((by trivial)) (fun Kd hKd => ?_)
          refine wpList_store47 rfl _ _ rfl HF.out.h6 rfl rfl ?_
          refine ⟨rfl, hKd _ _ ?_⟩
          clear hKd Kd
          apply anyI_step 10 rfl (by kernel_rfl)
          focus (intro wI hI Kv hKv; go_simp; exact hKv)
          intro Kd hKd
          go_simp
          refine hKd _ ?_
          clear hKd Kd
          refine anyI_end (by kernel_rfl) (trivial) (hQd _ _ ?_)
          clear hQd Qd
          go_wp2_with fail
          go_meet
          exact ⟨ut.heap.size, A', c', D', d', P', cp', T', ct', L', cl', congrArg (Value.int .i64) K1.out.1, rfl, HF.out.tj, HF.out.oth HM1.out H53.out, HF.out.below, Nat.le_trans HBc.out.size (HT.out.rg.k6 _ rfl).1, fun a ha => by have := HTO.out.p a ha; have := HS0.out; have := HM1.out.k.lt; omega⟩
        · skip
          go_wp2
          have HR := Lib.hid (HR.out.al6 (u1.heap.size) (by simp))
          refine anyI_one' 2 rfl (by kernel_rfl) ((by trivial)) (fun Kd hKd => ?_)
          go_wp2_with (go_at_call 20; go_must (refine (take_any EB none 0 none 0 kP1 _ (HM3.out.en.at_.below HR.out.below) HM3.out.en.nl (by decide)).mono ?_); rintro r ut ⟨A', c', D', d', P', cp', T', ct', L', cl', rfl, hpost⟩)
          rw [HR1.out] at hpost ⊢
          obtain ⟨hto, hbt⟩ := to_of' hpost
          have HTO := Lib.hid hto
          have HT := Lib.hid (Rt.start HR.out hbt)
          have HS0 := Lib.hid HR.out.below.size
          clear hpost hto hbt
          apply anyI_step 3 rfl (by kernel_rfl)
          focus (intro wI hI Kv hKv; go_simp; exact hKv)
          intro Kd hKd
          go_simp
          refine hKd _ ?_
          clear hKd Kd
          apply anyI_step 4 rfl (by kernel_rfl)
          focus (intro wI hI Kv hKv; go_simp; exact hKv)
          intro Kd hKd
          go_simp
          refine hKd _ ?_
          clear hKd Kd
          apply anyI_step 5 rfl (by kernel_rfl)
          focus (intro wI hI Kv hKv; go_simp; exact hKv)
          intro Kd hKd
          go_simp
          refine hKd _ ?_
          clear hKd Kd
          apply anyI_step 6 rfl (by kernel_rfl)
          focus (intro wI hI Kv hKv; go_simp; exact hKv)
          intro Kd hKd
          go_simp
          refine hKd _ ?_
          clear hKd Kd
          have HK5 := Lib.hid (HM3.out.k.below HT.out.rg.below HM3.out.k.lt)
          have HF := Lib.hid (known_end d' cp' HBc.out HT.out.rg.below HT.out.ut HK5.out (HT.out.rg.k6 _ rfl).2 (.inl (by have := HS0.out; have := HM3.out.k.lt; omega)) (HT.out.s6 _ rfl) H5W.out (Nat.le_trans HBc.out.size (HT.out.rg.k6 _ rfl).1) HTO.out)
          refine anyI_one' 8 rfl (by kernel_rfl) ((by trivial)) (fun Kd hKd => ?_)
          refine wpList_store26 rfl _ _ rfl HK5.out rfl rfl ?_
          refine ⟨rfl, hKd _ _ ?_⟩
          clear hKd Kd
          refine anyI_one' 9 rfl (by kernel_rfl) ((by trivial)) (fun Kd hKd => ?_)
          refine wpList_store47 rfl _ _ rfl HF.out.h6 rfl rfl ?_
          refine ⟨rfl, hKd _ _ ?_⟩
          clear hKd Kd
          apply anyI_step 10 rfl (by kernel_rfl)
          focus (intro wI hI Kv hKv; go_simp; exact hKv)
          intro Kd hKd
          go_simp
          refine hKd _ ?_
          clear hKd Kd
          refine anyI_end (by kernel_rfl) (trivial) (hQd _ _ ?_)
          clear hQd Qd
          go_wp2_with fail
          go_meet
          exact ⟨u1.heap.size, A', c', D', d', P', cp', T', ct', L', cl', congrArg (Value.int .i64) K1.out.1, rfl, HF.out.tj, HF.out.oth HM1.out H53.out, HF.out.below, Nat.le_trans HBc.out.size (HT.out.rg.k6 _ rfl).1, fun a ha => by have := HTO.out.p a ha; have := HS0.out; have := HM1.out.k.lt; omega⟩
      · skip
        go_wp2
        have HR := Lib.hid (HR.out.al6 (u1.heap.size) (by simp))
        refine anyI_one' 0 rfl (by kernel_rfl) ((by trivial)) (fun Kd hKd => ?_)
        have q9 := HM3.out.k.below HR.out.below HM3.out.k.lt
        try unfold Z47 at q9
        try unfold Z26 at q9
        have a0 := q9.cell 0 (v := .int .i64 EB.life) rfl
        have a1 := q9.cell 1 (v := .int .i64 EB.peer) rfl
        have a2 := q9.cell 2 (v := .int .i64 EB.phase) rfl
        have a3 := q9.cell 3 (v := .int .i64 EB.base) rfl
        have a4 := q9.cell 4 (v := .slice none EB.out.length 0) rfl
        have a5 := q9.cell 5 (v := .int .i64 EB.want) rfl
        have a6 := q9.cell 6 (v := .slice none EB.inn.length 0) rfl
        have al := q9.lt
        clear q9
        have q9 := HM3.out.k
        have v0 := q9.cell 0 (v := .int .i64 EB.life) rfl
        have v1 := q9.cell 1 (v := .int .i64 EB.peer) rfl
        have v2 := q9.cell 2 (v := .int .i64 EB.phase) rfl
        have v3 := q9.cell 3 (v := .int .i64 EB.base) rfl
        have v4 := q9.cell 4 (v := .slice none EB.out.length 0) rfl
        have v5 := q9.cell 5 (v := .int .i64 EB.want) rfl
        have v6 := q9.cell 6 (v := .slice none EB.inn.length 0) rfl
        have vl := q9.lt
        clear q9
        go_wp2
        clear a0 a1 a2 a3 a4 a5 a6 al v0 v1 v2 v3 v4 v5 v6 vl
        refine anyI_one' 2 rfl (by kernel_rfl) ((by trivial)) (fun Kd hKd => ?_)
        go_wp2_with (go_at_call 20; go_must (refine (take_any EB none 0 none 0 kP1 _ (HM3.out.en.at_.below HR.out.below) HM3.out.en.nl (by decide)).mono ?_); rintro r ut ⟨A', c', D', d', P', cp', T', ct', L', cl', rfl, hpost⟩)
        rw [HR1.out] at hpost ⊢
        obtain ⟨hto, hbt⟩ := to_of' hpost
        have HTO := Lib.hid hto
        have HT := Lib.hid (Rt.start HR.out hbt)
        have HS0 := Lib.hid HR.out.below.size
        clear hpost hto hbt
        apply anyI_step 3 rfl (by kernel_rfl)
        focus (intro wI hI Kv hKv; go_simp; exact hKv)
        intro Kd hKd
        go_simp
        refine hKd _ ?_
        clear hKd Kd
        apply anyI_step 4 rfl (by kernel_rfl)
        focus (intro wI hI Kv hKv; go_simp; exact hKv)
        intro Kd hKd
        go_simp
        refine hKd _ ?_
        clear hKd Kd
        apply anyI_step 5 rfl (by kernel_rfl)
        focus (intro wI hI Kv hKv; go_simp; exact hKv)
        intro Kd hKd
        go_simp
        refine hKd _ ?_
        clear hKd Kd
        apply anyI_step 6 rfl (by kernel_rfl)
        focus (intro wI hI Kv hKv; go_simp; exact hKv)
        intro Kd hKd
        go_simp
        refine hKd _ ?_
        clear hKd Kd
        have HK5 := Lib.hid (HM3.out.k.below HT.out.rg.below HM3.out.k.lt)
        have HF := Lib.hid (known_end d' cp' HBc.out HT.out.rg.below HT.out.ut HK5.out (HT.out.rg.k6 _ rfl).2 (.inl (by have := HS0.out; have := HM3.out.k.lt; omega)) (HT.out.s6 _ rfl) H5W.out (Nat.le_trans HBc.out.size (HT.out.rg.k6 _ rfl).1) HTO.out)
        refine anyI_one' 8 rfl (by kernel_rfl) ((by trivial)) (fun Kd hKd => ?_)
        refine wpList_store26 rfl _ _ rfl HK5.out rfl rfl ?_
        refine ⟨rfl, hKd _ _ ?_⟩
        clear hKd Kd
        refine anyI_one' 9 rfl (by kernel_rfl) ((by trivial)) (fun Kd hKd => ?_)
        refine wpList_store47 rfl _ _ rfl HF.out.h6 rfl rfl ?_
        refine ⟨rfl, hKd _ _ ?_⟩
        clear hKd Kd
        apply anyI_step 10 rfl (by kernel_rfl)
        focus (intro wI hI Kv hKv; go_simp; exact hKv)
        intro Kd hKd
        go_simp
        refine hKd _ ?_
        clear hKd Kd
        refine anyI_end (by kernel_rfl) (trivial) (hQd _ _ ?_)
        clear hQd Qd
        go_wp2_with fail
        go_meet
        exact ⟨u1.heap.size, A', c', D', d', P', cp', T', ct', L', cl', congrArg (Value.int .i64) K1.out.1, rfl, HF.out.tj, HF.out.oth HM1.out H53.out, HF.out.below, Nat.le_trans HBc.out.size (HT.out.rg.k6 _ rfl).1, fun a ha => by have := HTO.out.p a ha; have := HS0.out; have := HM1.out.k.lt; omega⟩
    · skip
      go_wp2
      have HR := Lib.hid (HR.out.al6 (V.heap.size) (by simp))
      refine anyI_two' 0 1 rfl rfl (by kernel_rfl) ((by trivial)) (fun Kd hKd => ?_) (fun Kd hKd => ?_)
      · skip
        have q9 := HM3.out.k.below HR.out.below HM3.out.k.lt
        try unfold Z47 at q9
        try unfold Z26 at q9
        have a0 := q9.cell 0 (v := .int .i64 EB.life) rfl
        have a1 := q9.cell 1 (v := .int .i64 EB.peer) rfl
        have a2 := q9.cell 2 (v := .int .i64 EB.phase) rfl
        have a3 := q9.cell 3 (v := .int .i64 EB.base) rfl
        have a4 := q9.cell 4 (v := .slice none EB.out.length 0) rfl
        have a5 := q9.cell 5 (v := .int .i64 EB.want) rfl
        have a6 := q9.cell 6 (v := .slice none EB.inn.length 0) rfl
        have al := q9.lt
        clear q9
        have q9 := HM3.out.k
        have v0 := q9.cell 0 (v := .int .i64 EB.life) rfl
        have v1 := q9.cell 1 (v := .int .i64 EB.peer) rfl
        have v2 := q9.cell 2 (v := .int .i64 EB.phase) rfl
        have v3 := q9.cell 3 (v := .int .i64 EB.base) rfl
        have v4 := q9.cell 4 (v := .slice none EB.out.length 0) rfl
        have v5 := q9.cell 5 (v := .int .i64 EB.want) rfl
        have v6 := q9.cell 6 (v := .slice none EB.inn.length 0) rfl
        have vl := q9.lt
        clear q9
        go_wp2
        clear a0 a1 a2 a3 a4 a5 a6 al v0 v1 v2 v3 v4 v5 v6 vl
        refine anyI_one' 1 rfl (by kernel_rfl) ((by trivial)) (fun Kd hKd => ?_)
        go_wp2_with (go_at_call 31; go_must (refine (hello31_any 1 0 _).mono ?_); rintro r u1 ⟨rfl, hB1⟩)
        have HR := Lib.hid (HR.out.call hB1)
        clear hB1
        refine anyI_one' 2 rfl (by kernel_rfl) ((by trivial)) (fun Kd hKd => ?_)
        go_wp2_with (go_at_call 20; go_must (refine (take_any EB none 0 none 0 kP1 _ (HM3.out.en.at_.below HR.out.below) HM3.out.en.nl (by decide)).mono ?_); rintro r ut ⟨A', c', D', d', P', cp', T', ct', L', cl', rfl, hpost⟩)
        rw [HR1.out] at hpost ⊢
        obtain ⟨hto, hbt⟩ := to_of' hpost
        have HTO := Lib.hid hto
        have HT := Lib.hid (Rt.start HR.out hbt)
        have HS0 := Lib.hid HR.out.below.size
        clear hpost hto hbt
        apply anyI_step 3 rfl (by kernel_rfl)
        focus (intro wI hI Kv hKv; go_simp; exact hKv)
        intro Kd hKd
        go_simp
        refine hKd _ ?_
        clear hKd Kd
        apply anyI_step 4 rfl (by kernel_rfl)
        focus (intro wI hI Kv hKv; go_simp; exact hKv)
        intro Kd hKd
        go_simp
        refine hKd _ ?_
        clear hKd Kd
        apply anyI_step 5 rfl (by kernel_rfl)
        focus (intro wI hI Kv hKv; go_simp; exact hKv)
        intro Kd hKd
        go_simp
        refine hKd _ ?_
        clear hKd Kd
        apply anyI_step 6 rfl (by kernel_rfl)
        focus (intro wI hI Kv hKv; go_simp; exact hKv)
        intro Kd hKd
        go_simp
        refine hKd _ ?_
        clear hKd Kd
        have HK5 := Lib.hid (HM3.out.k.below HT.out.rg.below HM3.out.k.lt)
        have HF := Lib.hid (known_end d' cp' HBc.out HT.out.rg.below HT.out.ut HK5.out (HT.out.rg.k6 _ rfl).2 (.inl (by have := HS0.out; have := HM3.out.k.lt; omega)) (HT.out.s6 _ rfl) H5W.out (Nat.le_trans HBc.out.size (HT.out.rg.k6 _ rfl).1) HTO.out)
        refine anyI_one' 8 rfl (by kernel_rfl) ((by trivial)) (fun Kd hKd => ?_)
        refine wpList_store26 rfl _ _ rfl HK5.out rfl rfl ?_
        refine ⟨rfl, hKd _ _ ?_⟩
        clear hKd Kd
        refine anyI_one' 9 rfl (by kernel_rfl) ((by trivial)) (fun Kd hKd => ?_)
        refine wpList_store47 rfl _ _ rfl HF.out.h6 rfl rfl ?_
        refine ⟨rfl, hKd _ _ ?_⟩
        clear hKd Kd
        apply anyI_step 10 rfl (by kernel_rfl)
        focus (intro wI hI Kv hKv; go_simp; exact hKv)
        intro Kd hKd
        go_simp
        refine hKd _ ?_
        clear hKd Kd
        refine anyI_end (by kernel_rfl) (trivial) (hQd _ _ ?_)
        clear hQd Qd
        go_wp2_with fail
        go_meet
        exact ⟨V.heap.size, A', c', D', d', P', cp', T', ct', L', cl', congrArg (Value.int .i64) K1.out.1, rfl, HF.out.tj, HF.out.oth HM1.out H53.out, HF.out.below, Nat.le_trans HBc.out.size (HT.out.rg.k6 _ rfl).1, fun a ha => by have := HTO.out.p a ha; have := HS0.out; have := HM1.out.k.lt; omega⟩
      · skip
        go_wp2_with (go_at_call 31; go_must (refine (hello31_any 1 0 _).mono ?_); rintro r u1 ⟨rfl, hB1⟩)
        have HR := Lib.hid (HR.out.call hB1)
        clear hB1
        refine anyI_one' 0 rfl (by kernel_rfl) ((by trivial)) (fun Kd hKd => ?_)
        have q9 := HM3.out.k.below HR.out.below HM3.out.k.lt
        try unfold Z47 at q9
        try unfold Z26 at q9
        have a0 := q9.cell 0 (v := .int .i64 EB.life) rfl
        have a1 := q9.cell 1 (v := .int .i64 EB.peer) rfl
        have a2 := q9.cell 2 (v := .int .i64 EB.phase) rfl
        have a3 := q9.cell 3 (v := .int .i64 EB.base) rfl
        have a4 := q9.cell 4 (v := .slice none EB.out.length 0) rfl
        have a5 := q9.cell 5 (v := .int .i64 EB.want) rfl
        have a6 := q9.cell 6 (v := .slice none EB.inn.length 0) rfl
        have al := q9.lt
        clear q9
        have q9 := HM3.out.k
        have v0 := q9.cell 0 (v := .int .i64 EB.life) rfl
        have v1 := q9.cell 1 (v := .int .i64 EB.peer) rfl
        have v2 := q9.cell 2 (v := .int .i64 EB.phase) rfl
        have v3 := q9.cell 3 (v := .int .i64 EB.base) rfl
        have v4 := q9.cell 4 (v := .slice none EB.out.length 0) rfl
        have v5 := q9.cell 5 (v := .int .i64 EB.want) rfl
        have v6 := q9.cell 6 (v := .slice none EB.inn.length 0) rfl
        have vl := q9.lt
        clear q9
        go_wp2
        clear a0 a1 a2 a3 a4 a5 a6 al v0 v1 v2 v3 v4 v5 v6 vl
        refine anyI_one' 2 rfl (by kernel_rfl) ((by trivial)) (fun Kd hKd => ?_)
        go_wp2_with (go_at_call 20; go_must (refine (take_any EB none 0 none 0 kP1 _ (HM3.out.en.at_.below HR.out.below) HM3.out.en.nl (by decide)).mono ?_); rintro r ut ⟨A', c', D', d', P', cp', T', ct', L', cl', rfl, hpost⟩)
        rw [HR1.out] at hpost ⊢
        obtain ⟨hto, hbt⟩ := to_of' hpost
        have HTO := Lib.hid hto
        have HT := Lib.hid (Rt.start HR.out hbt)
        have HS0 := Lib.hid HR.out.below.size
        clear hpost hto hbt
        apply anyI_step 3 rfl (by kernel_rfl)
        focus (intro wI hI Kv hKv; go_simp; exact hKv)
        intro Kd hKd
        go_simp
        refine hKd _ ?_
        clear hKd Kd
        apply anyI_step 4 rfl (by kernel_rfl)
        focus (intro wI hI Kv hKv; go_simp; exact hKv)
        intro Kd hKd
        go_simp
        refine hKd _ ?_
        clear hKd Kd
        apply anyI_step 5 rfl (by kernel_rfl)
        focus (intro wI hI Kv hKv; go_simp; exact hKv)
        intro Kd hKd
        go_simp
        refine hKd _ ?_
        clear hKd Kd
        apply anyI_step 6 rfl (by kernel_rfl)
        focus (intro wI hI Kv hKv; go_simp; exact hKv)
        intro Kd hKd
        go_simp
        refine hKd _ ?_
        clear hKd Kd
        have HK5 := Lib.hid (HM3.out.k.below HT.out.rg.below HM3.out.k.lt)
        have HF := Lib.hid (known_end d' cp' HBc.out HT.out.rg.below HT.out.ut HK5.out (HT.out.rg.k6 _ rfl).2 (.inl (by have := HS0.out; have := HM3.out.k.lt; omega)) (HT.out.s6 _ rfl) H5W.out (Nat.le_trans HBc.out.size (HT.out.rg.k6 _ rfl).1) HTO.out)
        refine anyI_one' 8 rfl (by kernel_rfl) ((by trivial)) (fun Kd hKd => ?_)
        refine wpList_store26 rfl _ _ rfl HK5.out rfl rfl ?_
        refine ⟨rfl, hKd _ _ ?_⟩
        clear hKd Kd
        refine anyI_one' 9 rfl (by kernel_rfl) ((by trivial)) (fun Kd hKd => ?_)
        refine wpList_store47 rfl _ _ rfl HF.out.h6 rfl rfl ?_
        refine ⟨rfl, hKd _ _ ?_⟩
        clear hKd Kd
        apply anyI_step 10 rfl (by kernel_rfl)
        focus (intro wI hI Kv hKv; go_simp; exact hKv)
        intro Kd hKd
        go_simp
        refine hKd _ ?_
        clear hKd Kd
        refine anyI_end (by kernel_rfl) (trivial) (hQd _ _ ?_)
        clear hQd Qd
        go_wp2_with fail
        go_meet
        exact ⟨V.heap.size, A', c', D', d', P', cp', T', ct', L', cl', congrArg (Value.int .i64) K1.out.1, rfl, HF.out.tj, HF.out.oth HM1.out H53.out, HF.out.below, Nat.le_trans HBc.out.size (HT.out.rg.k6 _ rfl).1, fun a ha => by have := HTO.out.p a ha; have := HS0.out; have := HM1.out.k.lt; omega⟩
  case rest =>
    obtain ⟨b7, A3, c3, D3, d3, P, cp, T, ct, L, cl, rfl, rfl, htj, heb, hbx, hg7, hp1⟩ := hcut
    obtain ⟨X, rfl⟩ : ∃ X, X = wc := ⟨wc, rfl⟩
    have HJ := Lib.hid htj
    have HM1 := Lib.hid heb
    have HM3 : Hid (Eb X b3 R1.1 A3 c3 D3 d3) := ⟨htj.k5, htj.en⟩
    have HBc : Hid (Below w.heap.size w X) := hbx
    have H7W := Lib.hid hg7
    have HP1 := Lib.hid hp1
    clear htj heb hbx hg7 hp1
    have q9 := HM1.out.k
    have a0 := q9.cell 0 (v := .int .i64 EA.life) rfl
    have a1 := q9.cell 1 (v := .int .i64 EA.peer) rfl
    have a2 := q9.cell 2 (v := .int .i64 EA.phase) rfl
    have a3 := q9.cell 3 (v := .int .i64 EA.base) rfl
    have a4 := q9.cell 4 (v := .slice none EA.out.length 0) rfl
    have a5 := q9.cell 5 (v := .int .i64 EA.want) rfl
    have a6 := q9.cell 6 (v := .slice none EA.inn.length 0) rfl
    have al := q9.lt
    clear q9
    go_wp2_with fail
    refine (send_any EA none 0 none 0 tX X HM1.out.en.at_ HM1.out.en.nl).mono ?_
    rintro r w1' ⟨A1, c1, D1, d1, v, rfl, he1, hr1, hi1, hn1, hc1, how, hB⟩
    rw [HS1.out] at he1 hr1 hi1 hc1 how ⊢
    have HE1 : Hid (EnT w1' S1.1 A1 c1 D1) := ⟨he1, hr1.mono (Nat.zero_le _), hi1, hn1, hc1⟩
    obtain ⟨P1, cp1, rfl⟩ := own_fits how
    have HBc : Hid (Below w.heap.size w w1') := below_in HBc.out hB
    have HJ := Lib.hid (HJ.out.below hB)
    have HM1 := Lib.hid (HM1.out.below hB)
    have HM3 := Lib.hid (HM3.out.below hB)
    have n0 : S1.2.1.length = 0 := by rw [K2.out]; rfl
    have n1 : S1.2.2 = 0 := by rw [K2.out]
    rw [n0, n1]
    clear he1 hr1 hi1 hn1 hc1 how n0 n1 hB a0 a1 a2 a3 a4 a5 a6 al
    have q9 := HM1.out.k
    have a0 := q9.cell 0 (v := .int .i64 EA.life) rfl
    have a1 := q9.cell 1 (v := .int .i64 EA.peer) rfl
    have a2 := q9.cell 2 (v := .int .i64 EA.phase) rfl
    have a3 := q9.cell 3 (v := .int .i64 EA.base) rfl
    have a4 := q9.cell 4 (v := .slice none EA.out.length 0) rfl
    have a5 := q9.cell 5 (v := .int .i64 EA.want) rfl
    have a6 := q9.cell 6 (v := .slice none EA.inn.length 0) rfl
    have al := q9.lt
    have f0 := q9.free 0
    have f1 := q9.free 1
    have f2 := q9.free 2
    have f3 := q9.free 3
    have f4 := q9.free 4
    have f5 := q9.free 5
    have f6 := q9.free 6
    clear q9
    unfold enV
    go_upto_region 8 with fail
    obtain ⟨Y, hY⟩ : ∃ Y, setEn w1' b1 S1.1 A1 c1 D1 d1 = Y := ⟨_, rfl⟩
    have hf : Frame (fun b => b = b1) w1' Y := by rw [← hY]; exact setEn_frame (Frame.refl (fun b => b = b1) w1') (.inl rfl)
    have HNB1 : Hid (∀ b cur t, Blk w1' b (.cells cur t) → t ≠ 26 → ¬ b = b1) := fun b cur t hb ht e => blk_ne hb HM1.out.k ht e
    have HM1' : Hid (Eb Y b1 S1.1 A1 c1 D1 d1) := ⟨by rw [← hY]; exact setEn_blk HM1.out.k, HE1.out.frame hf (fun b cur hb => HNB1.out b cur _ hb (by decide)) (fun b cur hb => HNB1.out b cur _ hb (by decide))⟩
    have HM3' := Lib.hid (HM3.out.frame hf H31.out (fun b cur hb => HNB1.out b cur _ hb (by decide)) (fun b cur hb => HNB1.out b cur _ hb (by decide)))
    have HG7 := Lib.hid (HJ.out.k6.frame hf (HNB1.out _ _ _ HJ.out.k6 (by decide)))
    have HGP := Lib.hid (HJ.out.gn.p.frame hf (fun _ a ha e => HP1.out a ha e))
    have HBY : Hid (Below w.heap.size w Y) := HBc.out.trans (hf.below (B := w.heap.size) (fun b e => by rw [e]; exact H1W.out) HBc.out.size)
    unfold setEn at hY
    rw [hY]
    clear hY hf HNB1 HM1 HM3 HBc HJ HE1 a0 a1 a2 a3 a4 a5 a6 al f0 f1 f2 f3 f4 f5 f6
    have HM1 := HM1'
    have HM3 := HM3'
    have HBc := HBY
    clear HM1' HM3' HBY HP1
    have l3 := HM3.out.k.lt
    have l7 := HG7.out.lt
    have p1 : R1.1.peer = 1 := K1.out.2.2.1
    have p2 : R1.1.phase = 2 := K1.out.2.2.2
    go_cut [81] from 12 (fun v wx => v = .bool false ∧ Below Y.heap.size Y wx)
    case first => as_aux_lemma =>
      refine draw (fun w' => Below Y.heap.size Y w') 28 rfl (by kernel_rfl) (fun Qd hQd => ?_)
      apply anyI_step 0 rfl (by kernel_rfl)
      focus (intro wI hI Kv hKv; have q9 := HG7.out.below hI l7; have c0 := q9.cell 0 (v := .slice P R1.2.1.packets.length cp) rfl; clear q9; go_simp; exact hKv)
      intro Kd hKd
      go_simp
      refine hKd _ ?_
      clear hKd Kd
      apply anyI_step 1 rfl (by kernel_rfl)
      focus (intro wI hI Kv hKv; have q9 := HG7.out.below hI l7; have c0 := q9.cell 0 (v := .slice P R1.2.1.packets.length cp) rfl; clear q9; go_simp; exact hKv)
      intro Kd hKd
      go_simp
      refine hKd _ ?_
      clear hKd Kd
      apply anyI_step 2 rfl (by kernel_rfl)
      focus (intro wI hI Kv hKv; have q9 := HG7.out.below hI l7; have c0 := q9.cell 0 (v := .slice P R1.2.1.packets.length cp) rfl; clear q9; go_simp; exact hKv)
      intro Kd hKd
      go_simp
      refine hKd _ ?_
      clear hKd Kd
      apply anyI_step 3 rfl (by kernel_rfl)
      focus (intro wI hI Kv hKv; have q9 := HG7.out.below hI l7; have c0 := q9.cell 0 (v := .slice P R1.2.1.packets.length cp) rfl; clear q9; go_simp; exact hKv)
      intro Kd hKd
      go_simp
      refine hKd _ ?_
      clear hKd Kd
      apply anyI_step 4 rfl (by kernel_rfl)
      focus (intro wI hI Kv hKv; have q9 := HG7.out.below hI l7; have c0 := q9.cell 0 (v := .slice P R1.2.1.packets.length cp) rfl; clear q9; go_simp; exact hKv)
      intro Kd hKd
      go_simp
      refine hKd _ ?_
      clear hKd Kd
      apply anyI_step 5 rfl (by kernel_rfl)
      focus (intro wI hI Kv hKv; have q9 := HG7.out.below hI l7; have c0 := q9.cell 0 (v := .slice P R1.2.1.packets.length cp) rfl; clear q9; go_simp; exact hKv)
      intro Kd hKd
      go_simp
      refine hKd _ ?_
      clear hKd Kd
      apply anyI_step 6 rfl (by kernel_rfl)
      focus (intro wI hI Kv hKv; have q9 := HG7.out.below hI l7; have c0 := q9.cell 0 (v := .slice P R1.2.1.packets.length cp) rfl; clear q9; go_simp; exact hKv)
      intro Kd hKd
      go_simp
      refine hKd _ ?_
      clear hKd Kd
      apply anyI_step 7 rfl (by kernel_rfl)
      focus (intro wI hI Kv hKv; have q9 := HG7.out.below hI l7; have c0 := q9.cell 0 (v := .slice P R1.2.1.packets.length cp) rfl; clear q9; go_simp; exact hKv)
      intro Kd hKd
      go_simp
      refine hKd _ ?_
      clear hKd Kd
      apply anyI_step 8 rfl (by kernel_rfl)
      focus (intro wI hI Kv hKv; have q9 := HG7.out.below hI l7; have c0 := q9.cell 0 (v := .slice P R1.2.1.packets.length cp) rfl; clear q9; go_simp; exact hKv)
      intro Kd hKd
      go_simp
      refine hKd _ ?_
      clear hKd Kd
      apply anyI_step 9 rfl (by kernel_rfl)
      focus (intro wI hI Kv hKv; have q9 := HG7.out.below hI l7; have c0 := q9.cell 0 (v := .slice P R1.2.1.packets.length cp) rfl; clear q9; go_simp; exact hKv)
      intro Kd hKd
      go_simp
      refine hKd _ ?_
      clear hKd Kd
      apply anyI_step 10 rfl (by kernel_rfl)
      focus (intro wI hI Kv hKv; have q9 := HG7.out.below hI l7; have c0 := q9.cell 0 (v := .slice P R1.2.1.packets.length cp) rfl; clear q9; go_simp; exact hKv)
      intro Kd hKd
      go_simp
      refine hKd _ ?_
      clear hKd Kd
      apply anyI_step 11 rfl (by kernel_rfl)
      focus (intro wI hI Kv hKv; have q9 := HG7.out.below hI l7; have c0 := q9.cell 0 (v := .slice P R1.2.1.packets.length cp) rfl; clear q9; go_simp; exact hKv)
      intro Kd hKd
      go_simp
      refine hKd _ ?_
      clear hKd Kd
      apply anyI_step 12 rfl (by kernel_rfl)
      focus (intro wI hI Kv hKv; have q9 := HG7.out.below hI l7; have c0 := q9.cell 0 (v := .slice P R1.2.1.packets.length cp) rfl; clear q9; go_simp; exact hKv)
      intro Kd hKd
      go_simp
      refine hKd _ ?_
      clear hKd Kd
      apply anyI_step 13 rfl (by kernel_rfl)
      focus (intro wI hI Kv hKv; have q9 := HG7.out.below hI l7; have c0 := q9.cell 0 (v := .slice P R1.2.1.packets.length cp) rfl; clear q9; go_simp; exact hKv)
      intro Kd hKd
      go_simp
      refine hKd _ ?_
      clear hKd Kd
      refine anyI_one' 14 rfl (by kernel_rfl) ((Below.refl _ Y).drew) (fun Kd hKd => ?_)
      go_wp2_with (go_at_call 31; go_must (refine (hello31_any 5 1 _).mono ?_); rintro r u1 ⟨rfl, hB1⟩)
      have HB1 : Hid (Below Y.heap.size Y u1) := below_in (Below.refl _ Y).drew hB1
      clear hB1
      refine anyI_one' 15 rfl (by kernel_rfl) (HB1.out) (fun Kd hKd => ?_)
      go_wp2_with (go_at_call 30; go_must (refine (one_any P cp R1.2.1.packets kP2 u1 (HGP.out.below HB1.out (Nat.le_refl _))).mono ?_); rintro r u2 ⟨rfl, hB2⟩; rw [K1.out.2.1, decide_eq_true rfl])
      have HB2 : Hid (Below Y.heap.size Y u2) := below_in HB1.out hB2
      clear hB2
      apply anyI_step 16 rfl (by kernel_rfl)
      focus (intro wI hI Kv hKv; have q9 := HM3.out.k.below hI l3; have e1 := q9.cell 1 (v := .int .i64 R1.1.peer) rfl; have e2 := q9.cell 2 (v := .int .i64 R1.1.phase) rfl; clear q9; go_simp; exact hKv)
      intro Kd hKd
      go_simp
      refine hKd _ ?_
      clear hKd Kd
      apply anyI_step 17 rfl (by kernel_rfl)
      focus (intro wI hI Kv hKv; have q9 := HM3.out.k.below hI l3; have e1 := q9.cell 1 (v := .int .i64 R1.1.peer) rfl; have e2 := q9.cell 2 (v := .int .i64 R1.1.phase) rfl; clear q9; go_simp; exact hKv)
      intro Kd hKd
      go_simp
      refine hKd _ ?_
      clear hKd Kd
      apply anyI_step 18 rfl (by kernel_rfl)
      focus (intro wI hI Kv hKv; have q9 := HM3.out.k.below hI l3; have e1 := q9.cell 1 (v := .int .i64 R1.1.peer) rfl; have e2 := q9.cell 2 (v := .int .i64 R1.1.phase) rfl; clear q9; go_simp; exact hKv)
      intro Kd hKd
      go_simp
      refine hKd _ ?_
      clear hKd Kd
      apply anyI_step 19 rfl (by kernel_rfl)
      focus (intro wI hI Kv hKv; have q9 := HM3.out.k.below hI l3; have e1 := q9.cell 1 (v := .int .i64 R1.1.peer) rfl; have e2 := q9.cell 2 (v := .int .i64 R1.1.phase) rfl; clear q9; go_simp; exact hKv)
      intro Kd hKd
      go_simp
      refine hKd _ ?_
      clear hKd Kd
      apply anyI_step 20 rfl (by kernel_rfl)
      focus (intro wI hI Kv hKv; have q9 := HM3.out.k.below hI l3; have e1 := q9.cell 1 (v := .int .i64 R1.1.peer) rfl; have e2 := q9.cell 2 (v := .int .i64 R1.1.phase) rfl; clear q9; go_simp; exact hKv)
      intro Kd hKd
      go_simp
      refine hKd _ ?_
      clear hKd Kd
      apply anyI_step 21 rfl (by kernel_rfl)
      focus (intro wI hI Kv hKv; have q9 := HM3.out.k.below hI l3; have e1 := q9.cell 1 (v := .int .i64 R1.1.peer) rfl; have e2 := q9.cell 2 (v := .int .i64 R1.1.phase) rfl; clear q9; go_simp; exact hKv)
      intro Kd hKd
      go_simp
      refine hKd _ ?_
      clear hKd Kd
      apply anyI_step 22 rfl (by kernel_rfl)
      focus (intro wI hI Kv hKv; have q9 := HM3.out.k.below hI l3; have e1 := q9.cell 1 (v := .int .i64 R1.1.peer) rfl; have e2 := q9.cell 2 (v := .int .i64 R1.1.phase) rfl; clear q9; go_simp; exact hKv)
      intro Kd hKd
      go_simp
      refine hKd _ ?_
      clear hKd Kd
      apply anyI_step 23 rfl (by kernel_rfl)
      focus (intro wI hI Kv hKv; have q9 := HM3.out.k.below hI l3; have e1 := q9.cell 1 (v := .int .i64 R1.1.peer) rfl; have e2 := q9.cell 2 (v := .int .i64 R1.1.phase) rfl; clear q9; go_simp; exact hKv)
      intro Kd hKd
      go_simp
      refine hKd _ ?_
      clear hKd Kd
      apply anyI_step 24 rfl (by kernel_rfl)
      focus (intro wI hI Kv hKv; have q9 := HM3.out.k.below hI l3; have e1 := q9.cell 1 (v := .int .i64 R1.1.peer) rfl; have e2 := q9.cell 2 (v := .int .i64 R1.1.phase) rfl; clear q9; go_simp; exact hKv)
      intro Kd hKd
      go_simp
      refine hKd _ ?_
      clear hKd Kd
      apply anyI_step 25 rfl (by kernel_rfl)
      focus (intro wI hI Kv hKv; have q9 := HM3.out.k.below hI l3; have e1 := q9.cell 1 (v := .int .i64 R1.1.peer) rfl; have e2 := q9.cell 2 (v := .int .i64 R1.1.phase) rfl; clear q9; go_simp; exact hKv)
      intro Kd hKd
      go_simp
      refine hKd _ ?_
      clear hKd Kd
      apply anyI_step 26 rfl (by kernel_rfl)
      focus (intro wI hI Kv hKv; have q9 := HM3.out.k.below hI l3; have e1 := q9.cell 1 (v := .int .i64 R1.1.peer) rfl; have e2 := q9.cell 2 (v := .int .i64 R1.1.phase) rfl; clear q9; go_simp; exact hKv)
      intro Kd hKd
      go_simp
      refine hKd _ ?_
      clear hKd Kd
      apply anyI_step 27 rfl (by kernel_rfl)
      focus (intro wI hI Kv hKv; have q9 := HM3.out.k.below hI l3; have e1 := q9.cell 1 (v := .int .i64 R1.1.peer) rfl; have e2 := q9.cell 2 (v := .int .i64 R1.1.phase) rfl; clear q9; go_simp; exact hKv)
      intro Kd hKd
      go_simp
      refine hKd _ ?_
      clear hKd Kd
      refine anyI_end (by kernel_rfl) (HB2.out) (hQd _ _ ?_)
      clear hQd Qd
      go_wp2_with fail
      go_meet
      exact ⟨rfl, HB2.out⟩
    case rest =>
      obtain ⟨rfl, hbx⟩ := hcut
      obtain ⟨V, rfl⟩ : ∃ V, V = wc := ⟨wc, rfl⟩
      have HG7 := Lib.hid (HG7.out.below hbx l7)
      have HBc : Hid (Below w.heap.size w V) := below_in HBc.out hbx
      have HM1 := Lib.hid (HM1.out.below hbx)
      have HM3 := Lib.hid (HM3.out.below hbx)
      clear hbx l3 l7 p1 p2 HGP
      go_upto_region 10 with fail
      go_cut [2] from 12 (fun v2 wx => ∃ A c D d P cp T ct L cl, v2 = .int .i64 0 ∧ Tj wx R2 b1 b7 A c D d P cp T ct L cl ∧ Eb wx b3 R1.1 A3 c3 D3 d3 ∧ Below w.heap.size w wx)
      case first => as_aux_lemma =>
        have HR := Lib.hid (Rg.start V)
        have H5W := H1W
        have H53 := H31
        refine draw (fun _ => True) 10 rfl (by kernel_rfl) (fun Qd hQd => ?_)
        refine anyI_two' 0 1 rfl rfl (by kernel_rfl) ((by trivial)) (fun Kd hKd => ?_) (fun Kd hKd => ?_)
        · skip
          have q9 := HM1.out.k.below HR.out.below HM1.out.k.lt
          try unfold Z47 at q9
          try unfold Z26 at q9
          have a0 := q9.cell 0 (v := .int .i64 S1.1.life) rfl
          have a1 := q9.cell 1 (v := .int .i64 S1.1.peer) rfl
          have a2 := q9.cell 2 (v := .int .i64 S1.1.phase) rfl
          have a3 := q9.cell 3 (v := .int .i64 S1.1.base) rfl
          have a4 := q9.cell 4 (v := .slice A1 S1.1.out.length c1) rfl
          have a5 := q9.cell 5 (v := .int .i64 S1.1.want) rfl
          have a6 := q9.cell 6 (v := .slice D1 S1.1.inn.length d1) rfl
          have al := q9.lt
          clear q9
          have q9 := HM1.out.k
          have v0 := q9.cell 0 (v := .int .i64 S1.1.life) rfl
          have v1 := q9.cell 1 (v := .int .i64 S1.1.peer) rfl
          have v2 := q9.cell 2 (v := .int .i64 S1.1.phase) rfl
          have v3 := q9.cell 3 (v := .int .i64 S1.1.base) rfl
          have v4 := q9.cell 4 (v := .slice A1 S1.1.out.length c1) rfl
          have v5 := q9.cell 5 (v := .int .i64 S1.1.want) rfl
          have v6 := q9.cell 6 (v := .slice D1 S1.1.inn.length d1) rfl
          have vl := q9.lt
          clear q9
          go_wp2
          clear a0 a1 a2 a3 a4 a5 a6 al v0 v1 v2 v3 v4 v5 v6 vl
          refine anyI_one' 1 rfl (by kernel_rfl) ((by trivial)) (fun Kd hKd => ?_)
          go_wp2_with (go_at_call 31; go_must (refine (hello31_any 5 1 _).mono ?_); rintro r u1 ⟨rfl, hB1⟩)
          have HR := Lib.hid (HR.out.call hB1)
          clear hB1
          refine anyI_one' 2 rfl (by kernel_rfl) ((by trivial)) (fun Kd hKd => ?_)
          go_wp2_with (go_at_call 20; go_must (refine (take_any S1.1 A1 c1 D1 d1 kP2 _ (HM1.out.en.at_.below HR.out.below) HM1.out.en.nl (by decide)).mono ?_); rintro r ut ⟨A', c', D', d', P', cp', T', ct', L', cl', rfl, hpost⟩)
          rw [HR2.out] at hpost ⊢
          obtain ⟨hto, hbt⟩ := to_of' hpost
          have HTO := Lib.hid hto
          have HT := Lib.hid (Rt.start HR.out hbt)
          have HS0 := Lib.hid HR.out.below.size
          clear hpost hto hbt
          apply anyI_step 3 rfl (by kernel_rfl)
          focus (intro wI hI Kv hKv; go_simp; exact hKv)
          intro Kd hKd
          go_simp
          refine hKd _ ?_
          clear hKd Kd
          apply anyI_step 4 rfl (by kernel_rfl)
          focus (intro wI hI Kv hKv; go_simp; exact hKv)
          intro Kd hKd
          go_simp
          refine hKd _ ?_
          clear hKd Kd
          apply anyI_step 5 rfl (by kernel_rfl)
          focus (intro wI hI Kv hKv; go_simp; exact hKv)
          intro Kd hKd
          go_simp
          refine hKd _ ?_
          clear hKd Kd
          apply anyI_step 6 rfl (by kernel_rfl)
          focus (intro wI hI Kv hKv; go_simp; exact hKv)
          intro Kd hKd
          go_simp
          refine hKd _ ?_
          clear hKd Kd
          have HK5 := Lib.hid (HM1.out.k.below HT.out.rg.below HM1.out.k.lt)
          have HK6 := Lib.hid (HG7.out.below HT.out.rg.below HG7.out.lt)
          have HF := Lib.hid (known_end d' cp' HBc.out HT.out.rg.below HT.out.ut HK5.out HK6.out (.inl (by have := HS0.out; have := HM1.out.k.lt; omega)) (.inl (by have := HS0.out; have := HG7.out.lt; omega)) H5W.out H7W.out HTO.out)
          refine anyI_one' 7 rfl (by kernel_rfl) ((by trivial)) (fun Kd hKd => ?_)
          refine wpList_store26 rfl _ _ rfl HK5.out rfl rfl ?_
          refine ⟨rfl, hKd _ _ ?_⟩
          clear hKd Kd
          refine anyI_one' 8 rfl (by kernel_rfl) ((by trivial)) (fun Kd hKd => ?_)
          refine wpList_store47 rfl _ _ rfl HF.out.h6 rfl rfl ?_
          refine ⟨rfl, hKd _ _ ?_⟩
          clear hKd Kd
          apply anyI_step 9 rfl (by kernel_rfl)
          focus (intro wI hI Kv hKv; go_simp; exact hKv)
          intro Kd hKd
          go_simp
          refine hKd _ ?_
          clear hKd Kd
          refine anyI_end (by kernel_rfl) (trivial) (hQd _ _ ?_)
          clear hQd Qd
          go_wp2_with fail
          go_meet
          exact ⟨A', c', D', d', P', cp', T', ct', L', cl', congrArg (Value.int .i64) K3.out.1, HF.out.tj, HF.out.oth HM3.out H53.out, HF.out.below⟩
        · skip
          go_wp2_with (go_at_call 31; go_must (refine (hello31_any 5 1 _).mono ?_); rintro r u1 ⟨rfl, hB1⟩)
          have HR := Lib.hid (HR.out.call hB1)
          clear hB1
          refine anyI_one' 0 rfl (by kernel_rfl) ((by trivial)) (fun Kd hKd => ?_)
          have q9 := HM1.out.k.below HR.out.below HM1.out.k.lt
          try unfold Z47 at q9
          try unfold Z26 at q9
          have a0 := q9.cell 0 (v := .int .i64 S1.1.life) rfl
          have a1 := q9.cell 1 (v := .int .i64 S1.1.peer) rfl
          have a2 := q9.cell 2 (v := .int .i64 S1.1.phase) rfl
          have a3 := q9.cell 3 (v := .int .i64 S1.1.base) rfl
          have a4 := q9.cell 4 (v := .slice A1 S1.1.out.length c1) rfl
          have a5 := q9.cell 5 (v := .int .i64 S1.1.want) rfl
          have a6 := q9.cell 6 (v := .slice D1 S1.1.inn.length d1) rfl
          have al := q9.lt
          clear q9
          have q9 := HM1.out.k
          have v0 := q9.cell 0 (v := .int .i64 S1.1.life) rfl
          have v1 := q9.cell 1 (v := .int .i64 S1.1.peer) rfl
          have v2 := q9.cell 2 (v := .int .i64 S1.1.phase) rfl
          have v3 := q9.cell 3 (v := .int .i64 S1.1.base) rfl
          have v4 := q9.cell 4 (v := .slice A1 S1.1.out.length c1) rfl
          have v5 := q9.cell 5 (v := .int .i64 S1.1.want) rfl
          have v6 := q9.cell 6 (v := .slice D1 S1.1.inn.length d1) rfl
          have vl := q9.lt
          clear q9
          go_wp2
          clear a0 a1 a2 a3 a4 a5 a6 al v0 v1 v2 v3 v4 v5 v6 vl
          refine anyI_one' 2 rfl (by kernel_rfl) ((by trivial)) (fun Kd hKd => ?_)
          go_wp2_with (go_at_call 20; go_must (refine (take_any S1.1 A1 c1 D1 d1 kP2 _ (HM1.out.en.at_.below HR.out.below) HM1.out.en.nl (by decide)).mono ?_); rintro r ut ⟨A', c', D', d', P', cp', T', ct', L', cl', rfl, hpost⟩)
          rw [HR2.out] at hpost ⊢
          obtain ⟨hto, hbt⟩ := to_of' hpost
          have HTO := Lib.hid hto
          have HT := Lib.hid (Rt.start HR.out hbt)
          have HS0 := Lib.hid HR.out.below.size
          clear hpost hto hbt
          apply anyI_step 3 rfl (by kernel_rfl)
          focus (intro wI hI Kv hKv; go_simp; exact hKv)
          intro Kd hKd
          go_simp
          refine hKd _ ?_
          clear hKd Kd
          apply anyI_step 4 rfl (by kernel_rfl)
          focus (intro wI hI Kv hKv; go_simp; exact hKv)
          intro Kd hKd
          go_simp
          refine hKd _ ?_
          clear hKd Kd
          apply anyI_step 5 rfl (by kernel_rfl)
          focus (intro wI hI Kv hKv; go_simp; exact hKv)
          intro Kd hKd
          go_simp
          refine hKd _ ?_
          clear hKd Kd
          apply anyI_step 6 rfl (by kernel_rfl)
          focus (intro wI hI Kv hKv; go_simp; exact hKv)
          intro Kd hKd
          go_simp
          refine hKd _ ?_
          clear hKd Kd
          have HK5 := Lib.hid (HM1.out.k.below HT.out.rg.below HM1.out.k.lt)
          have HK6 := Lib.hid (HG7.out.below HT.out.rg.below HG7.out.lt)
          have HF := Lib.hid (known_end d' cp' HBc.out HT.out.rg.below HT.out.ut HK5.out HK6.out (.inl (by have := HS0.out; have := HM1.out.k.lt; omega)) (.inl (by have := HS0.out; have := HG7.out.lt; omega)) H5W.out H7W.out HTO.out)
          refine anyI_one' 7 rfl (by kernel_rfl) ((by trivial)) (fun Kd hKd => ?_)
          refine wpList_store26 rfl _ _ rfl HK5.out rfl rfl ?_
          refine ⟨rfl, hKd _ _ ?_⟩
          clear hKd Kd
          refine anyI_one' 8 rfl (by kernel_rfl) ((by trivial)) (fun Kd hKd => ?_)
          refine wpList_store47 rfl _ _ rfl HF.out.h6 rfl rfl ?_
          refine ⟨rfl, hKd _ _ ?_⟩
          clear hKd Kd
          apply anyI_step 9 rfl (by kernel_rfl)
          focus (intro wI hI Kv hKv; go_simp; exact hKv)
          intro Kd hKd
          go_simp
          refine hKd _ ?_
          clear hKd Kd
          refine anyI_end (by kernel_rfl) (trivial) (hQd _ _ ?_)
          clear hQd Qd
          go_wp2_with fail
          go_meet
          exact ⟨A', c', D', d', P', cp', T', ct', L', cl', congrArg (Value.int .i64) K3.out.1, HF.out.tj, HF.out.oth HM3.out H53.out, HF.out.below⟩
      case rest =>
        obtain ⟨A2, c2, D2, d2, P2, cp2, T2, ct2, L2, cl2, rfl, htj, heb, hbx⟩ := hcut
        obtain ⟨Y, rfl⟩ : ∃ Y, Y = wc := ⟨wc, rfl⟩
        have HG7' := Lib.hid htj.k6
        have HGP := Lib.hid htj.gn.p
        have HM1 : Hid (Eb Y b1 R2.1 A2 c2 D2 d2) := ⟨htj.k5, htj.en⟩
        have HM3 := Lib.hid heb
        have HBc : Hid (Below w.heap.size w Y) := hbx
        clear HG7 htj heb hbx
        have HG7 := HG7'
        clear HG7'
        have l1 := HM1.out.k.lt
        have l7 := HG7.out.lt
        have p2 : R2.1.phase = 3 := K3.out.2.1
        go_upto_region 11 with fail
        go_cut [104] from 12 (fun v wx => v = .bool false ∧ Below Y.heap.size Y wx)
        case first => as_aux_lemma =>
          have hd1 : pkV ⟨2, 1, 5, 0, ⟨#[120]⟩, 0, 0⟩ = .agg #[.int .i64 2, .int .i64 1, .int .i64 5, .int .i64 0, .string ⟨#[120]⟩, .int .i64 0, .int .i64 0] := rfl
          have hd2 : pkV ⟨3, 1, 5, 0, ⟨#[]⟩, 0, 0⟩ = .agg #[.int .i64 3, .int .i64 1, .int .i64 5, .int .i64 0, .string ⟨#[]⟩, .int .i64 0, .int .i64 0] := rfl
          refine draw (fun w' => Below Y.heap.size Y w') 16 rfl (by kernel_rfl) (fun Qd hQd => ?_)
          apply anyI_step 0 rfl (by kernel_rfl)
          focus (intro wI hI Kv hKv; have q9 := HG7.out.below hI l7; have c0 := q9.cell 0 (v := .slice P2 R2.2.1.packets.length cp2) rfl; have q8 := HM1.out.k.below hI l1; have e2 := q8.cell 2 (v := .int .i64 R2.1.phase) rfl; clear q9 q8; go_simp; exact hKv)
          intro Kd hKd
          go_simp
          refine hKd _ ?_
          clear hKd Kd
          apply anyI_step 1 rfl (by kernel_rfl)
          focus (intro wI hI Kv hKv; have q9 := HG7.out.below hI l7; have c0 := q9.cell 0 (v := .slice P2 R2.2.1.packets.length cp2) rfl; have q8 := HM1.out.k.below hI l1; have e2 := q8.cell 2 (v := .int .i64 R2.1.phase) rfl; clear q9 q8; go_simp; exact hKv)
          intro Kd hKd
          go_simp
          refine hKd _ ?_
          clear hKd Kd
          apply anyI_step 2 rfl (by kernel_rfl)
          focus (intro wI hI Kv hKv; have q9 := HG7.out.below hI l7; have c0 := q9.cell 0 (v := .slice P2 R2.2.1.packets.length cp2) rfl; have q8 := HM1.out.k.below hI l1; have e2 := q8.cell 2 (v := .int .i64 R2.1.phase) rfl; clear q9 q8; go_simp; exact hKv)
          intro Kd hKd
          go_simp
          refine hKd _ ?_
          clear hKd Kd
          apply anyI_step 3 rfl (by kernel_rfl)
          focus (intro wI hI Kv hKv; have q9 := HG7.out.below hI l7; have c0 := q9.cell 0 (v := .slice P2 R2.2.1.packets.length cp2) rfl; have q8 := HM1.out.k.below hI l1; have e2 := q8.cell 2 (v := .int .i64 R2.1.phase) rfl; clear q9 q8; go_simp; exact hKv)
          intro Kd hKd
          go_simp
          refine hKd _ ?_
          clear hKd Kd
          apply anyI_step 4 rfl (by kernel_rfl)
          focus (intro wI hI Kv hKv; have q9 := HG7.out.below hI l7; have c0 := q9.cell 0 (v := .slice P2 R2.2.1.packets.length cp2) rfl; have q8 := HM1.out.k.below hI l1; have e2 := q8.cell 2 (v := .int .i64 R2.1.phase) rfl; clear q9 q8; go_simp; exact hKv)
          intro Kd hKd
          go_simp
          refine hKd _ ?_
          clear hKd Kd
          apply anyI_step 5 rfl (by kernel_rfl)
          focus (intro wI hI Kv hKv; have q9 := HG7.out.below hI l7; have c0 := q9.cell 0 (v := .slice P2 R2.2.1.packets.length cp2) rfl; have q8 := HM1.out.k.below hI l1; have e2 := q8.cell 2 (v := .int .i64 R2.1.phase) rfl; clear q9 q8; go_simp; exact hKv)
          intro Kd hKd
          go_simp
          refine hKd _ ?_
          clear hKd Kd
          apply anyI_step 6 rfl (by kernel_rfl)
          focus (intro wI hI Kv hKv; have q9 := HG7.out.below hI l7; have c0 := q9.cell 0 (v := .slice P2 R2.2.1.packets.length cp2) rfl; have q8 := HM1.out.k.below hI l1; have e2 := q8.cell 2 (v := .int .i64 R2.1.phase) rfl; clear q9 q8; go_simp; exact hKv)
          intro Kd hKd
          go_simp
          refine hKd _ ?_
          clear hKd Kd
          apply anyI_step 7 rfl (by kernel_rfl)
          focus (intro wI hI Kv hKv; have q9 := HG7.out.below hI l7; have c0 := q9.cell 0 (v := .slice P2 R2.2.1.packets.length cp2) rfl; have q8 := HM1.out.k.below hI l1; have e2 := q8.cell 2 (v := .int .i64 R2.1.phase) rfl; clear q9 q8; go_simp; exact hKv)
          intro Kd hKd
          go_simp
          refine hKd _ ?_
          clear hKd Kd
          apply anyI_step 8 rfl (by kernel_rfl)
          focus (intro wI hI Kv hKv; have q9 := HG7.out.below hI l7; have c0 := q9.cell 0 (v := .slice P2 R2.2.1.packets.length cp2) rfl; have q8 := HM1.out.k.below hI l1; have e2 := q8.cell 2 (v := .int .i64 R2.1.phase) rfl; clear q9 q8; go_simp; exact hKv)
          intro Kd hKd
          go_simp
          refine hKd _ ?_
          clear hKd Kd
          apply anyI_step 9 rfl (by kernel_rfl)
          focus (intro wI hI Kv hKv; have q9 := HG7.out.below hI l7; have c0 := q9.cell 0 (v := .slice P2 R2.2.1.packets.length cp2) rfl; have q8 := HM1.out.k.below hI l1; have e2 := q8.cell 2 (v := .int .i64 R2.1.phase) rfl; clear q9 q8; go_simp; exact hKv)
          intro Kd hKd
          go_simp
          refine hKd _ ?_
          clear hKd Kd
          refine anyI_one' 10 rfl (by kernel_rfl) ((Below.refl _ Y).drew) (fun Kd hKd => ?_)
          go_wp2_with (go_at_call 33; go_must (refine (data33_any 1 5 0 ⟨#[120]⟩ 0 0 _).mono ?_); rintro r u1 ⟨rfl, hB1⟩; rw [hd1])
          have HB1 : Hid (Below Y.heap.size Y u1) := below_in (Below.refl _ Y).drew hB1
          clear hB1
          refine anyI_one' 11 rfl (by kernel_rfl) (HB1.out) (fun Kd hKd => ?_)
          go_wp2_with (go_at_call 34; go_must (refine (ack34_any 1 5 0 0 u1).mono ?_); rintro r u2 ⟨rfl, hB2⟩; rw [hd2])
          have HB2 : Hid (Below Y.heap.size Y u2) := below_in HB1.out hB2
          clear hB2
          refine anyI_one' 12 rfl (by kernel_rfl) (HB2.out) (fun Kd hKd => ?_)
          clear hd1 hd2
          refine wpList_build2 rfl rfl rfl rfl (build2 u2) ?_
          refine ⟨rfl, hKd _ _ ?_⟩
          clear hKd Kd
          obtain ⟨w7, hw7⟩ : ∃ w7, u2.alloc (.cells #[.int .i64 2, .int .i64 1, .int .i64 5, .int .i64 0, .string ⟨#[120]⟩, .int .i64 0, .int .i64 0, .int .i64 3, .int .i64 1, .int .i64 5, .int .i64 0, .string ⟨#[]⟩, .int .i64 0, .int .i64 0] 44) = w7 := ⟨_, rfl⟩
          have HB7 : Hid (Below Y.heap.size Y w7) := by rw [← hw7]; exact HB2.out.alloc HB2.out.size _
          have HK7 : Hid (Blk w7 u2.heap.size (.cells #[.int .i64 2, .int .i64 1, .int .i64 5, .int .i64 0, .string ⟨#[120]⟩, .int .i64 0, .int .i64 0, .int .i64 3, .int .i64 1, .int .i64 5, .int .i64 0, .string ⟨#[]⟩, .int .i64 0, .int .i64 0] 44)) := by rw [← hw7]; exact Blk.new _ _
          have HC7 : Hid (Cells w7 (some ⟨u2.heap.size, 0, none⟩) (pks [⟨2, 1, 5, 0, tX, 0, 0⟩, ⟨3, 1, 5, 0, ⟨#[]⟩, 0, 0⟩])) := cells_blk HK7.out (by show 14 ≤ _; omega)
          rw [hw7]
          clear hw7
          refine anyI_one' 13 rfl (by kernel_rfl) (HB7.out) (fun Kd hKd => ?_)
          go_wp2_with (go_at_call 32; go_must (refine (eq_packets P2 cp2 R2.2.1.packets (some ⟨u2.heap.size, 0, none⟩) 2 [⟨2, 1, 5, 0, tX, 0, 0⟩, ⟨3, 1, 5, 0, ⟨#[]⟩, 0, 0⟩] w7 (HGP.out.below HB7.out (Nat.le_refl _)) HC7.out).mono ?_); rintro r u3 ⟨rfl, hB3⟩; rw [K3.out.2.2, decide_eq_true rfl])
          have HB3 : Hid (Below Y.heap.size Y u3) := below_in HB7.out hB3
          clear hB3
          apply anyI_step 14 rfl (by kernel_rfl)
          focus (intro wI hI Kv hKv; go_simp; exact hKv)
          intro Kd hKd
          go_simp
          refine hKd _ ?_
          clear hKd Kd
          apply anyI_step 15 rfl (by kernel_rfl)
          focus (intro wI hI Kv hKv; go_simp; exact hKv)
          intro Kd hKd
          go_simp
          refine hKd _ ?_
          clear hKd Kd
          refine anyI_end (by kernel_rfl) (HB3.out) (hQd _ _ ?_)
          clear hQd Qd
          go_wp2_with fail
          go_meet
          exact ⟨rfl, HB3.out⟩
        case rest =>
          obtain ⟨rfl, hbx⟩ := hcut
          obtain ⟨V, rfl⟩ : ∃ V, V = wc := ⟨wc, rfl⟩
          have HG7 := Lib.hid (HG7.out.below hbx l7)
          have HBc : Hid (Below w.heap.size w V) := below_in HBc.out hbx
          have HM1 := Lib.hid (HM1.out.below hbx)
          have HM3 := Lib.hid (HM3.out.below hbx)
          clear hbx l1 l7 p2 HGP
          go_upto_region 13 with fail
          go_cut [2] from 12 (fun v2 wx => ∃ A c D d P cp T ct L cl, v2 = .int .i64 0 ∧ Tj wx R3 b3 b7 A c D d P cp T ct L cl ∧ Eb wx b1 R2.1 A2 c2 D2 d2 ∧ Below w.heap.size w wx)
          case first => as_aux_lemma =>
            have HR := Lib.hid (Rg.start V)
            have H5W := H3W
            have H53 := H13
            refine draw (fun _ => True) 10 rfl (by kernel_rfl) (fun Qd hQd => ?_)
            refine anyI_two' 0 1 rfl rfl (by kernel_rfl) ((by trivial)) (fun Kd hKd => ?_) (fun Kd hKd => ?_)
            · skip
              have q9 := HM3.out.k.below HR.out.below HM3.out.k.lt
              try unfold Z47 at q9
              try unfold Z26 at q9
              have a0 := q9.cell 0 (v := .int .i64 R1.1.life) rfl
              have a1 := q9.cell 1 (v := .int .i64 R1.1.peer) rfl
              have a2 := q9.cell 2 (v := .int .i64 R1.1.phase) rfl
              have a3 := q9.cell 3 (v := .int .i64 R1.1.base) rfl
              have a4 := q9.cell 4 (v := .slice A3 R1.1.out.length c3) rfl
              have a5 := q9.cell 5 (v := .int .i64 R1.1.want) rfl
              have a6 := q9.cell 6 (v := .slice D3 R1.1.inn.length d3) rfl
              have al := q9.lt
              clear q9
              have q9 := HM3.out.k
              have v0 := q9.cell 0 (v := .int .i64 R1.1.life) rfl
              have v1 := q9.cell 1 (v := .int .i64 R1.1.peer) rfl
              have v2 := q9.cell 2 (v := .int .i64 R1.1.phase) rfl
              have v3 := q9.cell 3 (v := .int .i64 R1.1.base) rfl
              have v4 := q9.cell 4 (v := .slice A3 R1.1.out.length c3) rfl
              have v5 := q9.cell 5 (v := .int .i64 R1.1.want) rfl
              have v6 := q9.cell 6 (v := .slice D3 R1.1.inn.length d3) rfl
              have vl := q9.lt
              clear q9
              go_wp2
              clear a0 a1 a2 a3 a4 a5 a6 al v0 v1 v2 v3 v4 v5 v6 vl
              refine anyI_one' 1 rfl (by kernel_rfl) ((by trivial)) (fun Kd hKd => ?_)
              go_wp2_with (go_at_call 33; go_must (refine (data33_any 1 5 0 tX 0 0 _).mono ?_); rintro r u1 ⟨rfl, hB1⟩)
              have HR := Lib.hid (HR.out.call hB1)
              clear hB1
              refine anyI_one' 2 rfl (by kernel_rfl) ((by trivial)) (fun Kd hKd => ?_)
              go_wp2_with (go_at_call 20; go_must (refine (take_any R1.1 A3 c3 D3 d3 kP3 _ (HM3.out.en.at_.below HR.out.below) HM3.out.en.nl (by decide)).mono ?_); rintro r ut ⟨A', c', D', d', P', cp', T', ct', L', cl', rfl, hpost⟩)
              rw [HR3.out] at hpost ⊢
              obtain ⟨hto, hbt⟩ := to_of' hpost
              have HTO := Lib.hid hto
              have HT := Lib.hid (Rt.start HR.out hbt)
              have HS0 := Lib.hid HR.out.below.size
              clear hpost hto hbt
              apply anyI_step 3 rfl (by kernel_rfl)
              focus (intro wI hI Kv hKv; go_simp; exact hKv)
              intro Kd hKd
              go_simp
              refine hKd _ ?_
              clear hKd Kd
              apply anyI_step 4 rfl (by kernel_rfl)
              focus (intro wI hI Kv hKv; go_simp; exact hKv)
              intro Kd hKd
              go_simp
              refine hKd _ ?_
              clear hKd Kd
              apply anyI_step 5 rfl (by kernel_rfl)
              focus (intro wI hI Kv hKv; go_simp; exact hKv)
              intro Kd hKd
              go_simp
              refine hKd _ ?_
              clear hKd Kd
              apply anyI_step 6 rfl (by kernel_rfl)
              focus (intro wI hI Kv hKv; go_simp; exact hKv)
              intro Kd hKd
              go_simp
              refine hKd _ ?_
              clear hKd Kd
              have HK5 := Lib.hid (HM3.out.k.below HT.out.rg.below HM3.out.k.lt)
              have HK6 := Lib.hid (HG7.out.below HT.out.rg.below HG7.out.lt)
              have HF := Lib.hid (known_end d' cp' HBc.out HT.out.rg.below HT.out.ut HK5.out HK6.out (.inl (by have := HS0.out; have := HM3.out.k.lt; omega)) (.inl (by have := HS0.out; have := HG7.out.lt; omega)) H5W.out H7W.out HTO.out)
              refine anyI_one' 7 rfl (by kernel_rfl) ((by trivial)) (fun Kd hKd => ?_)
              refine wpList_store26 rfl _ _ rfl HK5.out rfl rfl ?_
              refine ⟨rfl, hKd _ _ ?_⟩
              clear hKd Kd
              refine anyI_one' 8 rfl (by kernel_rfl) ((by trivial)) (fun Kd hKd => ?_)
              refine wpList_store47 rfl _ _ rfl HF.out.h6 rfl rfl ?_
              refine ⟨rfl, hKd _ _ ?_⟩
              clear hKd Kd
              apply anyI_step 9 rfl (by kernel_rfl)
              focus (intro wI hI Kv hKv; go_simp; exact hKv)
              intro Kd hKd
              go_simp
              refine hKd _ ?_
              clear hKd Kd
              refine anyI_end (by kernel_rfl) (trivial) (hQd _ _ ?_)
              clear hQd Qd
              go_wp2_with fail
              go_meet
              exact ⟨A', c', D', d', P', cp', T', ct', L', cl', congrArg (Value.int .i64) K4.out.1, HF.out.tj, HF.out.oth HM1.out H53.out, HF.out.below⟩
            · skip
              go_wp2_with (go_at_call 33; go_must (refine (data33_any 1 5 0 tX 0 0 _).mono ?_); rintro r u1 ⟨rfl, hB1⟩)
              have HR := Lib.hid (HR.out.call hB1)
              clear hB1
              refine anyI_one' 0 rfl (by kernel_rfl) ((by trivial)) (fun Kd hKd => ?_)
              have q9 := HM3.out.k.below HR.out.below HM3.out.k.lt
              try unfold Z47 at q9
              try unfold Z26 at q9
              have a0 := q9.cell 0 (v := .int .i64 R1.1.life) rfl
              have a1 := q9.cell 1 (v := .int .i64 R1.1.peer) rfl
              have a2 := q9.cell 2 (v := .int .i64 R1.1.phase) rfl
              have a3 := q9.cell 3 (v := .int .i64 R1.1.base) rfl
              have a4 := q9.cell 4 (v := .slice A3 R1.1.out.length c3) rfl
              have a5 := q9.cell 5 (v := .int .i64 R1.1.want) rfl
              have a6 := q9.cell 6 (v := .slice D3 R1.1.inn.length d3) rfl
              have al := q9.lt
              clear q9
              have q9 := HM3.out.k
              have v0 := q9.cell 0 (v := .int .i64 R1.1.life) rfl
              have v1 := q9.cell 1 (v := .int .i64 R1.1.peer) rfl
              have v2 := q9.cell 2 (v := .int .i64 R1.1.phase) rfl
              have v3 := q9.cell 3 (v := .int .i64 R1.1.base) rfl
              have v4 := q9.cell 4 (v := .slice A3 R1.1.out.length c3) rfl
              have v5 := q9.cell 5 (v := .int .i64 R1.1.want) rfl
              have v6 := q9.cell 6 (v := .slice D3 R1.1.inn.length d3) rfl
              have vl := q9.lt
              clear q9
              go_wp2
              clear a0 a1 a2 a3 a4 a5 a6 al v0 v1 v2 v3 v4 v5 v6 vl
              refine anyI_one' 2 rfl (by kernel_rfl) ((by trivial)) (fun Kd hKd => ?_)
              go_wp2_with (go_at_call 20; go_must (refine (take_any R1.1 A3 c3 D3 d3 kP3 _ (HM3.out.en.at_.below HR.out.below) HM3.out.en.nl (by decide)).mono ?_); rintro r ut ⟨A', c', D', d', P', cp', T', ct', L', cl', rfl, hpost⟩)
              rw [HR3.out] at hpost ⊢
              obtain ⟨hto, hbt⟩ := to_of' hpost
              have HTO := Lib.hid hto
              have HT := Lib.hid (Rt.start HR.out hbt)
              have HS0 := Lib.hid HR.out.below.size
              clear hpost hto hbt
              apply anyI_step 3 rfl (by kernel_rfl)
              focus (intro wI hI Kv hKv; go_simp; exact hKv)
              intro Kd hKd
              go_simp
              refine hKd _ ?_
              clear hKd Kd
              apply anyI_step 4 rfl (by kernel_rfl)
              focus (intro wI hI Kv hKv; go_simp; exact hKv)
              intro Kd hKd
              go_simp
              refine hKd _ ?_
              clear hKd Kd
              apply anyI_step 5 rfl (by kernel_rfl)
              focus (intro wI hI Kv hKv; go_simp; exact hKv)
              intro Kd hKd
              go_simp
              refine hKd _ ?_
              clear hKd Kd
              apply anyI_step 6 rfl (by kernel_rfl)
              focus (intro wI hI Kv hKv; go_simp; exact hKv)
              intro Kd hKd
              go_simp
              refine hKd _ ?_
              clear hKd Kd
              have HK5 := Lib.hid (HM3.out.k.below HT.out.rg.below HM3.out.k.lt)
              have HK6 := Lib.hid (HG7.out.below HT.out.rg.below HG7.out.lt)
              have HF := Lib.hid (known_end d' cp' HBc.out HT.out.rg.below HT.out.ut HK5.out HK6.out (.inl (by have := HS0.out; have := HM3.out.k.lt; omega)) (.inl (by have := HS0.out; have := HG7.out.lt; omega)) H5W.out H7W.out HTO.out)
              refine anyI_one' 7 rfl (by kernel_rfl) ((by trivial)) (fun Kd hKd => ?_)
              refine wpList_store26 rfl _ _ rfl HK5.out rfl rfl ?_
              refine ⟨rfl, hKd _ _ ?_⟩
              clear hKd Kd
              refine anyI_one' 8 rfl (by kernel_rfl) ((by trivial)) (fun Kd hKd => ?_)
              refine wpList_store47 rfl _ _ rfl HF.out.h6 rfl rfl ?_
              refine ⟨rfl, hKd _ _ ?_⟩
              clear hKd Kd
              apply anyI_step 9 rfl (by kernel_rfl)
              focus (intro wI hI Kv hKv; go_simp; exact hKv)
              intro Kd hKd
              go_simp
              refine hKd _ ?_
              clear hKd Kd
              refine anyI_end (by kernel_rfl) (trivial) (hQd _ _ ?_)
              clear hQd Qd
              go_wp2_with fail
              go_meet
              exact ⟨A', c', D', d', P', cp', T', ct', L', cl', congrArg (Value.int .i64) K4.out.1, HF.out.tj, HF.out.oth HM1.out H53.out, HF.out.below⟩
          case rest =>
            obtain ⟨A5, c5, D5, d5, P5, cp5, T5, ct5, L5, cl5, rfl, htj, _, hbx⟩ := hcut
            obtain ⟨Y, rfl⟩ : ∃ Y, Y = wc := ⟨wc, rfl⟩
            have HJ := Lib.hid htj
            have HBc : Hid (Below w.heap.size w Y) := hbx
            clear HG7 HM1 HM3 htj hbx
            have l3 := HJ.out.k5.lt
            have l7 := HJ.out.k6.lt
            have p2 : R3.1.phase = 3 := K4.out.2.1
            have p5 : R3.1.want = 1 := K4.out.2.2.1
            go_upto_region 14 with fail
            go_cut [137] from 12 (fun v wx => v = .bool false ∧ Below Y.heap.size Y wx)
            case first => as_aux_lemma =>
              refine draw (fun w' => Below Y.heap.size Y w') 26 rfl (by kernel_rfl) (fun Qd hQd => ?_)
              apply anyI_step 0 rfl (by kernel_rfl)
              focus (intro wI hI Kv hKv; have q9 := HJ.out.k6.below hI l7; have c0 := q9.cell 0 (v := .slice P5 R3.2.1.packets.length cp5) rfl; have q8 := HJ.out.k5.below hI l3; have e2 := q8.cell 2 (v := .int .i64 R3.1.phase) rfl; have e5 := q8.cell 5 (v := .int .i64 R3.1.want) rfl; clear q9 q8; go_simp; exact hKv)
              intro Kd hKd
              go_simp
              refine hKd _ ?_
              clear hKd Kd
              apply anyI_step 1 rfl (by kernel_rfl)
              focus (intro wI hI Kv hKv; have q9 := HJ.out.k6.below hI l7; have c0 := q9.cell 0 (v := .slice P5 R3.2.1.packets.length cp5) rfl; have q8 := HJ.out.k5.below hI l3; have e2 := q8.cell 2 (v := .int .i64 R3.1.phase) rfl; have e5 := q8.cell 5 (v := .int .i64 R3.1.want) rfl; clear q9 q8; go_simp; exact hKv)
              intro Kd hKd
              go_simp
              refine hKd _ ?_
              clear hKd Kd
              apply anyI_step 2 rfl (by kernel_rfl)
              focus (intro wI hI Kv hKv; have q9 := HJ.out.k6.below hI l7; have c0 := q9.cell 0 (v := .slice P5 R3.2.1.packets.length cp5) rfl; have q8 := HJ.out.k5.below hI l3; have e2 := q8.cell 2 (v := .int .i64 R3.1.phase) rfl; have e5 := q8.cell 5 (v := .int .i64 R3.1.want) rfl; clear q9 q8; go_simp; exact hKv)
              intro Kd hKd
              go_simp
              refine hKd _ ?_
              clear hKd Kd
              apply anyI_step 3 rfl (by kernel_rfl)
              focus (intro wI hI Kv hKv; have q9 := HJ.out.k6.below hI l7; have c0 := q9.cell 0 (v := .slice P5 R3.2.1.packets.length cp5) rfl; have q8 := HJ.out.k5.below hI l3; have e2 := q8.cell 2 (v := .int .i64 R3.1.phase) rfl; have e5 := q8.cell 5 (v := .int .i64 R3.1.want) rfl; clear q9 q8; go_simp; exact hKv)
              intro Kd hKd
              go_simp
              refine hKd _ ?_
              clear hKd Kd
              apply anyI_step 4 rfl (by kernel_rfl)
              focus (intro wI hI Kv hKv; have q9 := HJ.out.k6.below hI l7; have c0 := q9.cell 0 (v := .slice P5 R3.2.1.packets.length cp5) rfl; have q8 := HJ.out.k5.below hI l3; have e2 := q8.cell 2 (v := .int .i64 R3.1.phase) rfl; have e5 := q8.cell 5 (v := .int .i64 R3.1.want) rfl; clear q9 q8; go_simp; exact hKv)
              intro Kd hKd
              go_simp
              refine hKd _ ?_
              clear hKd Kd
              apply anyI_step 5 rfl (by kernel_rfl)
              focus (intro wI hI Kv hKv; have q9 := HJ.out.k6.below hI l7; have c0 := q9.cell 0 (v := .slice P5 R3.2.1.packets.length cp5) rfl; have q8 := HJ.out.k5.below hI l3; have e2 := q8.cell 2 (v := .int .i64 R3.1.phase) rfl; have e5 := q8.cell 5 (v := .int .i64 R3.1.want) rfl; clear q9 q8; go_simp; exact hKv)
              intro Kd hKd
              go_simp
              refine hKd _ ?_
              clear hKd Kd
              apply anyI_step 6 rfl (by kernel_rfl)
              focus (intro wI hI Kv hKv; have q9 := HJ.out.k6.below hI l7; have c0 := q9.cell 0 (v := .slice P5 R3.2.1.packets.length cp5) rfl; have q8 := HJ.out.k5.below hI l3; have e2 := q8.cell 2 (v := .int .i64 R3.1.phase) rfl; have e5 := q8.cell 5 (v := .int .i64 R3.1.want) rfl; clear q9 q8; go_simp; exact hKv)
              intro Kd hKd
              go_simp
              refine hKd _ ?_
              clear hKd Kd
              apply anyI_step 7 rfl (by kernel_rfl)
              focus (intro wI hI Kv hKv; have q9 := HJ.out.k6.below hI l7; have c0 := q9.cell 0 (v := .slice P5 R3.2.1.packets.length cp5) rfl; have q8 := HJ.out.k5.below hI l3; have e2 := q8.cell 2 (v := .int .i64 R3.1.phase) rfl; have e5 := q8.cell 5 (v := .int .i64 R3.1.want) rfl; clear q9 q8; go_simp; exact hKv)
              intro Kd hKd
              go_simp
              refine hKd _ ?_
              clear hKd Kd
              apply anyI_step 8 rfl (by kernel_rfl)
              focus (intro wI hI Kv hKv; have q9 := HJ.out.k6.below hI l7; have c0 := q9.cell 0 (v := .slice P5 R3.2.1.packets.length cp5) rfl; have q8 := HJ.out.k5.below hI l3; have e2 := q8.cell 2 (v := .int .i64 R3.1.phase) rfl; have e5 := q8.cell 5 (v := .int .i64 R3.1.want) rfl; clear q9 q8; go_simp; exact hKv)
              intro Kd hKd
              go_simp
              refine hKd _ ?_
              clear hKd Kd
              apply anyI_step 9 rfl (by kernel_rfl)
              focus (intro wI hI Kv hKv; have q9 := HJ.out.k6.below hI l7; have c0 := q9.cell 0 (v := .slice P5 R3.2.1.packets.length cp5) rfl; have q8 := HJ.out.k5.below hI l3; have e2 := q8.cell 2 (v := .int .i64 R3.1.phase) rfl; have e5 := q8.cell 5 (v := .int .i64 R3.1.want) rfl; clear q9 q8; go_simp; exact hKv)
              intro Kd hKd
              go_simp
              refine hKd _ ?_
              clear hKd Kd
              apply anyI_step 10 rfl (by kernel_rfl)
              focus (intro wI hI Kv hKv; have q9 := HJ.out.k6.below hI l7; have c0 := q9.cell 0 (v := .slice P5 R3.2.1.packets.length cp5) rfl; have q8 := HJ.out.k5.below hI l3; have e2 := q8.cell 2 (v := .int .i64 R3.1.phase) rfl; have e5 := q8.cell 5 (v := .int .i64 R3.1.want) rfl; clear q9 q8; go_simp; exact hKv)
              intro Kd hKd
              go_simp
              refine hKd _ ?_
              clear hKd Kd
              apply anyI_step 11 rfl (by kernel_rfl)
              focus (intro wI hI Kv hKv; have q9 := HJ.out.k6.below hI l7; have c0 := q9.cell 0 (v := .slice P5 R3.2.1.packets.length cp5) rfl; have q8 := HJ.out.k5.below hI l3; have e2 := q8.cell 2 (v := .int .i64 R3.1.phase) rfl; have e5 := q8.cell 5 (v := .int .i64 R3.1.want) rfl; clear q9 q8; go_simp; exact hKv)
              intro Kd hKd
              go_simp
              refine hKd _ ?_
              clear hKd Kd
              apply anyI_step 12 rfl (by kernel_rfl)
              focus (intro wI hI Kv hKv; have q9 := HJ.out.k6.below hI l7; have c0 := q9.cell 0 (v := .slice P5 R3.2.1.packets.length cp5) rfl; have q8 := HJ.out.k5.below hI l3; have e2 := q8.cell 2 (v := .int .i64 R3.1.phase) rfl; have e5 := q8.cell 5 (v := .int .i64 R3.1.want) rfl; clear q9 q8; go_simp; exact hKv)
              intro Kd hKd
              go_simp
              refine hKd _ ?_
              clear hKd Kd
              apply anyI_step 13 rfl (by kernel_rfl)
              focus (intro wI hI Kv hKv; have q9 := HJ.out.k6.below hI l7; have c0 := q9.cell 0 (v := .slice P5 R3.2.1.packets.length cp5) rfl; have q8 := HJ.out.k5.below hI l3; have e2 := q8.cell 2 (v := .int .i64 R3.1.phase) rfl; have e5 := q8.cell 5 (v := .int .i64 R3.1.want) rfl; clear q9 q8; go_simp; exact hKv)
              intro Kd hKd
              go_simp
              refine hKd _ ?_
              clear hKd Kd
              apply anyI_step 14 rfl (by kernel_rfl)
              focus (intro wI hI Kv hKv; have q9 := HJ.out.k6.below hI l7; have c0 := q9.cell 0 (v := .slice P5 R3.2.1.packets.length cp5) rfl; have q8 := HJ.out.k5.below hI l3; have e2 := q8.cell 2 (v := .int .i64 R3.1.phase) rfl; have e5 := q8.cell 5 (v := .int .i64 R3.1.want) rfl; clear q9 q8; go_simp; exact hKv)
              intro Kd hKd
              go_simp
              refine hKd _ ?_
              clear hKd Kd
              refine anyI_one' 15 rfl (by kernel_rfl) ((Below.refl _ Y).drew) (fun Kd hKd => ?_)
              go_wp2_with (go_at_call 34; go_must (refine (ack34_any 5 1 1 0 _).mono ?_); rintro r u1 ⟨rfl, hB1⟩)
              have HB1 : Hid (Below Y.heap.size Y u1) := below_in (Below.refl _ Y).drew hB1
              clear hB1
              refine anyI_one' 16 rfl (by kernel_rfl) (HB1.out) (fun Kd hKd => ?_)
              go_wp2_with (go_at_call 30; go_must (refine (one_any P5 cp5 R3.2.1.packets ⟨3, 5, 1, 0, ⟨#[]⟩, 1, 0⟩ u1 (HJ.out.gn.p.below HB1.out (Nat.le_refl _))).mono ?_); rintro r u2 ⟨rfl, hB2⟩; rw [K4.out.2.2.2.1, decide_eq_true rfl])
              have HB2 : Hid (Below Y.heap.size Y u2) := below_in HB1.out hB2
              clear hB2
              apply anyI_step 17 rfl (by kernel_rfl)
              focus (intro wI hI Kv hKv; have q9 := HJ.out.k6.below hI l7; have c1 := q9.cell 1 (v := .slice T5 R3.2.1.taken.length ct5) rfl; clear q9; go_simp; exact hKv)
              intro Kd hKd
              go_simp
              refine hKd _ ?_
              clear hKd Kd
              apply anyI_step 18 rfl (by kernel_rfl)
              focus (intro wI hI Kv hKv; have q9 := HJ.out.k6.below hI l7; have c1 := q9.cell 1 (v := .slice T5 R3.2.1.taken.length ct5) rfl; clear q9; go_simp; exact hKv)
              intro Kd hKd
              go_simp
              refine hKd _ ?_
              clear hKd Kd
              apply anyI_step 19 rfl (by kernel_rfl)
              focus (intro wI hI Kv hKv; have q9 := HJ.out.k6.below hI l7; have c1 := q9.cell 1 (v := .slice T5 R3.2.1.taken.length ct5) rfl; clear q9; go_simp; exact hKv)
              intro Kd hKd
              go_simp
              refine hKd _ ?_
              clear hKd Kd
              apply anyI_step 20 rfl (by kernel_rfl)
              focus (intro wI hI Kv hKv; have q9 := HJ.out.k6.below hI l7; have c1 := q9.cell 1 (v := .slice T5 R3.2.1.taken.length ct5) rfl; clear q9; go_simp; exact hKv)
              intro Kd hKd
              go_simp
              refine hKd _ ?_
              clear hKd Kd
              apply anyI_step 21 rfl (by kernel_rfl)
              focus (intro wI hI Kv hKv; have q9 := HJ.out.k6.below hI l7; have c1 := q9.cell 1 (v := .slice T5 R3.2.1.taken.length ct5) rfl; clear q9; go_simp; exact hKv)
              intro Kd hKd
              go_simp
              refine hKd _ ?_
              clear hKd Kd
              refine anyI_one' 22 rfl (by kernel_rfl) (HB2.out) (fun Kd hKd => ?_)
              go_wp2
              obtain ⟨v3, hv3⟩ : ∃ v3, u2.alloc (.cells #[.string ⟨#[120]⟩] 9) = v3 := ⟨_, rfl⟩
              have HB3 : Hid (Below Y.heap.size Y v3) := by rw [← hv3]; exact HB2.out.alloc HB2.out.size _
              have HK5 : Hid (Blk v3 u2.heap.size (.cells #[.string ⟨#[120]⟩] 9)) := by rw [← hv3]; exact Blk.new _ _
              have HC5 : Hid (Cells v3 (some ⟨u2.heap.size, 0, none⟩) (strs [tX])) := cells_blk HK5.out (by simp)
              rw [hv3]
              clear hv3
              refine anyI_one' 23 rfl (by kernel_rfl) (HB3.out) (fun Kd hKd => ?_)
              go_wp2_with (go_at_call 35; go_must (refine (eq_texts T5 ct5 R3.2.1.taken (some ⟨u2.heap.size, 0, none⟩) 1 [tX] v3 (HJ.out.gn.t.below HB3.out (Nat.le_refl _)) HC5.out).mono ?_); rintro r v4 ⟨rfl, hB4⟩; rw [K4.out.2.2.2.2, decide_eq_true rfl])
              have HB4 : Hid (Below Y.heap.size Y v4) := below_in HB3.out hB4
              clear hB4
              apply anyI_step 24 rfl (by kernel_rfl)
              focus (intro wI hI Kv hKv; go_simp; exact hKv)
              intro Kd hKd
              go_simp
              refine hKd _ ?_
              clear hKd Kd
              apply anyI_step 25 rfl (by kernel_rfl)
              focus (intro wI hI Kv hKv; go_simp; exact hKv)
              intro Kd hKd
              go_simp
              refine hKd _ ?_
              clear hKd Kd
              refine anyI_end (by kernel_rfl) (HB4.out) (hQd _ _ ?_)
              clear hQd Qd
              go_wp2_with fail
              go_meet
              exact ⟨rfl, HB4.out⟩
            case rest =>
              obtain ⟨rfl, hbx⟩ := hcut
              obtain ⟨X, rfl⟩ : ∃ X, X = wc := ⟨wc, rfl⟩
              have HG7 := Lib.hid (HJ.out.k6.below hbx l7)
              have HBc : Hid (Below w.heap.size w X) := below_in HBc.out hbx
              clear hbx l3 l7 p2 p5 HJ
              go_upto_region 17 with fail
              obtain ⟨V, hV⟩ : ∃ V, X.alloc (.cells (enB kM none 0 none 0) 26) = V := ⟨_, rfl⟩
              have hbV : Below X.heap.size X V := by rw [← hV]; exact (Below.refl _ X).alloc (Nat.le_refl _) _
              have HM8 : Hid (Eb V X.heap.size kM none 0 none 0) := ⟨by rw [← hV]; exact Blk.new _ _, enT_nil V rfl rfl⟩
              have HG7 := Lib.hid (HG7.out.below hbV HG7.out.lt)
              have HBc : Hid (Below w.heap.size w V) := below_in HBc.out hbV
              have hV2 : X.alloc (.cells #[.int .i64 1, .int .i64 6, .int .i64 2, .int .i64 0, .slice none 0 0, .int .i64 0, .slice none 0 0] 26) = V := hV
              rw [hV2]
              clear hV hV2 hbV
              go_cut [2, 9] from 12 (fun v2 v9 wx => ∃ b9 A c D d P cp T ct L cl, v2 = .int .i64 0 ∧ v9 = .pointer (some ⟨b9, 0, none⟩) ∧ Tj wx R4 b9 b7 A c D d P cp T ct L cl ∧ Below w.heap.size w wx)
              case first => as_aux_lemma =>
                have HR := Lib.hid (Rg.start V)
                refine draw (fun _ => True) 11 rfl (by kernel_rfl) (fun Qd hQd => ?_)
                refine anyI_three' 0 1 7 rfl rfl rfl (by kernel_rfl) (by trivial) (fun Kd hKd => ?_) (fun Kd hKd => ?_) (fun Kd hKd => ?_)
                · skip
                  have q9 := HM8.out.k.below HR.out.below HM8.out.k.lt
                  try unfold Z47 at q9
                  try unfold Z26 at q9
                  have a0 := q9.cell 0 (v := .int .i64 kM.life) rfl
                  have a1 := q9.cell 1 (v := .int .i64 kM.peer) rfl
                  have a2 := q9.cell 2 (v := .int .i64 kM.phase) rfl
                  have a3 := q9.cell 3 (v := .int .i64 kM.base) rfl
                  have a4 := q9.cell 4 (v := .slice none kM.out.length 0) rfl
                  have a5 := q9.cell 5 (v := .int .i64 kM.want) rfl
                  have a6 := q9.cell 6 (v := .slice none kM.inn.length 0) rfl
                  have al := q9.lt
                  clear q9
                  have q9 := HM8.out.k
                  have v0 := q9.cell 0 (v := .int .i64 kM.life) rfl
                  have v1 := q9.cell 1 (v := .int .i64 kM.peer) rfl
                  have v2 := q9.cell 2 (v := .int .i64 kM.phase) rfl
                  have v3 := q9.cell 3 (v := .int .i64 kM.base) rfl
                  have v4 := q9.cell 4 (v := .slice none kM.out.length 0) rfl
                  have v5 := q9.cell 5 (v := .int .i64 kM.want) rfl
                  have v6 := q9.cell 6 (v := .slice none kM.inn.length 0) rfl
                  have vl := q9.lt
                  clear q9
                  go_wp2
                  clear a0 a1 a2 a3 a4 a5 a6 al v0 v1 v2 v3 v4 v5 v6 vl
                  refine anyI_two' 1 7 rfl rfl (by kernel_rfl) ((by trivial)) (fun Kd hKd => ?_) (fun Kd hKd => ?_)
                  · skip
                    go_wp2_with (go_at_call 34; go_must (refine (ack34_any 5 1 3 0 _).mono ?_); rintro r u1 ⟨rfl, hB1⟩)
                    have HR := Lib.hid (HR.out.call hB1)
                    clear hB1
                    refine anyI_two' 2 7 rfl rfl (by kernel_rfl) ((by trivial)) (fun Kd hKd => ?_) (fun Kd hKd => ?_)
                    · skip
                      go_wp2_with (go_at_call 20; go_must (refine (take_any kM none 0 none 0 kP4 _ (HM8.out.en.at_.below HR.out.below) HM8.out.en.nl (by decide)).mono ?_); rintro r ut ⟨A', c', D', d', P', cp', T', ct', L', cl', rfl, hpost⟩)
                      rw [HR4.out] at hpost ⊢
                      obtain ⟨hto, hbt⟩ := to_of' hpost
                      have HTO := Lib.hid hto
                      have HT := Lib.hid (Rt.start HR.out hbt)
                      have HS0 := Lib.hid HR.out.below.size
                      clear hpost hto hbt
                      apply anyI_step 3 rfl (by kernel_rfl)
                      focus (intro wI hI Kv hKv; go_simp; exact hKv)
                      intro Kd hKd
                      go_simp
                      refine hKd _ ?_
                      clear hKd Kd
                      apply anyI_step 4 rfl (by kernel_rfl)
                      focus (intro wI hI Kv hKv; go_simp; exact hKv)
                      intro Kd hKd
                      go_simp
                      refine hKd _ ?_
                      clear hKd Kd
                      apply anyI_step 5 rfl (by kernel_rfl)
                      focus (intro wI hI Kv hKv; go_simp; exact hKv)
                      intro Kd hKd
                      go_simp
                      refine hKd _ ?_
                      clear hKd Kd
                      apply anyI_step 6 rfl (by kernel_rfl)
                      focus (intro wI hI Kv hKv; go_simp; exact hKv)
                      intro Kd hKd
                      go_simp
                      refine hKd _ ?_
                      clear hKd Kd
                      refine anyI_one' 7 rfl (by kernel_rfl) ((by trivial)) (fun Kd hKd => ?_)
                      go_wp2
                      have HT := Lib.hid (HT.out.al5 (ut.heap.size) (by simp))
                      have HK6 := Lib.hid (HG7.out.below HT.out.rg.below HG7.out.lt)
                      have HK5 : Hid (Blk _ _ (.cells (enB noEn none 0 none 0) 26)) := (HT.out.rg.k5 _ rfl).2
                      have HF := Lib.hid (known_end d' cp' HBc.out HT.out.rg.below HT.out.ut HK5.out HK6.out (HT.out.s5 _ rfl) (.inl (by have := HS0.out; have := HG7.out.lt; omega)) (Nat.le_trans HBc.out.size (HT.out.rg.k5 _ rfl).1) H7W.out HTO.out)
                      refine anyI_one' 8 rfl (by kernel_rfl) ((by trivial)) (fun Kd hKd => ?_)
                      refine wpList_store26 rfl _ _ rfl HK5.out rfl rfl ?_
                      refine ⟨rfl, hKd _ _ ?_⟩
                      clear hKd Kd
                      refine anyI_one' 9 rfl (by kernel_rfl) ((by trivial)) (fun Kd hKd => ?_)
                      refine wpList_store47 rfl _ _ rfl HF.out.h6 rfl rfl ?_
                      refine ⟨rfl, hKd _ _ ?_⟩
                      clear hKd Kd
                      apply anyI_step 10 rfl (by kernel_rfl)
                      focus (intro wI hI Kv hKv; go_simp; exact hKv)
                      intro Kd hKd
                      go_simp
                      refine hKd _ ?_
                      clear hKd Kd
                      refine anyI_end (by kernel_rfl) (trivial) (hQd _ _ ?_)
                      clear hQd Qd
                      go_wp2_with fail
                      go_meet
                      exact ⟨ut.heap.size, A', c', D', d', P', cp', T', ct', L', cl', congrArg (Value.int .i64) K5.out.1, rfl, HF.out.tj, HF.out.below⟩
                    · skip
                      go_wp2
                      have HR := Lib.hid (HR.out.al5 (u1.heap.size) (by simp))
                      refine anyI_one' 2 rfl (by kernel_rfl) ((by trivial)) (fun Kd hKd => ?_)
                      go_wp2_with (go_at_call 20; go_must (refine (take_any kM none 0 none 0 kP4 _ (HM8.out.en.at_.below HR.out.below) HM8.out.en.nl (by decide)).mono ?_); rintro r ut ⟨A', c', D', d', P', cp', T', ct', L', cl', rfl, hpost⟩)
                      rw [HR4.out] at hpost ⊢
                      obtain ⟨hto, hbt⟩ := to_of' hpost
                      have HTO := Lib.hid hto
                      have HT := Lib.hid (Rt.start HR.out hbt)
                      have HS0 := Lib.hid HR.out.below.size
                      clear hpost hto hbt
                      apply anyI_step 3 rfl (by kernel_rfl)
                      focus (intro wI hI Kv hKv; go_simp; exact hKv)
                      intro Kd hKd
                      go_simp
                      refine hKd _ ?_
                      clear hKd Kd
                      apply anyI_step 4 rfl (by kernel_rfl)
                      focus (intro wI hI Kv hKv; go_simp; exact hKv)
                      intro Kd hKd
                      go_simp
                      refine hKd _ ?_
                      clear hKd Kd
                      apply anyI_step 5 rfl (by kernel_rfl)
                      focus (intro wI hI Kv hKv; go_simp; exact hKv)
                      intro Kd hKd
                      go_simp
                      refine hKd _ ?_
                      clear hKd Kd
                      apply anyI_step 6 rfl (by kernel_rfl)
                      focus (intro wI hI Kv hKv; go_simp; exact hKv)
                      intro Kd hKd
                      go_simp
                      refine hKd _ ?_
                      clear hKd Kd
                      have HK6 := Lib.hid (HG7.out.below HT.out.rg.below HG7.out.lt)
                      have HK5 : Hid (Blk _ _ (.cells (enB noEn none 0 none 0) 26)) := (HT.out.rg.k5 _ rfl).2
                      have HF := Lib.hid (known_end d' cp' HBc.out HT.out.rg.below HT.out.ut HK5.out HK6.out (HT.out.s5 _ rfl) (.inl (by have := HS0.out; have := HG7.out.lt; omega)) (Nat.le_trans HBc.out.size (HT.out.rg.k5 _ rfl).1) H7W.out HTO.out)
                      refine anyI_one' 8 rfl (by kernel_rfl) ((by trivial)) (fun Kd hKd => ?_)
                      refine wpList_store26 rfl _ _ rfl HK5.out rfl rfl ?_
                      refine ⟨rfl, hKd _ _ ?_⟩
                      clear hKd Kd
                      refine anyI_one' 9 rfl (by kernel_rfl) ((by trivial)) (fun Kd hKd => ?_)
                      refine wpList_store47 rfl _ _ rfl HF.out.h6 rfl rfl ?_
                      refine ⟨rfl, hKd _ _ ?_⟩
                      clear hKd Kd
                      apply anyI_step 10 rfl (by kernel_rfl)
                      focus (intro wI hI Kv hKv; go_simp; exact hKv)
                      intro Kd hKd
                      go_simp
                      refine hKd _ ?_
                      clear hKd Kd
                      refine anyI_end (by kernel_rfl) (trivial) (hQd _ _ ?_)
                      clear hQd Qd
                      go_wp2_with fail
                      go_meet
                      exact ⟨u1.heap.size, A', c', D', d', P', cp', T', ct', L', cl', congrArg (Value.int .i64) K5.out.1, rfl, HF.out.tj, HF.out.below⟩
                  · skip
                    go_wp2
                    have HR := Lib.hid (HR.out.al5 (V.heap.size) (by simp))
                    refine anyI_one' 1 rfl (by kernel_rfl) ((by trivial)) (fun Kd hKd => ?_)
                    go_wp2_with (go_at_call 34; go_must (refine (ack34_any 5 1 3 0 _).mono ?_); rintro r u1 ⟨rfl, hB1⟩)
                    have HR := Lib.hid (HR.out.call hB1)
                    clear hB1
                    refine anyI_one' 2 rfl (by kernel_rfl) ((by trivial)) (fun Kd hKd => ?_)
                    go_wp2_with (go_at_call 20; go_must (refine (take_any kM none 0 none 0 kP4 _ (HM8.out.en.at_.below HR.out.below) HM8.out.en.nl (by decide)).mono ?_); rintro r ut ⟨A', c', D', d', P', cp', T', ct', L', cl', rfl, hpost⟩)
                    rw [HR4.out] at hpost ⊢
                    obtain ⟨hto, hbt⟩ := to_of' hpost
                    have HTO := Lib.hid hto
                    have HT := Lib.hid (Rt.start HR.out hbt)
                    have HS0 := Lib.hid HR.out.below.size
                    clear hpost hto hbt
                    apply anyI_step 3 rfl (by kernel_rfl)
                    focus (intro wI hI Kv hKv; go_simp; exact hKv)
                    intro Kd hKd
                    go_simp
                    refine hKd _ ?_
                    clear hKd Kd
                    apply anyI_step 4 rfl (by kernel_rfl)
                    focus (intro wI hI Kv hKv; go_simp; exact hKv)
                    intro Kd hKd
                    go_simp
                    refine hKd _ ?_
                    clear hKd Kd
                    apply anyI_step 5 rfl (by kernel_rfl)
                    focus (intro wI hI Kv hKv; go_simp; exact hKv)
                    intro Kd hKd
                    go_simp
                    refine hKd _ ?_
                    clear hKd Kd
                    apply anyI_step 6 rfl (by kernel_rfl)
                    focus (intro wI hI Kv hKv; go_simp; exact hKv)
                    intro Kd hKd
                    go_simp
                    refine hKd _ ?_
                    clear hKd Kd
                    have HK6 := Lib.hid (HG7.out.below HT.out.rg.below HG7.out.lt)
                    have HK5 : Hid (Blk _ _ (.cells (enB noEn none 0 none 0) 26)) := (HT.out.rg.k5 _ rfl).2
                    have HF := Lib.hid (known_end d' cp' HBc.out HT.out.rg.below HT.out.ut HK5.out HK6.out (HT.out.s5 _ rfl) (.inl (by have := HS0.out; have := HG7.out.lt; omega)) (Nat.le_trans HBc.out.size (HT.out.rg.k5 _ rfl).1) H7W.out HTO.out)
                    refine anyI_one' 8 rfl (by kernel_rfl) ((by trivial)) (fun Kd hKd => ?_)
                    refine wpList_store26 rfl _ _ rfl HK5.out rfl rfl ?_
                    refine ⟨rfl, hKd _ _ ?_⟩
                    clear hKd Kd
                    refine anyI_one' 9 rfl (by kernel_rfl) ((by trivial)) (fun Kd hKd => ?_)
                    refine wpList_store47 rfl _ _ rfl HF.out.h6 rfl rfl ?_
                    refine ⟨rfl, hKd _ _ ?_⟩
                    clear hKd Kd
                    apply anyI_step 10 rfl (by kernel_rfl)
                    focus (intro wI hI Kv hKv; go_simp; exact hKv)
                    intro Kd hKd
                    go_simp
                    refine hKd _ ?_
                    clear hKd Kd
                    refine anyI_end (by kernel_rfl) (trivial) (hQd _ _ ?_)
                    clear hQd Qd
                    go_wp2_with fail
                    go_meet
                    exact ⟨V.heap.size, A', c', D', d', P', cp', T', ct', L', cl', congrArg (Value.int .i64) K5.out.1, rfl, HF.out.tj, HF.out.below⟩
                · skip
                  go_wp2_with (go_at_call 34; go_must (refine (ack34_any 5 1 3 0 _).mono ?_); rintro r u1 ⟨rfl, hB1⟩)
                  have HR := Lib.hid (HR.out.call hB1)
                  clear hB1
                  refine anyI_two' 0 7 rfl rfl (by kernel_rfl) ((by trivial)) (fun Kd hKd => ?_) (fun Kd hKd => ?_)
                  · skip
                    have q9 := HM8.out.k.below HR.out.below HM8.out.k.lt
                    try unfold Z47 at q9
                    try unfold Z26 at q9
                    have a0 := q9.cell 0 (v := .int .i64 kM.life) rfl
                    have a1 := q9.cell 1 (v := .int .i64 kM.peer) rfl
                    have a2 := q9.cell 2 (v := .int .i64 kM.phase) rfl
                    have a3 := q9.cell 3 (v := .int .i64 kM.base) rfl
                    have a4 := q9.cell 4 (v := .slice none kM.out.length 0) rfl
                    have a5 := q9.cell 5 (v := .int .i64 kM.want) rfl
                    have a6 := q9.cell 6 (v := .slice none kM.inn.length 0) rfl
                    have al := q9.lt
                    clear q9
                    have q9 := HM8.out.k
                    have v0 := q9.cell 0 (v := .int .i64 kM.life) rfl
                    have v1 := q9.cell 1 (v := .int .i64 kM.peer) rfl
                    have v2 := q9.cell 2 (v := .int .i64 kM.phase) rfl
                    have v3 := q9.cell 3 (v := .int .i64 kM.base) rfl
                    have v4 := q9.cell 4 (v := .slice none kM.out.length 0) rfl
                    have v5 := q9.cell 5 (v := .int .i64 kM.want) rfl
                    have v6 := q9.cell 6 (v := .slice none kM.inn.length 0) rfl
                    have vl := q9.lt
                    clear q9
                    go_wp2
                    clear a0 a1 a2 a3 a4 a5 a6 al v0 v1 v2 v3 v4 v5 v6 vl
                    refine anyI_two' 2 7 rfl rfl (by kernel_rfl) ((by trivial)) (fun Kd hKd => ?_) (fun Kd hKd => ?_)
                    · skip
                      go_wp2_with (go_at_call 20; go_must (refine (take_any kM none 0 none 0 kP4 _ (HM8.out.en.at_.below HR.out.below) HM8.out.en.nl (by decide)).mono ?_); rintro r ut ⟨A', c', D', d', P', cp', T', ct', L', cl', rfl, hpost⟩)
                      rw [HR4.out] at hpost ⊢
                      obtain ⟨hto, hbt⟩ := to_of' hpost
                      have HTO := Lib.hid hto
                      have HT := Lib.hid (Rt.start HR.out hbt)
                      have HS0 := Lib.hid HR.out.below.size
                      clear hpost hto hbt
                      apply anyI_step 3 rfl (by kernel_rfl)
                      focus (intro wI hI Kv hKv; go_simp; exact hKv)
                      intro Kd hKd
                      go_simp
                      refine hKd _ ?_
                      clear hKd Kd
                      apply anyI_step 4 rfl (by kernel_rfl)
                      focus (intro wI hI Kv hKv; go_simp; exact hKv)
                      intro Kd hKd
                      go_simp
                      refine hKd _ ?_
                      clear hKd Kd
                      apply anyI_step 5 rfl (by kernel_rfl)
                      focus (intro wI hI Kv hKv; go_simp; exact hKv)
                      intro Kd hKd
                      go_simp
                      refine hKd _ ?_
                      clear hKd Kd
                      apply anyI_step 6 rfl (by kernel_rfl)
                      focus (intro wI hI Kv hKv; go_simp; exact hKv)
                      intro Kd hKd
                      go_simp
                      refine hKd _ ?_
                      clear hKd Kd
                      refine anyI_one' 7 rfl (by kernel_rfl) ((by trivial)) (fun Kd hKd => ?_)
                      go_wp2
                      have HT := Lib.hid (HT.out.al5 (ut.heap.size) (by simp))
                      have HK6 := Lib.hid (HG7.out.below HT.out.rg.below HG7.out.lt)
                      have HK5 : Hid (Blk _ _ (.cells (enB noEn none 0 none 0) 26)) := (HT.out.rg.k5 _ rfl).2
                      have HF := Lib.hid (known_end d' cp' HBc.out HT.out.rg.below HT.out.ut HK5.out HK6.out (HT.out.s5 _ rfl) (.inl (by have := HS0.out; have := HG7.out.lt; omega)) (Nat.le_trans HBc.out.size (HT.out.rg.k5 _ rfl).1) H7W.out HTO.out)
                      refine anyI_one' 8 rfl (by kernel_rfl) ((by trivial)) (fun Kd hKd => ?_)
                      refine wpList_store26 rfl _ _ rfl HK5.out rfl rfl ?_
                      refine ⟨rfl, hKd _ _ ?_⟩
                      clear hKd Kd
                      refine anyI_one' 9 rfl (by kernel_rfl) ((by trivial)) (fun Kd hKd => ?_)
                      refine wpList_store47 rfl _ _ rfl HF.out.h6 rfl rfl ?_
                      refine ⟨rfl, hKd _ _ ?_⟩
                      clear hKd Kd
                      apply anyI_step 10 rfl (by kernel_rfl)
                      focus (intro wI hI Kv hKv; go_simp; exact hKv)
                      intro Kd hKd
                      go_simp
                      refine hKd _ ?_
                      clear hKd Kd
                      refine anyI_end (by kernel_rfl) (trivial) (hQd _ _ ?_)
                      clear hQd Qd
                      go_wp2_with fail
                      go_meet
                      exact ⟨ut.heap.size, A', c', D', d', P', cp', T', ct', L', cl', congrArg (Value.int .i64) K5.out.1, rfl, HF.out.tj, HF.out.below⟩
                    · skip
                      go_wp2
                      have HR := Lib.hid (HR.out.al5 (u1.heap.size) (by simp))
                      refine anyI_one' 2 rfl (by kernel_rfl) ((by trivial)) (fun Kd hKd => ?_)
                      go_wp2_with (go_at_call 20; go_must (refine (take_any kM none 0 none 0 kP4 _ (HM8.out.en.at_.below HR.out.below) HM8.out.en.nl (by decide)).mono ?_); rintro r ut ⟨A', c', D', d', P', cp', T', ct', L', cl', rfl, hpost⟩)
                      rw [HR4.out] at hpost ⊢
                      obtain ⟨hto, hbt⟩ := to_of' hpost
                      have HTO := Lib.hid hto
                      have HT := Lib.hid (Rt.start HR.out hbt)
                      have HS0 := Lib.hid HR.out.below.size
                      clear hpost hto hbt
                      apply anyI_step 3 rfl (by kernel_rfl)
                      focus (intro wI hI Kv hKv; go_simp; exact hKv)
                      intro Kd hKd
                      go_simp
                      refine hKd _ ?_
                      clear hKd Kd
                      apply anyI_step 4 rfl (by kernel_rfl)
                      focus (intro wI hI Kv hKv; go_simp; exact hKv)
                      intro Kd hKd
                      go_simp
                      refine hKd _ ?_
                      clear hKd Kd
                      apply anyI_step 5 rfl (by kernel_rfl)
                      focus (intro wI hI Kv hKv; go_simp; exact hKv)
                      intro Kd hKd
                      go_simp
                      refine hKd _ ?_
                      clear hKd Kd
                      apply anyI_step 6 rfl (by kernel_rfl)
                      focus (intro wI hI Kv hKv; go_simp; exact hKv)
                      intro Kd hKd
                      go_simp
                      refine hKd _ ?_
                      clear hKd Kd
                      have HK6 := Lib.hid (HG7.out.below HT.out.rg.below HG7.out.lt)
                      have HK5 : Hid (Blk _ _ (.cells (enB noEn none 0 none 0) 26)) := (HT.out.rg.k5 _ rfl).2
                      have HF := Lib.hid (known_end d' cp' HBc.out HT.out.rg.below HT.out.ut HK5.out HK6.out (HT.out.s5 _ rfl) (.inl (by have := HS0.out; have := HG7.out.lt; omega)) (Nat.le_trans HBc.out.size (HT.out.rg.k5 _ rfl).1) H7W.out HTO.out)
                      refine anyI_one' 8 rfl (by kernel_rfl) ((by trivial)) (fun Kd hKd => ?_)
                      refine wpList_store26 rfl _ _ rfl HK5.out rfl rfl ?_
                      refine ⟨rfl, hKd _ _ ?_⟩
                      clear hKd Kd
                      refine anyI_one' 9 rfl (by kernel_rfl) ((by trivial)) (fun Kd hKd => ?_)
                      refine wpList_store47 rfl _ _ rfl HF.out.h6 rfl rfl ?_
                      refine ⟨rfl, hKd _ _ ?_⟩
                      clear hKd Kd
                      apply anyI_step 10 rfl (by kernel_rfl)
                      focus (intro wI hI Kv hKv; go_simp; exact hKv)
                      intro Kd hKd
                      go_simp
                      refine hKd _ ?_
                      clear hKd Kd
                      refine anyI_end (by kernel_rfl) (trivial) (hQd _ _ ?_)
                      clear hQd Qd
                      go_wp2_with fail
                      go_meet
                      exact ⟨u1.heap.size, A', c', D', d', P', cp', T', ct', L', cl', congrArg (Value.int .i64) K5.out.1, rfl, HF.out.tj, HF.out.below⟩
                  · skip
                    go_wp2
                    have HR := Lib.hid (HR.out.al5 (u1.heap.size) (by simp))
                    refine anyI_one' 0 rfl (by kernel_rfl) ((by trivial)) (fun Kd hKd => ?_)
                    have q9 := HM8.out.k.below HR.out.below HM8.out.k.lt
                    try unfold Z47 at q9
                    try unfold Z26 at q9
                    have a0 := q9.cell 0 (v := .int .i64 kM.life) rfl
                    have a1 := q9.cell 1 (v := .int .i64 kM.peer) rfl
                    have a2 := q9.cell 2 (v := .int .i64 kM.phase) rfl
                    have a3 := q9.cell 3 (v := .int .i64 kM.base) rfl
                    have a4 := q9.cell 4 (v := .slice none kM.out.length 0) rfl
                    have a5 := q9.cell 5 (v := .int .i64 kM.want) rfl
                    have a6 := q9.cell 6 (v := .slice none kM.inn.length 0) rfl
                    have al := q9.lt
                    clear q9
                    have q9 := HM8.out.k
                    have v0 := q9.cell 0 (v := .int .i64 kM.life) rfl
                    have v1 := q9.cell 1 (v := .int .i64 kM.peer) rfl
                    have v2 := q9.cell 2 (v := .int .i64 kM.phase) rfl
                    have v3 := q9.cell 3 (v := .int .i64 kM.base) rfl
                    have v4 := q9.cell 4 (v := .slice none kM.out.length 0) rfl
                    have v5 := q9.cell 5 (v := .int .i64 kM.want) rfl
                    have v6 := q9.cell 6 (v := .slice none kM.inn.length 0) rfl
                    have vl := q9.lt
                    clear q9
                    go_wp2
                    clear a0 a1 a2 a3 a4 a5 a6 al v0 v1 v2 v3 v4 v5 v6 vl
                    refine anyI_one' 2 rfl (by kernel_rfl) ((by trivial)) (fun Kd hKd => ?_)
                    go_wp2_with (go_at_call 20; go_must (refine (take_any kM none 0 none 0 kP4 _ (HM8.out.en.at_.below HR.out.below) HM8.out.en.nl (by decide)).mono ?_); rintro r ut ⟨A', c', D', d', P', cp', T', ct', L', cl', rfl, hpost⟩)
                    rw [HR4.out] at hpost ⊢
                    obtain ⟨hto, hbt⟩ := to_of' hpost
                    have HTO := Lib.hid hto
                    have HT := Lib.hid (Rt.start HR.out hbt)
                    have HS0 := Lib.hid HR.out.below.size
                    clear hpost hto hbt
                    apply anyI_step 3 rfl (by kernel_rfl)
                    focus (intro wI hI Kv hKv; go_simp; exact hKv)
                    intro Kd hKd
                    go_simp
                    refine hKd _ ?_
                    clear hKd Kd
                    apply anyI_step 4 rfl (by kernel_rfl)
                    focus (intro wI hI Kv hKv; go_simp; exact hKv)
                    intro Kd hKd
                    go_simp
                    refine hKd _ ?_
                    clear hKd Kd
                    apply anyI_step 5 rfl (by kernel_rfl)
                    focus (intro wI hI Kv hKv; go_simp; exact hKv)
                    intro Kd hKd
                    go_simp
                    refine hKd _ ?_
                    clear hKd Kd
                    apply anyI_step 6 rfl (by kernel_rfl)
                    focus (intro wI hI Kv hKv; go_simp; exact hKv)
                    intro Kd hKd
                    go_simp
                    refine hKd _ ?_
                    clear hKd Kd
                    have HK6 := Lib.hid (HG7.out.below HT.out.rg.below HG7.out.lt)
                    have HK5 : Hid (Blk _ _ (.cells (enB noEn none 0 none 0) 26)) := (HT.out.rg.k5 _ rfl).2
                    have HF := Lib.hid (known_end d' cp' HBc.out HT.out.rg.below HT.out.ut HK5.out HK6.out (HT.out.s5 _ rfl) (.inl (by have := HS0.out; have := HG7.out.lt; omega)) (Nat.le_trans HBc.out.size (HT.out.rg.k5 _ rfl).1) H7W.out HTO.out)
                    refine anyI_one' 8 rfl (by kernel_rfl) ((by trivial)) (fun Kd hKd => ?_)
                    refine wpList_store26 rfl _ _ rfl HK5.out rfl rfl ?_
                    refine ⟨rfl, hKd _ _ ?_⟩
                    clear hKd Kd
                    refine anyI_one' 9 rfl (by kernel_rfl) ((by trivial)) (fun Kd hKd => ?_)
                    refine wpList_store47 rfl _ _ rfl HF.out.h6 rfl rfl ?_
                    refine ⟨rfl, hKd _ _ ?_⟩
                    clear hKd Kd
                    apply anyI_step 10 rfl (by kernel_rfl)
                    focus (intro wI hI Kv hKv; go_simp; exact hKv)
                    intro Kd hKd
                    go_simp
                    refine hKd _ ?_
                    clear hKd Kd
                    refine anyI_end (by kernel_rfl) (trivial) (hQd _ _ ?_)
                    clear hQd Qd
                    go_wp2_with fail
                    go_meet
                    exact ⟨u1.heap.size, A', c', D', d', P', cp', T', ct', L', cl', congrArg (Value.int .i64) K5.out.1, rfl, HF.out.tj, HF.out.below⟩
                · skip
                  go_wp2
                  have HR := Lib.hid (HR.out.al5 (V.heap.size) (by simp))
                  refine anyI_two' 0 1 rfl rfl (by kernel_rfl) ((by trivial)) (fun Kd hKd => ?_) (fun Kd hKd => ?_)
                  · skip
                    have q9 := HM8.out.k.below HR.out.below HM8.out.k.lt
                    try unfold Z47 at q9
                    try unfold Z26 at q9
                    have a0 := q9.cell 0 (v := .int .i64 kM.life) rfl
                    have a1 := q9.cell 1 (v := .int .i64 kM.peer) rfl
                    have a2 := q9.cell 2 (v := .int .i64 kM.phase) rfl
                    have a3 := q9.cell 3 (v := .int .i64 kM.base) rfl
                    have a4 := q9.cell 4 (v := .slice none kM.out.length 0) rfl
                    have a5 := q9.cell 5 (v := .int .i64 kM.want) rfl
                    have a6 := q9.cell 6 (v := .slice none kM.inn.length 0) rfl
                    have al := q9.lt
                    clear q9
                    have q9 := HM8.out.k
                    have v0 := q9.cell 0 (v := .int .i64 kM.life) rfl
                    have v1 := q9.cell 1 (v := .int .i64 kM.peer) rfl
                    have v2 := q9.cell 2 (v := .int .i64 kM.phase) rfl
                    have v3 := q9.cell 3 (v := .int .i64 kM.base) rfl
                    have v4 := q9.cell 4 (v := .slice none kM.out.length 0) rfl
                    have v5 := q9.cell 5 (v := .int .i64 kM.want) rfl
                    have v6 := q9.cell 6 (v := .slice none kM.inn.length 0) rfl
                    have vl := q9.lt
                    clear q9
                    go_wp2
                    clear a0 a1 a2 a3 a4 a5 a6 al v0 v1 v2 v3 v4 v5 v6 vl
                    refine anyI_one' 1 rfl (by kernel_rfl) ((by trivial)) (fun Kd hKd => ?_)
                    go_wp2_with (go_at_call 34; go_must (refine (ack34_any 5 1 3 0 _).mono ?_); rintro r u1 ⟨rfl, hB1⟩)
                    have HR := Lib.hid (HR.out.call hB1)
                    clear hB1
                    refine anyI_one' 2 rfl (by kernel_rfl) ((by trivial)) (fun Kd hKd => ?_)
                    go_wp2_with (go_at_call 20; go_must (refine (take_any kM none 0 none 0 kP4 _ (HM8.out.en.at_.below HR.out.below) HM8.out.en.nl (by decide)).mono ?_); rintro r ut ⟨A', c', D', d', P', cp', T', ct', L', cl', rfl, hpost⟩)
                    rw [HR4.out] at hpost ⊢
                    obtain ⟨hto, hbt⟩ := to_of' hpost
                    have HTO := Lib.hid hto
                    have HT := Lib.hid (Rt.start HR.out hbt)
                    have HS0 := Lib.hid HR.out.below.size
                    clear hpost hto hbt
                    apply anyI_step 3 rfl (by kernel_rfl)
                    focus (intro wI hI Kv hKv; go_simp; exact hKv)
                    intro Kd hKd
                    go_simp
                    refine hKd _ ?_
                    clear hKd Kd
                    apply anyI_step 4 rfl (by kernel_rfl)
                    focus (intro wI hI Kv hKv; go_simp; exact hKv)
                    intro Kd hKd
                    go_simp
                    refine hKd _ ?_
                    clear hKd Kd
                    apply anyI_step 5 rfl (by kernel_rfl)
                    focus (intro wI hI Kv hKv; go_simp; exact hKv)
                    intro Kd hKd
                    go_simp
                    refine hKd _ ?_
                    clear hKd Kd
                    apply anyI_step 6 rfl (by kernel_rfl)
                    focus (intro wI hI Kv hKv; go_simp; exact hKv)
                    intro Kd hKd
                    go_simp
                    refine hKd _ ?_
                    clear hKd Kd
                    have HK6 := Lib.hid (HG7.out.below HT.out.rg.below HG7.out.lt)
                    have HK5 : Hid (Blk _ _ (.cells (enB noEn none 0 none 0) 26)) := (HT.out.rg.k5 _ rfl).2
                    have HF := Lib.hid (known_end d' cp' HBc.out HT.out.rg.below HT.out.ut HK5.out HK6.out (HT.out.s5 _ rfl) (.inl (by have := HS0.out; have := HG7.out.lt; omega)) (Nat.le_trans HBc.out.size (HT.out.rg.k5 _ rfl).1) H7W.out HTO.out)
                    refine anyI_one' 8 rfl (by kernel_rfl) ((by trivial)) (fun Kd hKd => ?_)
                    refine wpList_store26 rfl _ _ rfl HK5.out rfl rfl ?_
                    refine ⟨rfl, hKd _ _ ?_⟩
                    clear hKd Kd
                    refine anyI_one' 9 rfl (by kernel_rfl) ((by trivial)) (fun Kd hKd => ?_)
                    refine wpList_store47 rfl _ _ rfl HF.out.h6 rfl rfl ?_
                    refine ⟨rfl, hKd _ _ ?_⟩
                    clear hKd Kd
                    apply anyI_step 10 rfl (by kernel_rfl)
                    focus (intro wI hI Kv hKv; go_simp; exact hKv)
                    intro Kd hKd
                    go_simp
                    refine hKd _ ?_
                    clear hKd Kd
                    refine anyI_end (by kernel_rfl) (trivial) (hQd _ _ ?_)
                    clear hQd Qd
                    go_wp2_with fail
                    go_meet
                    exact ⟨V.heap.size, A', c', D', d', P', cp', T', ct', L', cl', congrArg (Value.int .i64) K5.out.1, rfl, HF.out.tj, HF.out.below⟩
                  · skip
                    go_wp2_with (go_at_call 34; go_must (refine (ack34_any 5 1 3 0 _).mono ?_); rintro r u1 ⟨rfl, hB1⟩)
                    have HR := Lib.hid (HR.out.call hB1)
                    clear hB1
                    refine anyI_one' 0 rfl (by kernel_rfl) ((by trivial)) (fun Kd hKd => ?_)
                    have q9 := HM8.out.k.below HR.out.below HM8.out.k.lt
                    try unfold Z47 at q9
                    try unfold Z26 at q9
                    have a0 := q9.cell 0 (v := .int .i64 kM.life) rfl
                    have a1 := q9.cell 1 (v := .int .i64 kM.peer) rfl
                    have a2 := q9.cell 2 (v := .int .i64 kM.phase) rfl
                    have a3 := q9.cell 3 (v := .int .i64 kM.base) rfl
                    have a4 := q9.cell 4 (v := .slice none kM.out.length 0) rfl
                    have a5 := q9.cell 5 (v := .int .i64 kM.want) rfl
                    have a6 := q9.cell 6 (v := .slice none kM.inn.length 0) rfl
                    have al := q9.lt
                    clear q9
                    have q9 := HM8.out.k
                    have v0 := q9.cell 0 (v := .int .i64 kM.life) rfl
                    have v1 := q9.cell 1 (v := .int .i64 kM.peer) rfl
                    have v2 := q9.cell 2 (v := .int .i64 kM.phase) rfl
                    have v3 := q9.cell 3 (v := .int .i64 kM.base) rfl
                    have v4 := q9.cell 4 (v := .slice none kM.out.length 0) rfl
                    have v5 := q9.cell 5 (v := .int .i64 kM.want) rfl
                    have v6 := q9.cell 6 (v := .slice none kM.inn.length 0) rfl
                    have vl := q9.lt
                    clear q9
                    go_wp2
                    clear a0 a1 a2 a3 a4 a5 a6 al v0 v1 v2 v3 v4 v5 v6 vl
                    refine anyI_one' 2 rfl (by kernel_rfl) ((by trivial)) (fun Kd hKd => ?_)
                    go_wp2_with (go_at_call 20; go_must (refine (take_any kM none 0 none 0 kP4 _ (HM8.out.en.at_.below HR.out.below) HM8.out.en.nl (by decide)).mono ?_); rintro r ut ⟨A', c', D', d', P', cp', T', ct', L', cl', rfl, hpost⟩)
                    rw [HR4.out] at hpost ⊢
                    obtain ⟨hto, hbt⟩ := to_of' hpost
                    have HTO := Lib.hid hto
                    have HT := Lib.hid (Rt.start HR.out hbt)
                    have HS0 := Lib.hid HR.out.below.size
                    clear hpost hto hbt
                    apply anyI_step 3 rfl (by kernel_rfl)
                    focus (intro wI hI Kv hKv; go_simp; exact hKv)
                    intro Kd hKd
                    go_simp
                    refine hKd _ ?_
                    clear hKd Kd
                    apply anyI_step 4 rfl (by kernel_rfl)
                    focus (intro wI hI Kv hKv; go_simp; exact hKv)
                    intro Kd hKd
                    go_simp
                    refine hKd _ ?_
                    clear hKd Kd
                    apply anyI_step 5 rfl (by kernel_rfl)
                    focus (intro wI hI Kv hKv; go_simp; exact hKv)
                    intro Kd hKd
                    go_simp
                    refine hKd _ ?_
                    clear hKd Kd
                    apply anyI_step 6 rfl (by kernel_rfl)
                    focus (intro wI hI Kv hKv; go_simp; exact hKv)
                    intro Kd hKd
                    go_simp
                    refine hKd _ ?_
                    clear hKd Kd
                    have HK6 := Lib.hid (HG7.out.below HT.out.rg.below HG7.out.lt)
                    have HK5 : Hid (Blk _ _ (.cells (enB noEn none 0 none 0) 26)) := (HT.out.rg.k5 _ rfl).2
                    have HF := Lib.hid (known_end d' cp' HBc.out HT.out.rg.below HT.out.ut HK5.out HK6.out (HT.out.s5 _ rfl) (.inl (by have := HS0.out; have := HG7.out.lt; omega)) (Nat.le_trans HBc.out.size (HT.out.rg.k5 _ rfl).1) H7W.out HTO.out)
                    refine anyI_one' 8 rfl (by kernel_rfl) ((by trivial)) (fun Kd hKd => ?_)
                    refine wpList_store26 rfl _ _ rfl HK5.out rfl rfl ?_
                    refine ⟨rfl, hKd _ _ ?_⟩
                    clear hKd Kd
                    refine anyI_one' 9 rfl (by kernel_rfl) ((by trivial)) (fun Kd hKd => ?_)
                    refine wpList_store47 rfl _ _ rfl HF.out.h6 rfl rfl ?_
                    refine ⟨rfl, hKd _ _ ?_⟩
                    clear hKd Kd
                    apply anyI_step 10 rfl (by kernel_rfl)
                    focus (intro wI hI Kv hKv; go_simp; exact hKv)
                    intro Kd hKd
                    go_simp
                    refine hKd _ ?_
                    clear hKd Kd
                    refine anyI_end (by kernel_rfl) (trivial) (hQd _ _ ?_)
                    clear hQd Qd
                    go_wp2_with fail
                    go_meet
                    exact ⟨V.heap.size, A', c', D', d', P', cp', T', ct', L', cl', congrArg (Value.int .i64) K5.out.1, rfl, HF.out.tj, HF.out.below⟩
              case rest =>
                obtain ⟨b9, A6, c6, D6, d6, P6, cp6, T6, ct6, L6, cl6, rfl, rfl, htj, hbx⟩ := hcut
                obtain ⟨Y, rfl⟩ : ∃ Y, Y = wc := ⟨wc, rfl⟩
                have HBc : Hid (Below w.heap.size w Y) := hbx
                have q9 := htj.k5
                have e1 := q9.cell 1 (v := .int .i64 R4.1.peer) rfl
                have e2 := q9.cell 2 (v := .int .i64 R4.1.phase) rfl
                have l9 := q9.lt
                have q8 := htj.k6
                have c0 := q8.cell 0 (v := .slice P6 R4.2.1.packets.length cp6) rfl
                have x1 := q8.cell 1 (v := .slice T6 R4.2.1.taken.length ct6) rfl
                have x2 := q8.cell 2 (v := .slice L6 R4.2.1.lost.length cl6) rfl
                have l7 := q8.lt
                rw [K5.out.2.1] at e1
                rw [K5.out.2.2.1] at e2
                rw [K5.out.2.2.2.1] at c0
                rw [K5.out.2.2.2.2.1] at x1
                rw [K5.out.2.2.2.2.2] at x2
                clear htj hbx q9 q8 HG7 HM8
                go_wp2_with fail
                refine (quiet_any none 0 [] none 0 [] Y (Cells.nil _ _) (Cells.nil _ _)).mono ?_
                rintro r v2 ⟨EA', ce, WA, cw, TA, ct', es, zs, rfl, hln, hB⟩
                clear hln
                have HBc : Hid (Below w.heap.size w v2) := below_in HBc.out hB
                obtain ⟨Q, HQ⟩ : ∃ Q, Hid (quietA [] [] = Q) := ⟨_, rfl⟩
                have HK6 := Lib.hid k6_ok
                rw [HQ.out] at HK6 ⊢
                have n0 : Q.2.1 = 6 := by rw [HK6.out]
                have n1 : Q.2.2 = 0 := by rw [HK6.out]
                rw [n0, n1]
                unfold lnV
                clear hB e1 e2 c0 x1 x2 l9 l7 n0 n1
                go_wp2_with fail
                obtain ⟨Z, hZ⟩ : ∃ Z, v2.alloc (.cells #[.slice EA' Q.1.ends.length ce, .slice WA Q.1.wire.length cw, .slice TA Q.1.tales.length ct'] 59) = Z := ⟨_, rfl⟩
                have HBZ : Hid (Below w.heap.size w Z) := by rw [← hZ]; exact HBc.out.alloc HBc.out.size _
                rw [hZ]
                refine (works_any Z).mono ?_
                rintro r v5 ⟨rfl, hB5⟩
                have HB5 : Hid (Below w.heap.size w v5) := below_in HBZ.out hB5
                go_wp2
                go_ret
                exact ⟨rfl, HB5.out⟩
end Go.Proofs.Ytejabnoidhlfaaa
