/- SessTakes returns true. No condition. -/
import Derived.Test.YtejabnoidhlfaaaS42
import Derived.Test.YtejabnoidhlfaaaS22
import Derived.Test.YtejabnoidhlfaaaT3
import Derived.Test.YtejabnoidhlfaaaS49
import Derived.Test.YtejabnoidhlfaaaS33
import Derived.Test.YtejabnoidhlfaaaS54
import Derived.Test.YtejabnoidhlfaaaRows

/- Contract of the reference: SameGain, of equal gains. -/
namespace Go.Proofs.Ytejabnoidhlfaaa
open Go.RowKit Go.Maps

set_option maxRecDepth 100000 in
set_option maxHeartbeats 8000000 in
theorem same_gain (g : Gn) (P : Option Addr) (cp : Nat) (T : Option Addr) (ct : Nat) (L : Option Addr) (cl : Nat) (P' : Option Addr) (cp' : Nat) (T' : Option Addr) (ct' : Nat) (L' : Option Addr) (cl' : Nat) (w : World) (h : GnAt w g P T L) (h' : GnAt w g P' T' L') :
    Calls Try.prog 22 #[gnV g P cp T ct L cl, gnV g P' cp' T' ct' L' cl'] w fun r w' => r = .returned (.bool true) ∧ Below w.heap.size w w' := by
  have HA := Lib.hid h
  have HB := Lib.hid h'
  clear h h'
  unfold gnV
  go_enter Try.func22, Try.ntmps22
  obtain ⟨W, hW⟩ : ∃ W, (w.alloc (.cells #[.slice P g.packets.length cp, .slice T g.taken.length ct, .slice L g.lost.length cl] 47)).alloc (.cells #[.slice P' g.packets.length cp', .slice T' g.taken.length ct', .slice L' g.lost.length cl'] 47) = W := ⟨_, rfl⟩
  have HBW : Hid (Below w.heap.size w W) := by rw [← hW]; exact ((Below.refl _ w).alloc (Nat.le_refl _) _).alloc (by simp) _
  have HK1 : Hid (Blk W w.heap.size (.cells (gnB g P cp T ct L cl) 47)) := by rw [← hW]; exact (Blk.new _ _).alloc _
  have HK2 : Hid (Blk W (w.heap.size + 1) (.cells (gnB g P' cp' T' ct' L' cl') 47)) := by
    rw [← hW]
    have e1 := Blk.new (w.alloc (.cells (gnB g P cp T ct L cl) 47)) (.cells (gnB g P' cp' T' ct' L' cl') 47)
    rw [World.size_alloc] at e1
    exact e1
  have q9 := HK1.out
  have x0 := q9.cell 0 (v := .slice P g.packets.length cp) rfl
  have x1 := q9.cell 1 (v := .slice T g.taken.length ct) rfl
  have x2 := q9.cell 2 (v := .slice L g.lost.length cl) rfl
  have xl := q9.lt
  clear q9
  have q9 := HK2.out
  have y0 := q9.cell 0 (v := .slice P' g.packets.length cp') rfl
  have y1 := q9.cell 1 (v := .slice T' g.taken.length ct') rfl
  have y2 := q9.cell 2 (v := .slice L' g.lost.length cl') rfl
  have yl := q9.lt
  clear q9
  go_wp2_with fail
  clear hW
  refine (same_packets P cp g.packets P' cp' g.packets W (HA.out.p.below HBW.out (Nat.le_refl _)) (HB.out.p.below HBW.out (Nat.le_refl _))).mono ?_
  rintro r w1 ⟨rfl, hB1⟩
  rw [decide_eq_true rfl]
  have HB1 : Hid (Below w.heap.size w w1) := below_in HBW.out hB1
  have HK1 := Lib.hid (HK1.out.below hB1 HK1.out.lt)
  have HK2 := Lib.hid (HK2.out.below hB1 HK2.out.lt)
  clear hB1 x0 x1 x2 xl y0 y1 y2 yl
  have q9 := HK1.out
  have x0 := q9.cell 0 (v := .slice P g.packets.length cp) rfl
  have x1 := q9.cell 1 (v := .slice T g.taken.length ct) rfl
  have x2 := q9.cell 2 (v := .slice L g.lost.length cl) rfl
  have xl := q9.lt
  clear q9
  have q9 := HK2.out
  have y0 := q9.cell 0 (v := .slice P' g.packets.length cp') rfl
  have y1 := q9.cell 1 (v := .slice T' g.taken.length ct') rfl
  have y2 := q9.cell 2 (v := .slice L' g.lost.length cl') rfl
  have yl := q9.lt
  clear q9
  go_wp2_with fail
  refine (same_texts T ct g.taken T' ct' g.taken w1 (HA.out.t.below HB1.out (Nat.le_refl _)) (HB.out.t.below HB1.out (Nat.le_refl _))).mono ?_
  rintro r w2 ⟨rfl, hB2⟩
  rw [decide_eq_true rfl]
  have HB2 : Hid (Below w.heap.size w w2) := below_in HB1.out hB2
  have HK1 := Lib.hid (HK1.out.below hB2 HK1.out.lt)
  have HK2 := Lib.hid (HK2.out.below hB2 HK2.out.lt)
  clear hB2 x0 x1 x2 xl y0 y1 y2 yl
  have q9 := HK1.out
  have x0 := q9.cell 0 (v := .slice P g.packets.length cp) rfl
  have x1 := q9.cell 1 (v := .slice T g.taken.length ct) rfl
  have x2 := q9.cell 2 (v := .slice L g.lost.length cl) rfl
  have xl := q9.lt
  clear q9
  have q9 := HK2.out
  have y0 := q9.cell 0 (v := .slice P' g.packets.length cp') rfl
  have y1 := q9.cell 1 (v := .slice T' g.taken.length ct') rfl
  have y2 := q9.cell 2 (v := .slice L' g.lost.length cl') rfl
  have yl := q9.lt
  clear q9
  go_wp2_with fail
  refine (same_texts L cl g.lost L' cl' g.lost w2 (HA.out.l.below HB2.out (Nat.le_refl _)) (HB.out.l.below HB2.out (Nat.le_refl _))).mono ?_
  rintro r w3 ⟨rfl, hB3⟩
  rw [decide_eq_true rfl]
  have HB3 : Hid (Below w.heap.size w w3) := below_in HB2.out hB3
  go_wp2
  go_ret
  exact ⟨rfl, HB3.out⟩
end Go.Proofs.Ytejabnoidhlfaaa

/- The walk of SessTakes. -/
namespace Go.Proofs.Ytejabnoidhlfaaa
open Go.RowKit Go.Maps

theorem wf_good {e : En} (h : GoodP e) : Wf e := by
  have hb := h.base
  have hr := h.room
  have hw := h.want
  have hi := h.ins
  unfold most at hr hw
  refine ⟨by unfold inI; omega, fun x hx => ?_⟩
  have h1 := hi.1.gt x hx
  have h2 := (hi.2 x hx).2.1
  unfold most at h2
  unfold inI
  omega
theorem take_ok_good {e : En} {p : Pk} (h : (takeA e p).2.2 = 0) : goodB (takeA e p).1 = true := by
  cases hb : (goodB e && properB p) with
  | false =>
    rw [tk_bad hb] at h
    exact absurd h (by decide)
  | true =>
    rw [Bool.and_eq_true] at hb
    exact take_good hb.1 hb.2
theorem take_err {e : En} {p : Pk} : (takeA e p).2.2 = 0 ∨ (takeA e p).2.2 = 2 := by
  cases hb : (goodB e && properB p) with
  | false => rw [tk_bad hb]; exact .inr rfl
  | true =>
    unfold takeA
    rw [hb]
    simp only [Bool.true_eq_false, if_false]
    split <;> exact .inl rfl
set_option maxRecDepth 100000 in
set_option maxHeartbeats 16000000 in
theorem walk_takes (e : En) (A : Option Addr) (c : Nat) (D : Option Addr) (d : Nat) (p : Pk) (w : World) (h : EnAt w e A D) (hwf : Wf e) (hA : A = none → e.out.length = 0 ∧ c = 0) (hD : D = none → e.inn.length = 0 ∧ d = 0) : Calls Try.prog 5 #[enV e A c D d, pkV p] w fun r w' => r = .returned (.bool true) ∧ Below w.heap.size w w' := by
  have HE := Lib.hid h
  have HWF := Lib.hid hwf
  have HA := Lib.hid hA
  have HD := Lib.hid hD
  clear h hwf hA hD
  unfold enV pkV
  go_enter Try.func5, Try.ntmps5
  obtain ⟨W, hW⟩ : ∃ W, (w.alloc (.cells #[.int .i64 e.life, .int .i64 e.peer, .int .i64 e.phase, .int .i64 e.base, .slice A e.out.length c, .int .i64 e.want, .slice D e.inn.length d] 26)).alloc (.cells #[.int .i64 p.kind, .int .i64 p.frm, .int .i64 p.to, .int .i64 p.num, .string p.t, .int .i64 p.ack, .int .i64 p.held] 44) = W := ⟨_, rfl⟩
  have HBW : Hid (Below w.heap.size w W) := by rw [← hW]; exact ((Below.refl _ w).alloc (Nat.le_refl _) _).alloc (by simp) _
  have HKW : Hid (Blk W w.heap.size (.cells (enB e A c D d) 26)) := by rw [← hW]; exact (Blk.new _ _).alloc _
  have HPW : Hid (Blk W (w.heap.size + 1) (.cells (pkB p) 44)) := by
    rw [← hW]
    have e1 := Blk.new (w.alloc (.cells (enB e A c D d) 26)) (.cells (pkB p) 44)
    rw [World.size_alloc] at e1
    exact e1
  have q9 := HKW.out
  have x0 := q9.cell 0 (v := .int .i64 e.life) rfl
  have x1 := q9.cell 1 (v := .int .i64 e.peer) rfl
  have x2 := q9.cell 2 (v := .int .i64 e.phase) rfl
  have x3 := q9.cell 3 (v := .int .i64 e.base) rfl
  have x4 := q9.cell 4 (v := .slice A e.out.length c) rfl
  have x5 := q9.cell 5 (v := .int .i64 e.want) rfl
  have x6 := q9.cell 6 (v := .slice D e.inn.length d) rfl
  have xl := q9.lt
  clear q9
  go_wp2_with fail
  refine (wide_any e A c D d W (HE.out.below HBW.out)).mono ?_
  rintro r w1 ⟨⟨b, rfl⟩, hB1⟩
  have HBc : Hid (Below w.heap.size w w1) := below_in HBW.out hB1
  have HK := Lib.hid (HKW.out.below hB1 HKW.out.lt)
  have HP := Lib.hid (HPW.out.below hB1 HPW.out.lt)
  clear hB1 hW
  clear x0 x1 x2 x3 x4 x5 x6 xl
  cases b with
  | true =>
    go_wp2_with fail
    refine (works_any w1).mono ?_
    rintro r w2 ⟨rfl, hB2⟩
    have HB2 : Hid (Below w.heap.size w w2) := below_in HBc.out hB2
    go_wp2
    go_ret
    exact ⟨rfl, HB2.out⟩
  | false =>
    have q9 := HP.out
    have pp0 := q9.cell 0 (v := .int .i64 p.kind) rfl
    have pp1 := q9.cell 1 (v := .int .i64 p.frm) rfl
    have pp2 := q9.cell 2 (v := .int .i64 p.to) rfl
    have pp3 := q9.cell 3 (v := .int .i64 p.num) rfl
    have pp4 := q9.cell 4 (v := .string p.t) rfl
    have pp5 := q9.cell 5 (v := .int .i64 p.ack) rfl
    have pp6 := q9.cell 6 (v := .int .i64 p.held) rfl
    have ppl := q9.lt
    clear q9
    by_cases h60 : (60 : Int) < (p.t.size : Int)
    · have q1 : decide ((60 : Int) < (p.t.size : Int)) = true := decide_eq_true h60
      go_wp2_with fail
      refine (works_any w1).mono ?_
      rintro r w2 ⟨rfl, hB2⟩
      have HB2 : Hid (Below w.heap.size w w2) := below_in HBc.out hB2
      go_wp2
      go_ret
      exact ⟨rfl, HB2.out⟩
    have q1 : decide ((60 : Int) < (p.t.size : Int)) = false := decide_eq_false h60
    have HT60 : Hid (p.t.size ≤ 1000000) := by show _ ≤ _; omega
    clear h60
    have q9 := HK.out
    have x0 := q9.cell 0 (v := .int .i64 e.life) rfl
    have x1 := q9.cell 1 (v := .int .i64 e.peer) rfl
    have x2 := q9.cell 2 (v := .int .i64 e.phase) rfl
    have x3 := q9.cell 3 (v := .int .i64 e.base) rfl
    have x4 := q9.cell 4 (v := .slice A e.out.length c) rfl
    have x5 := q9.cell 5 (v := .int .i64 e.want) rfl
    have x6 := q9.cell 6 (v := .slice D e.inn.length d) rfl
    have xl := q9.lt
    clear q9
    have HEc := Lib.hid (HE.out.below HBc.out)
    obtain ⟨R, HR⟩ : ∃ R, Hid (takeA e p = R) := ⟨_, rfl⟩
    go_wp2_with fail
    refine (take_any e A c D d p w1 HEc.out HA.out HT60.out).mono ?_
    rintro r w2 ⟨A1, c1, D1, d1, P1, cp1, T1, ct1, L1, cl1, rfl, hE1, hG1, _, _, _, _, _, _, _, _, _, hB⟩
    rw [HR.out] at hE1 hG1 ⊢
    have HE1 := Lib.hid hE1
    have HG1 := Lib.hid hG1
    have HBc : Hid (Below w.heap.size w w2) := below_in HBc.out hB
    have HK := Lib.hid (HK.out.below hB HK.out.lt)
    have HP := Lib.hid (HP.out.below hB HP.out.lt)
    clear hB hE1 hG1 q1
    clear x0 x1 x2 x3 x4 x5 x6 xl
    clear pp0 pp1 pp2 pp3 pp4 pp5 pp6 ppl
    unfold enV gnV
    go_upto_region 4 with fail
    obtain ⟨w3, hv⟩ : ∃ v, (w2.alloc (.cells #[.int .i64 R.1.life, .int .i64 R.1.peer, .int .i64 R.1.phase, .int .i64 R.1.base, .slice A1 R.1.out.length c1, .int .i64 R.1.want, .slice D1 R.1.inn.length d1] 26)).alloc (.cells #[.slice P1 R.2.1.packets.length cp1, .slice T1 R.2.1.taken.length ct1, .slice L1 R.2.1.lost.length cl1] 47) = v := ⟨_, rfl⟩
    have hbv : Below w2.heap.size w2 w3 := by rw [← hv]; exact ((Below.refl _ w2).alloc (Nat.le_refl _) _).alloc (by simp) _
    have HBv : Hid (Below w.heap.size w w3) := below_in HBc.out hbv
    have HM1 : Hid (Blk w3 w2.heap.size (.cells (enB R.1 A1 c1 D1 d1) 26)) := by rw [← hv]; exact (Blk.new _ _).alloc _
    have HN1 : Hid (Blk w3 (w2.heap.size + 1) (.cells (gnB R.2.1 P1 cp1 T1 ct1 L1 cl1) 47)) := by
      rw [← hv]
      have e1 := Blk.new (w2.alloc (.cells (enB R.1 A1 c1 D1 d1) 26)) (.cells (gnB R.2.1 P1 cp1 T1 ct1 L1 cl1) 47)
      rw [World.size_alloc] at e1
      exact e1
    rw [hv]
    clear hv HBc
    have HBc := HBv
    clear HBv
    have HK := Lib.hid (HK.out.below hbv HK.out.lt)
    have HP := Lib.hid (HP.out.below hbv HP.out.lt)
    have HE1 := Lib.hid (HE1.out.below hbv)
    have HG1 : Hid (GnAt _ _ _ _ _) := ⟨HG1.out.p.below hbv (Nat.le_refl _), HG1.out.t.below hbv (Nat.le_refl _), HG1.out.l.below hbv (Nat.le_refl _)⟩
    clear hbv
    have q9 := HK.out
    have x0 := q9.cell 0 (v := .int .i64 e.life) rfl
    have x1 := q9.cell 1 (v := .int .i64 e.peer) rfl
    have x2 := q9.cell 2 (v := .int .i64 e.phase) rfl
    have x3 := q9.cell 3 (v := .int .i64 e.base) rfl
    have x4 := q9.cell 4 (v := .slice A e.out.length c) rfl
    have x5 := q9.cell 5 (v := .int .i64 e.want) rfl
    have x6 := q9.cell 6 (v := .slice D e.inn.length d) rfl
    have xl := q9.lt
    clear q9
    have q9 := HP.out
    have pp0 := q9.cell 0 (v := .int .i64 p.kind) rfl
    have pp1 := q9.cell 1 (v := .int .i64 p.frm) rfl
    have pp2 := q9.cell 2 (v := .int .i64 p.to) rfl
    have pp3 := q9.cell 3 (v := .int .i64 p.num) rfl
    have pp4 := q9.cell 4 (v := .string p.t) rfl
    have pp5 := q9.cell 5 (v := .int .i64 p.ack) rfl
    have pp6 := q9.cell 6 (v := .int .i64 p.held) rfl
    have ppl := q9.lt
    clear q9
    have HEc := Lib.hid (HE.out.below HBc.out)
    go_wp2_with fail
    refine (rtake_any e A c D d p w3 HEc.out HWF.out HA.out HD.out).mono ?_
    rintro r w4 ⟨A2, c2, D2, d2, P2, cp2, T2, ct2, L2, cl2, rfl, hE2, hG2, hB⟩
    rw [HR.out] at hE2 hG2 ⊢
    have HE2 := Lib.hid hE2
    have HG2 := Lib.hid hG2
    have HBc : Hid (Below w.heap.size w w4) := below_in HBc.out hB
    have HM1 := Lib.hid (HM1.out.below hB HM1.out.lt)
    have HN1 := Lib.hid (HN1.out.below hB HN1.out.lt)
    have HE1 := Lib.hid (HE1.out.below hB)
    have HG1 : Hid (GnAt _ _ _ _ _) := ⟨HG1.out.p.below hB (Nat.le_refl _), HG1.out.t.below hB (Nat.le_refl _), HG1.out.l.below hB (Nat.le_refl _)⟩
    clear hB hE2 hG2
    clear x0 x1 x2 x3 x4 x5 x6 xl
    clear pp0 pp1 pp2 pp3 pp4 pp5 pp6 ppl
    unfold enV gnV
    go_upto_region 5 with fail
    obtain ⟨w5, hv⟩ : ∃ v, (w4.alloc (.cells #[.int .i64 R.1.life, .int .i64 R.1.peer, .int .i64 R.1.phase, .int .i64 R.1.base, .slice A2 R.1.out.length c2, .int .i64 R.1.want, .slice D2 R.1.inn.length d2] 26)).alloc (.cells #[.slice P2 R.2.1.packets.length cp2, .slice T2 R.2.1.taken.length ct2, .slice L2 R.2.1.lost.length cl2] 47) = v := ⟨_, rfl⟩
    have hbv : Below w4.heap.size w4 w5 := by rw [← hv]; exact ((Below.refl _ w4).alloc (Nat.le_refl _) _).alloc (by simp) _
    have HBv : Hid (Below w.heap.size w w5) := below_in HBc.out hbv
    have HM2 : Hid (Blk w5 w4.heap.size (.cells (enB R.1 A2 c2 D2 d2) 26)) := by rw [← hv]; exact (Blk.new _ _).alloc _
    have HN2 : Hid (Blk w5 (w4.heap.size + 1) (.cells (gnB R.2.1 P2 cp2 T2 ct2 L2 cl2) 47)) := by
      rw [← hv]
      have e1 := Blk.new (w4.alloc (.cells (enB R.1 A2 c2 D2 d2) 26)) (.cells (gnB R.2.1 P2 cp2 T2 ct2 L2 cl2) 47)
      rw [World.size_alloc] at e1
      exact e1
    rw [hv]
    clear hv HBc
    have HBc := HBv
    clear HBv
    have HM1 := Lib.hid (HM1.out.below hbv HM1.out.lt)
    have HN1 := Lib.hid (HN1.out.below hbv HN1.out.lt)
    have HE1 := Lib.hid (HE1.out.below hbv)
    have HG1 : Hid (GnAt _ _ _ _ _) := ⟨HG1.out.p.below hbv (Nat.le_refl _), HG1.out.t.below hbv (Nat.le_refl _), HG1.out.l.below hbv (Nat.le_refl _)⟩
    have HE2 := Lib.hid (HE2.out.below hbv)
    have HG2 : Hid (GnAt _ _ _ _ _) := ⟨HG2.out.p.below hbv (Nat.le_refl _), HG2.out.t.below hbv (Nat.le_refl _), HG2.out.l.below hbv (Nat.le_refl _)⟩
    clear hbv
    have q9 := HM1.out
    have a0 := q9.cell 0 (v := .int .i64 R.1.life) rfl
    have a1 := q9.cell 1 (v := .int .i64 R.1.peer) rfl
    have a2 := q9.cell 2 (v := .int .i64 R.1.phase) rfl
    have a3 := q9.cell 3 (v := .int .i64 R.1.base) rfl
    have a4 := q9.cell 4 (v := .slice A1 R.1.out.length c1) rfl
    have a5 := q9.cell 5 (v := .int .i64 R.1.want) rfl
    have a6 := q9.cell 6 (v := .slice D1 R.1.inn.length d1) rfl
    have al := q9.lt
    clear q9
    have q9 := HM2.out
    have b0 := q9.cell 0 (v := .int .i64 R.1.life) rfl
    have b1 := q9.cell 1 (v := .int .i64 R.1.peer) rfl
    have b2 := q9.cell 2 (v := .int .i64 R.1.phase) rfl
    have b3 := q9.cell 3 (v := .int .i64 R.1.base) rfl
    have b4 := q9.cell 4 (v := .slice A2 R.1.out.length c2) rfl
    have b5 := q9.cell 5 (v := .int .i64 R.1.want) rfl
    have b6 := q9.cell 6 (v := .slice D2 R.1.inn.length d2) rfl
    have bl := q9.lt
    clear q9
    have her : (R.2.2 != R.2.2) = false := by simp
    go_wp2_with fail
    refine (same_end R.1 A1 c1 D1 d1 R.1 A2 c2 D2 d2 w5 HE1.out HE2.out).mono ?_
    rintro r w6 ⟨rfl, hB⟩
    rw [decide_eq_true rfl]
    have HBc : Hid (Below w.heap.size w w6) := below_in HBc.out hB
    have HM1 := Lib.hid (HM1.out.below hB HM1.out.lt)
    have HN1 := Lib.hid (HN1.out.below hB HN1.out.lt)
    have HN2 := Lib.hid (HN2.out.below hB HN2.out.lt)
    have HE1 := Lib.hid (HE1.out.below hB)
    have HG1 : Hid (GnAt _ _ _ _ _) := ⟨HG1.out.p.below hB (Nat.le_refl _), HG1.out.t.below hB (Nat.le_refl _), HG1.out.l.below hB (Nat.le_refl _)⟩
    have HG2 : Hid (GnAt _ _ _ _ _) := ⟨HG2.out.p.below hB (Nat.le_refl _), HG2.out.t.below hB (Nat.le_refl _), HG2.out.l.below hB (Nat.le_refl _)⟩
    clear hB a0 a1 a2 a3 a4 a5 a6 al b0 b1 b2 b3 b4 b5 b6 bl
    have q9 := HN1.out
    have a0 := q9.cell 0 (v := .slice P1 R.2.1.packets.length cp1) rfl
    have a1 := q9.cell 1 (v := .slice T1 R.2.1.taken.length ct1) rfl
    have a2 := q9.cell 2 (v := .slice L1 R.2.1.lost.length cl1) rfl
    have al := q9.lt
    clear q9
    have q9 := HN2.out
    have b0 := q9.cell 0 (v := .slice P2 R.2.1.packets.length cp2) rfl
    have b1 := q9.cell 1 (v := .slice T2 R.2.1.taken.length ct2) rfl
    have b2 := q9.cell 2 (v := .slice L2 R.2.1.lost.length cl2) rfl
    have bl := q9.lt
    clear q9
    go_wp2_with fail
    refine (same_gain R.2.1 P1 cp1 T1 ct1 L1 cl1 P2 cp2 T2 ct2 L2 cl2 w6 HG1.out HG2.out).mono ?_
    rintro r w7 ⟨rfl, hB⟩
    have HBc : Hid (Below w.heap.size w w7) := below_in HBc.out hB
    have HM1 := Lib.hid (HM1.out.below hB HM1.out.lt)
    have HE1 := Lib.hid (HE1.out.below hB)
    clear hB a0 a1 a2 al b0 b1 b2 bl
    have q9 := HM1.out
    have a0 := q9.cell 0 (v := .int .i64 R.1.life) rfl
    have a1 := q9.cell 1 (v := .int .i64 R.1.peer) rfl
    have a2 := q9.cell 2 (v := .int .i64 R.1.phase) rfl
    have a3 := q9.cell 3 (v := .int .i64 R.1.base) rfl
    have a4 := q9.cell 4 (v := .slice A1 R.1.out.length c1) rfl
    have a5 := q9.cell 5 (v := .int .i64 R.1.want) rfl
    have a6 := q9.cell 6 (v := .slice D1 R.1.inn.length d1) rfl
    have al := q9.lt
    clear q9
    by_cases hok : R.2.2 = 0
    · have q2 : (R.2.2 != 0) = false := by simp [hok]
      have HGD : Hid (goodB R.1 = true) := by
        show _ = _
        rw [← HR.out]
        exact take_ok_good (by rw [HR.out]; exact hok)
      clear hok
      go_wp2_with fail
      refine (good_any R.1 A1 c1 D1 d1 w7 HE1.out (wf_good (good_iff.1 HGD.out))).mono ?_
      rintro r w8 ⟨rfl, hB⟩
      rw [HGD.out]
      have HBc : Hid (Below w.heap.size w w8) := below_in HBc.out hB
      clear hB
      go_wp2_with fail
      refine (works_any w8).mono ?_
      rintro r w9 ⟨rfl, hB⟩
      have HBc : Hid (Below w.heap.size w w9) := below_in HBc.out hB
      go_wp2
      go_ret
      exact ⟨rfl, HBc.out⟩
    · have q2 : (R.2.2 != 0) = true := by simpa using hok
      clear hok
      go_wp2_with fail
      refine (works_any w7).mono ?_
      rintro r w9 ⟨rfl, hB⟩
      have HBc : Hid (Below w.heap.size w w9) := below_in HBc.out hB
      go_wp2
      go_ret
      exact ⟨rfl, HBc.out⟩
end Go.Proofs.Ytejabnoidhlfaaa

/- A packet as an argument. -/
namespace Go.Proofs.Ytejabnoidhlfaaa
open Go.ChangeShapes Go.WideShapes Go.ChangeAt Go.RowKit

section
variable {H : Type} {enc : TypeId × Value → H} {w : World} {r : Reach} {b0 : Nat}
theorem c42 : Try.prog.cellsOf 42 = 1 := by kernel_rfl
set_option maxRecDepth 100000 in
theorem arg_pk {v : Value} {d : DataW H} {p : List MemPlace} (hv : Value.okWide Try.prog w r b0 44 v) (h : DataW.Trod enc Try.prog w 0 (fun _ => true) true 44 v d p) : ∃ x : Pk, v = pkV x := by
  obtain ⟨cs, rfl, hsz⟩ := okWide_struct Try.underlying44 hv
  obtain ⟨fuel, hf⟩ := h
  obtain ⟨xs, n, _, hx, hl, hxl, hfs⟩ := DataW.trod_struct Try.underlying44 hf
  rw [c44] at hsz
  obtain ⟨cl⟩ := cs
  match cl, hsz with
  | [a0, a1, a2, a3, a4, a5, a6], _ =>
    match xs, hxl with
    | [y0, y1, y2, y3, y4, y5, y6], _ =>
      have g : ∀ (i : Nat) (f : Field) (ty : TypeId) (u : Value) (y : DataW H × List MemPlace), (#[{ name := "Kind", type := 42, offset := 0, embedded := false, tag := "", pkgPath := "", byteOffset := 0 }, { name := "From", type := 3, offset := 1, embedded := false, tag := "", pkgPath := "", byteOffset := 8 }, { name := "To", type := 3, offset := 2, embedded := false, tag := "", pkgPath := "", byteOffset := 16 }, { name := "Num", type := 3, offset := 3, embedded := false, tag := "", pkgPath := "", byteOffset := 24 }, { name := "Text", type := 9, offset := 4, embedded := false, tag := "", pkgPath := "", byteOffset := 32 }, { name := "Ack", type := 3, offset := 5, embedded := false, tag := "", pkgPath := "", byteOffset := 48 }, { name := "Held", type := 3, offset := 6, embedded := false, tag := "", pkgPath := "", byteOffset := 56 }] : Array Field)[i]? = some f → f.type = ty → Try.prog.cellsOf ty = 1 → (([a0, a1, a2, a3, a4, a5, a6].drop f.offset).take 1) = [u] → [y0, y1, y2, y3, y4, y5, y6][i]? = some y →
          DataW.trod enc Try.prog w 0 (fun _ => true) true n ty [u] = some (y.1, y.2) := by
        intro i f ty u y hi ht hc hu hy
        have h1 := hfs i f hi
        rw [ht, hc] at h1
        have h2 : ((Value.agg ⟨[a0, a1, a2, a3, a4, a5, a6]⟩).cells.toList.drop f.offset).take 1 = [u] := hu
        rw [h2, hy] at h1
        exact h1
      have g0 := g 0 _ 42 a0 y0 rfl rfl c42 rfl rfl
      have g1 := g 1 _ 3 a1 y1 rfl rfl c3 rfl rfl
      have g2 := g 2 _ 3 a2 y2 rfl rfl c3 rfl rfl
      have g3 := g 3 _ 3 a3 y3 rfl rfl c3 rfl rfl
      have g4 := g 4 _ 9 a4 y4 rfl rfl c9 rfl rfl
      have g5 := g 5 _ 3 a5 y5 rfl rfl c3 rfl rfl
      have g6 := g 6 _ 3 a6 y6 rfl rfl c3 rfl rfl
      obtain ⟨x0, e0, _, _⟩ := DataW.trod_int Try.underlying42 g0
      obtain ⟨x1, e1, _⟩ := rdInt _ _ _ _ g1
      obtain ⟨x2, e2, _⟩ := rdInt _ _ _ _ g2
      obtain ⟨x3, e3, _⟩ := rdInt _ _ _ _ g3
      obtain ⟨x4, e4⟩ := rdStr _ _ _ _ g4
      obtain ⟨x5, e5, _⟩ := rdInt _ _ _ _ g5
      obtain ⟨x6, e6, _⟩ := rdInt _ _ _ _ g6
      injection e0 with e0 _
      injection e1 with e1 _
      injection e2 with e2 _
      injection e3 with e3 _
      injection e4 with e4 _
      injection e5 with e5 _
      injection e6 with e6 _
      subst e0 e1 e2 e3 e4 e5 e6
      exact ⟨⟨x0, x1, x2, x3, x4, x5, x6⟩, rfl⟩
end
end Go.Proofs.Ytejabnoidhlfaaa

/- SessTakes returns true at every end and packet, and leaves its arguments as they were. No condition. -/
namespace Go.Proofs.Ytejabnoidhlfaaa
open Go.ChangeShapes Go.WideShapes Go.ChangeAt Go.RowKit

theorem own_takes : ownKnob Try.prog.godebug = none := by kernel_rfl
theorem laid_takes : laidOutB Try.prog = true := by kernel_rfl

set_option maxRecDepth 100000 in
theorem lifted_takes (os : Os) (started : os.Started) (H : Type) (enc : TypeId × Value → H) :
    ReturnsInHanded {} Try.checked os 5 .any (Rows.sessTakesSpec.pre6 enc Try.prog Try.f5 Rows.sessTakesRow.domain false) (Rows.sessTakesSpec.post enc Try.prog Try.f5 false true false false) := by
  refine returnsInHanded_of_change_sized (C := Try.checked) own_takes started (by kernel_rfl) Try.func5
    (ChangeSpec.witness6 (enc := enc) (C := Try.checked) false ⟨#[], #[.agg #[.int .i64 0, .int .i64 0, .int .i64 0, .int .i64 0, .slice none 0 0, .int .i64 0, .slice none 0 0], .agg #[.int .i64 0, .int .i64 0, .int .i64 0, .int .i64 0, .string ByteArray.empty, .int .i64 0, .int .i64 0]], []⟩ 8 (by kernel_rfl) (by kernel_rfl) (by kernel_rfl) (by kernel_rfl)) ?_
  intro W base args ds gs before hval0 hW hcnd hsz0 _
  have hval : ∀ (j : Nat) t v, Try.f5.params[j]? = some t → args[j]? = some v → Value.okWide Try.prog W .any base t v := hval0
  have hsz : (DataW.weightsEach Try.prog (Try.f5.params.toList ++ Rows.sessTakesSpec.plain.varTypes Try.prog) (ds ++ gs)).all (· ≤ reachBytes) = true := hsz0
  have hW' := hW
  obtain ⟨p, q, hA0, hV, rfl, hfz, hnd⟩ := hW
  have hA : DataW.TrodAll enc Try.prog W 0 (fun _ => true) true Try.f5.params.toList args.toList ds p := hA0
  rw [Try.params5] at hA hval hsz
  obtain ⟨v0, vs0, d0, ds0, p0, q0, hargs, rfl, rfl, h0, r0⟩ := trodAll_cons hA
  obtain ⟨v1, vs1, d1, ds1, p1, q1, rfl, rfl, rfl, h1, r1⟩ := trodAll_cons r0
  obtain ⟨rfl, rfl, rfl⟩ := trodAll_nil r1
  obtain rfl : args = #[v0, v1] := by cases args; simp_all
  obtain ⟨rfl, rfl⟩ := trodVars_none hV
  have s0 : sz Try.prog 26 d0 := sz_arg hsz (j := 0) rfl rfl
  obtain ⟨e0, A0, c0, D0, f0, rfl, hC0, hw0, hn0⟩ := arg_en (hval 0 26 v0 rfl rfl) h0 s0
  have k0 := h0
  have lt0 : ∀ x ∈ p0, x.block < W.heap.size := by obtain ⟨m, hm⟩ := k0; exact DataW.trod_lt m _ _ _ hm
  obtain ⟨x1, rfl⟩ := arg_pk (hval 1 44 v1 rfl rfl) h1
  have k1 := h1
  have lt1 : ∀ x ∈ p1, x.block < W.heap.size := by obtain ⟨m, hm⟩ := k1; exact DataW.trod_lt m _ _ _ hm
  clear hA0 hval0
  refine (walk_takes e0 A0 c0 D0 f0 x1 W hC0 hw0 hn0.1 hn0.2).mono fun e W' ⟨he, bel⟩ => ?_
  subst he
  exact ⟨_, rfl, _, _, _, [], _, [], hW', trodAll_mk1 (shut_bool Try.underlying4 _), (trodAll_cons_mk (Below.trod laid_takes (by kernel_rfl) (of_decide_eq_true (by kernel_rfl)) k0 bel lt0) (trodAll_cons_mk (Below.trod laid_takes (by kernel_rfl) (of_decide_eq_true (by kernel_rfl)) k1 bel lt1) trodAll_mk0)), rfl, bel.frame _, fun h => by cases h⟩

theorem takes_holds : Rows.SessTakesSaid :=
  OpenClaim.holds_of_wide 5 Try.f5 rfl rfl rfl rfl rfl rfl rfl ⟨rfl, rfl, rfl, rfl, rfl⟩ rfl rfl rfl rfl rfl (by kernel_rfl) Try.func5 (by kernel_rfl)
    (of_decide_eq_true (by kernel_rfl)) (by unfold Func.isWrapper; first | (rw [if_pos (by decide +kernel)]; kernel_rfl) | (rw [if_neg (by decide +kernel)]; exact ⟨rfl, rfl⟩))
    (fun os started H enc _ => lifted_takes os started H enc)
#print axioms takes_holds
end Go.Proofs.Ytejabnoidhlfaaa
