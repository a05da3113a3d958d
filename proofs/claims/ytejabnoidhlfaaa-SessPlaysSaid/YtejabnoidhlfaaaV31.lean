/- Contracts and lemmas that the claim uses. -/
import Derived.Test.YtejabnoidhlfaaaV28
import Derived.Test.YtejabnoidhlfaaaV30
set_option maxRecDepth 100000
set_option maxHeartbeats 16000000
namespace Go.Proofs.Ytejabnoidhlfaaa
open Go.RowKit Go.Maps
theorem stood116 : Try.prog.stoodInHeld 116 = false := by kernel_rfl
theorem neq116 (x : Tp) (w : World) : (binOp .neq 116 (.agg #[.int .i64 x.to, .int .i64 x.p.kind, .int .i64 x.p.frm, .int .i64 x.p.to, .int .i64 x.p.num, .string x.p.t, .int .i64 x.p.ack, .int .i64 x.p.held]) (.agg #[.int .i64 x.to, .int .i64 x.p.kind, .int .i64 x.p.frm, .int .i64 x.p.to, .int .i64 x.p.num, .string x.p.t, .int .i64 x.p.ack, .int .i64 x.p.held])).run Try.prog w = .ok (.bool false) w := by
 have hst := stood116; have hst2 := stood44; go_simp
theorem tp_at {w : World} {A : Option Addr} {l : List Tp} {c k : Nat} (h : Cells w A (tps l)) (hk : k < l.length) : ∃ x b o, l[k]? = some x ∧ b < w.heap.size ∧ (∀ w', (Instr.indexAt 56 (.slice A l.length c) (.int .i64 (k : Int))).run Try.prog w' = .ok (.pointer (some ⟨b, o, none⟩)) w') ∧
  w.cell? ⟨b, o, none⟩ = some (.int .i64 x.to) ∧ w.cell? ⟨b, o + 1, none⟩ = some (.int .i64 x.p.kind) ∧ w.cell? ⟨b, o + 2, none⟩ = some (.int .i64 x.p.frm) ∧ w.cell? ⟨b, o + 3, none⟩ = some (.int .i64 x.p.to) ∧
  w.cell? ⟨b, o + 4, none⟩ = some (.int .i64 x.p.num) ∧ w.cell? ⟨b, o + 5, none⟩ = some (.string x.p.t) ∧ w.cell? ⟨b, o + 6, none⟩ = some (.int .i64 x.p.ack) ∧ w.cell? ⟨b, o + 7, none⟩ = some (.int .i64 x.p.held) := by
 obtain ⟨x, b, o, hx, hb, hix, hc⟩ := flat_at (c := c) h tpC_len Try.underlying56 rTp.size_eq (by decide) hk; exact ⟨x, b, o, hx, hb, hix, hc 0 _ rfl, hc 1 _ rfl, hc 2 _ rfl, hc 3 _ rfl, hc 4 _ rfl, hc 5 _ rfl, hc 6 _ rfl, hc 7 _ rfl⟩
theorem tz_at {w : World} {A : Option Addr} {l : List Tz} {c k : Nat} (h : Cells w A (tzs l)) (hk : k < l.length) : ∃ z b o, l[k]? = some z ∧ b < w.heap.size ∧ (∀ w', (Instr.indexAt 57 (.slice A l.length c) (.int .i64 (k : Int))).run Try.prog w' = .ok (.pointer (some ⟨b, o, none⟩)) w') ∧
  w.cell? ⟨b, o, none⟩ = some (.int .i64 z.v.end_) ∧ w.cell? ⟨b, o + 1, none⟩ = some (.int .i64 z.v.life) ∧ w.cell? ⟨b, o + 2, none⟩ = some (.int .i64 z.v.peer) ∧ w.cell? ⟨b, o + 3, none⟩ = some (.slice z.S z.v.sent.length z.cs) ∧
  w.cell? ⟨b, o + 4, none⟩ = some (.slice z.L z.v.lost.length z.cl) ∧ w.cell? ⟨b, o + 5, none⟩ = some (.slice z.K z.v.taken.length z.ck) := by
 obtain ⟨x, b, o, hx, hb, hix, hc⟩ := flat_at (c := c) h tzC_len Try.underlying57 rTz.size_eq (by decide) hk; exact ⟨x, b, o, hx, hb, hix, hc 0 _ rfl, hc 1 _ rfl, hc 2 _ rfl, hc 3 _ rfl, hc 4 _ rfl, hc 5 _ rfl⟩
theorem same_line (x : Ln) (B : Nat) (EA : Option Addr) (ce : Nat) (WA : Option Addr) (cw : Nat) (TA : Option Addr) (ct : Nat) (es : List Ez) (zs : List Tz) (B' : Nat) (EB : Option Addr) (de : Nat) (WB : Option Addr) (dw : Nat) (TB : Option Addr) (dt : Nat) (es' : List Ez) (zs' : List Tz) (w : World) (h : LnAt w B x EA WA TA es zs) (h' : LnAt w B' x EB WB TB es' zs') :
  Calls Try.prog 29 #[lnV x EA ce WA cw TA ct, lnV x EB de WB dw TB dt] w fun r w' => r = .returned (.bool true) ∧ Below w.heap.size w w' := by
 have he : x.ends.length = es.length := by rw [← h.ev, List.length_map]
 have he' : x.ends.length = es'.length := by rw [← h'.ev, List.length_map]
 have ht : x.tales.length = zs.length := by rw [← h.tv, List.length_map]
 have ht' : x.tales.length = zs'.length := by rw [← h'.tv, List.length_map]
 obtain ⟨wi, hwi⟩ : ∃ l, x.wire = l := ⟨_, rfl⟩; have HA := Lib.hid h; have HB := Lib.hid h'; have hee : es.length = es'.length := by omega
 have htt : zs.length = zs'.length := by omega
 have e1 : lnV x EA ce WA cw TA ct = .agg #[.slice EA es.length ce, .slice WA wi.length cw, .slice TA zs.length ct] := by unfold lnV; rw [he, ht, hwi]
 have e2 : lnV x EB de WB dw TB dt = .agg #[.slice EB es'.length de, .slice WB wi.length dw, .slice TB zs'.length dt] := by unfold lnV; rw [he', ht', hwi]
 have HWI := Lib.hid hwi; have HEE := Lib.hid hee; have HTT := Lib.hid htt; rw [e1, e2]; have hL1 : es.length * 7 ≤ 17592186043904 := by have := h.ends.1; rw [ezs_len] at this; exact this
 have hL2 : wi.length * 8 ≤ 17592186043904 := by have := h.wire.1; rw [tps_len, hwi] at this; exact this
 have hL3 : zs.length * 6 ≤ 17592186043904 := by have := h.tales.1; rw [tzs_len] at this; exact this
 have HL1 := Lib.hid hL1; have HL2 := Lib.hid hL2; have HL3 := Lib.hid hL3; have q1 : ((es.length : Int) != (es'.length : Int)) = false := by simp [hee]
 have q2 : ((wi.length : Int) != (wi.length : Int)) = false := by simp
 have q3 : ((zs.length : Int) != (zs'.length : Int)) = false := by simp [htt]
 clear h h' he he' ht ht' hwi hee htt e1 e2 hL1 hL2 hL3; go_enter Try.func29, Try.ntmps29
 obtain ⟨W, hW⟩ : ∃ W, (w.alloc (.cells #[.slice EA es.length ce, .slice WA wi.length cw, .slice TA zs.length ct] 59)).alloc (.cells #[.slice EB es'.length de, .slice WB wi.length dw, .slice TB zs'.length dt] 59) = W := ⟨_, rfl⟩; have HBW : Hid (Below w.heap.size w W) := by rw [← hW]; exact ((Below.refl _ w).alloc (Nat.le_refl _) _).alloc (by simp) _
 have HK1 : Hid (Blk W w.heap.size (.cells #[.slice EA es.length ce, .slice WA wi.length cw, .slice TA zs.length ct] 59)) := by rw [← hW]; exact (Blk.new _ _).alloc _
 have HK2 : Hid (Blk W (w.heap.size + 1) (.cells #[.slice EB es'.length de, .slice WB wi.length dw, .slice TB zs'.length dt] 59)) := by
  rw [← hW]; have e1 := Blk.new (w.alloc (.cells #[.slice EA es.length ce, .slice WA wi.length cw, .slice TA zs.length ct] 59)) (.cells #[.slice EB es'.length de, .slice WB wi.length dw, .slice TB zs'.length dt] 59); rw [World.size_alloc] at e1; exact e1
 obtain ⟨x0, x1, x2, xl⟩ := Blk.d3 HK1.out; obtain ⟨y0, y1, y2, yl⟩ := Blk.d3 HK2.out; go_wp2_with fail
 clear hW x0 x1 x2 xl y0 y1 y2 yl q1 q2 q3; go_loopg [5] es.length (fun g iv wr => ∃ k : Nat, k + g = es.length ∧ iv = Value.int .i64 (k : Int) ∧ Below W.heap.size W wr)
 case atStart => exact ⟨0, Nat.zero_add _, rfl, Below.refl _ _⟩
 case round =>
  obtain ⟨k, hk, rfl, hB⟩ := hrel; have HK := Lib.hid hk; have HBr := Lib.hid hB; have HKa := Lib.hid (HK1.out.below hB HK1.out.lt); have HKb := Lib.hid (HK2.out.below hB HK2.out.lt); have HBX : Hid (Below w.heap.size w wr) := HBW.out.trans (hB.mono HBW.out.size); clear hk hB; by_cases hlt : (k : Int) < (es.length : Int)
  ·skip
   obtain ⟨x0, x1, x2, xl⟩ := Blk.d3 HKa.out; obtain ⟨y0, y1, y2, yl⟩ := Blk.d3 HKb.out; obtain ⟨z, zb, zo, hz, hzb, hzi, c0, c1, c2, c3, c4, c5, c6⟩ := ez_at (c := ce) (k := k) ((HA.out.below HBX.out).ends) (by omega); obtain ⟨z', yb, yo, hz', hyb, hyi, e0, e1, e2, e3, e4, e5, e6⟩ := ez_at (c := de) (k := k) ((HB.out.below HBX.out).ends) (by have := HEE.out; omega); have hvv : z.v = z'.v := by
    have h1 : (es.map Ez.v)[k]? = some z.v := by rw [List.getElem?_map, hz]; rfl
    have h2 : (es'.map Ez.v)[k]? = some z'.v := by rw [List.getElem?_map, hz']; rfl
    rw [HA.out.ev] at h1; rw [HB.out.ev, h1] at h2; injection h2
   have HE1 := Lib.hid (((HA.out.below HBX.out).en z (List.mem_of_getElem? hz)).at_); have HE2 := Lib.hid (((HB.out.below HBX.out).en z' (List.mem_of_getElem? hz')).at_); have HVV := Lib.hid hvv; have hw1 : IntKind.i64.wrap ((k : Int) + 1) = (k : Int) + 1 := wrap_ok ⟨by omega, by have := HL1.out; omega⟩; clear hz hz' hvv; go_upto_region 6 with fail
   refine draw (fun w' => Below wr.heap.size wr w') 12 rfl (by kernel_rfl) (fun Qd hQd => ?_); iterate 10 (first | apply sI 0 (by rfl) rfl (by kernel_rfl) | apply sI 2 (by rfl) rfl (by kernel_rfl) | apply sI 5 (by rfl) rfl (by kernel_rfl) | apply sI 7 (by rfl) rfl (by kernel_rfl) | apply sI 1 (by rfl) rfl (by kernel_rfl) | apply sI 6 (by rfl) rfl (by kernel_rfl) | apply sI 3 (by rfl) rfl (by kernel_rfl) | apply sI 8 (by rfl) rfl (by kernel_rfl) | apply sI 4 (by rfl) rfl (by kernel_rfl) | apply sI 9 (by rfl) rfl (by kernel_rfl)); (focus intro wI hI Kv hKv; have u0 := cell_chain hI xl x0; have u1 := cell_chain hI yl y0; have f0 := cell_chain hI hzb c0; have f1 := cell_chain hI hzb c1; have f2 := cell_chain hI hzb c2; have f3 := cell_chain hI hzb c3; have f4 := cell_chain hI hzb c4; have f5 := cell_chain hI hzb c5; have f6 := cell_chain hI hzb c6; have g0 := cell_chain hI hyb e0; have g1 := cell_chain hI hyb e1; have g2 := cell_chain hI hyb e2; have g3 := cell_chain hI hyb e3; have g4 := cell_chain hI hyb e4; have g5 := cell_chain hI hyb e5; have g6 := cell_chain hI hyb e6; go_simp; exact hKv); intro Kd hKd; go_simp; refine hKd _ ?_; clear hKd Kd
   refine anyI_one' 10 rfl (by kernel_rfl) ((Below.refl _ wr).drew) (fun Kd hKd => ?_); go_wp2_with (go_at_call 14; go_must (refine (same_end z.v z.A z.c z.D z.d z'.v z'.A z'.c z'.D z'.d _ (HE1.out.below (Below.refl _ wr).drew) (HE2.out.below (Below.refl _ wr).drew)).mono ?_); rintro r w2 ⟨rfl, hB2⟩; rw [decide_eq_true HVV.out])
   have HB2 : Hid (Below wr.heap.size wr w2) := below_in (Below.refl _ wr).drew hB2; clear hB2; apply anyI_step 11 rfl (by kernel_rfl); (focus intro wI hI Kv hKv; go_simp; exact hKv); intro Kd hKd; go_simp; refine hKd _ ?_; clear hKd Kd
   refine anyI_end (by kernel_rfl) (HB2.out) (hQd _ _ ?_); clear hQd Qd; go_wp2_with fail
   go_roundg (es.length - (k + 1))
   case measure => have := HK.out; omega
   case rel => exact ⟨k + 1, by have := HK.out; omega, rfl, below_in HBr.out HB2.out⟩
  ·skip
   obtain ⟨x0, x1, x2, xl⟩ := Blk.d3 HKa.out; obtain ⟨y0, y1, y2, yl⟩ := Blk.d3 HKb.out; go_wp2_with fail
   clear x0 x1 x2 xl y0 y1 y2 yl; obtain ⟨Z0, rfl⟩ : ∃ Z0, Z0 = wr := ⟨_, rfl⟩; go_loopg [6] wi.length (fun g iv w2 => ∃ k : Nat, k + g = wi.length ∧ iv = Value.int .i64 (k : Int) ∧ Below W.heap.size W w2)
   case atStart => exact ⟨0, Nat.zero_add _, rfl, HBr.out⟩
   case round =>
    clear HK HBr HKa HKb HBX hlt; obtain ⟨k, hk, rfl, hB⟩ := hrel; have HK := Lib.hid hk; have HBr := Lib.hid hB; obtain ⟨V, rfl⟩ : ∃ V, V = wr := ⟨_, rfl⟩; have HKa := Lib.hid (HK1.out.below hB HK1.out.lt); have HKb := Lib.hid (HK2.out.below hB HK2.out.lt); have HBX : Hid (Below w.heap.size w V) := HBW.out.trans (hB.mono HBW.out.size); clear hk hB; by_cases hlt : (k : Int) < (wi.length : Int)
    ·skip
     obtain ⟨x0, x1, x2, xl⟩ := Blk.d3 HKa.out; obtain ⟨y0, y1, y2, yl⟩ := Blk.d3 HKb.out; have hca := (HA.out.below HBX.out).wire; have hcb := (HB.out.below HBX.out).wire; rw [HWI.out] at hca hcb; obtain ⟨z, zb, zo, hz, hzb, hzi, c0, c1, c2, c3, c4, c5, c6, c7⟩ := tp_at (c := cw) (k := k) hca (by omega); obtain ⟨z', yb, yo, hz', hyb, hyi, e0, e1, e2, e3, e4, e5, e6, e7⟩ := tp_at (c := dw) (k := k) hcb (by omega); obtain rfl : z = z' := by rw [hz] at hz'; injection hz'
     have hw1 : IntKind.i64.wrap ((k : Int) + 1) = (k : Int) + 1 := wrap_ok ⟨by omega, by have := HL2.out; omega⟩; have hnq := neq116 z; clear hz hz' hca hcb; go_upto_region 11 with fail
     refine sall (by kernel_rfl) (by kernel_rfl) (fun Kq hKq => ?_); repeat still_step
     refine wpStill_nil (hKq _ ?_); clear hKq Kq; go_wp2_with fail
     go_roundg (wi.length - (k + 1))
     case measure => have := HK.out; omega
     case rel => exact ⟨k + 1, by have := HK.out; omega, rfl, HBr.out.drew⟩
    ·skip
     obtain ⟨x0, x1, x2, xl⟩ := Blk.d3 HKa.out; obtain ⟨y0, y1, y2, yl⟩ := Blk.d3 HKb.out; go_wp2_with fail
     clear x0 x1 x2 xl y0 y1 y2 yl; go_loopg [7] zs.length (fun g iv w3 => ∃ k : Nat, k + g = zs.length ∧ iv = Value.int .i64 (k : Int) ∧ Below W.heap.size W w3)
     case atStart => exact ⟨0, Nat.zero_add _, rfl, HBr.out⟩
     case round =>
      clear HK HBr HKa HKb HBX hlt; obtain ⟨k, hk, rfl, hB⟩ := hrel; have HK := Lib.hid hk; have HBr := Lib.hid hB; obtain ⟨U, rfl⟩ : ∃ U, U = wr := ⟨_, rfl⟩; have HKa := Lib.hid (HK1.out.below hB HK1.out.lt); have HKb := Lib.hid (HK2.out.below hB HK2.out.lt); have HBX : Hid (Below w.heap.size w U) := HBW.out.trans (hB.mono HBW.out.size); clear hk hB; by_cases hlt : (k : Int) < (zs.length : Int)
      ·skip
       obtain ⟨x0, x1, x2, xl⟩ := Blk.d3 HKa.out; obtain ⟨y0, y1, y2, yl⟩ := Blk.d3 HKb.out; obtain ⟨z, zb, zo, hz, hzb, hzi, c0, c1, c2, c3, c4, c5⟩ := tz_at (c := ct) (k := k) ((HA.out.below HBX.out).tales) (by omega); obtain ⟨z', yb, yo, hz', hyb, hyi, e0, e1, e2, e3, e4, e5⟩ := tz_at (c := dt) (k := k) ((HB.out.below HBX.out).tales) (by have := HTT.out; omega); have hvv : z.v = z'.v := by
        have h1 : (zs.map Tz.v)[k]? = some z.v := by rw [List.getElem?_map, hz]; rfl
        have h2 : (zs'.map Tz.v)[k]? = some z'.v := by rw [List.getElem?_map, hz']; rfl
        rw [HA.out.tv] at h1; rw [HB.out.tv, h1] at h2; injection h2
       have HX1 := Lib.hid ((HA.out.below HBX.out).txt z (List.mem_of_getElem? hz)); have hx2 := (HB.out.below HBX.out).txt z' (List.mem_of_getElem? hz'); rw [← hvv] at hx2 e0 e1 e2 e3 e4 e5; have HX2 := Lib.hid hx2; have hw1 : IntKind.i64.wrap ((k : Int) + 1) = (k : Int) + 1 := wrap_ok ⟨by omega, by have := HL3.out; omega⟩; obtain ⟨t, ht⟩ : ∃ t, z.v = t := ⟨_, rfl⟩; rw [ht] at HX1 HX2 c0 c1 c2 c3 c4 c5 e0 e1 e2 e3 e4 e5; have q5 : (t.end_ != t.end_) = false := by simp
       have q6 : (t.life != t.life) = false := by simp
       have q7 : (t.peer != t.peer) = false := by simp
       clear hz hz' hvv hx2 ht; go_upto_region 18 with fail
       obtain ⟨X, hX⟩ : ∃ X, (U.alloc (.cells #[.int .i64 t.end_, .int .i64 t.life, .int .i64 t.peer, .slice z.S t.sent.length z.cs, .slice z.L t.lost.length z.cl, .slice z.K t.taken.length z.ck] 120)).alloc (.cells #[.int .i64 t.end_, .int .i64 t.life, .int .i64 t.peer, .slice z'.S t.sent.length z'.cs, .slice z'.L t.lost.length z'.cl, .slice z'.K t.taken.length z'.ck] 120) = X := ⟨_, rfl⟩; have HBY : Hid (Below U.heap.size U X) := by rw [← hX]; exact ((Below.refl _ U).alloc (Nat.le_refl _) _).alloc (by simp) _
       have HM1 : Hid (Blk X U.heap.size (.cells #[.int .i64 t.end_, .int .i64 t.life, .int .i64 t.peer, .slice z.S t.sent.length z.cs, .slice z.L t.lost.length z.cl, .slice z.K t.taken.length z.ck] 120)) := by rw [← hX]; exact (Blk.new _ _).alloc _
       have HM2 : Hid (Blk X (U.heap.size + 1) (.cells #[.int .i64 t.end_, .int .i64 t.life, .int .i64 t.peer, .slice z'.S t.sent.length z'.cs, .slice z'.L t.lost.length z'.cl, .slice z'.K t.taken.length z'.ck] 120)) := by
        rw [← hX]; have e1 := Blk.new (U.alloc (.cells #[.int .i64 t.end_, .int .i64 t.life, .int .i64 t.peer, .slice z.S t.sent.length z.cs, .slice z.L t.lost.length z.cl, .slice z.K t.taken.length z.ck] 120)) (.cells #[.int .i64 t.end_, .int .i64 t.life, .int .i64 t.peer, .slice z'.S t.sent.length z'.cs, .slice z'.L t.lost.length z'.cl, .slice z'.K t.taken.length z'.ck] 120); rw [World.size_alloc] at e1; exact e1
       rw [hX]; clear hX x0 x1 x2 xl y0 y1 y2 yl c0 c1 c2 c3 c4 c5 e0 e1 e2 e3 e4 e5 hzi hyi hzb hyb; have q9 := HM1.out; have a0 := q9.cell 0 (v := .int .i64 t.end_) rfl; have a1 := q9.cell 1 (v := .int .i64 t.life) rfl; have a2 := q9.cell 2 (v := .int .i64 t.peer) rfl; have a3 := q9.cell 3 (v := .slice z.S t.sent.length z.cs) rfl; have a4 := q9.cell 4 (v := .slice z.L t.lost.length z.cl) rfl; have a5 := q9.cell 5 (v := .slice z.K t.taken.length z.ck) rfl; have al := q9.lt; clear q9; have q9 := HM2.out; have b0 := q9.cell 0 (v := .int .i64 t.end_) rfl; have b1 := q9.cell 1 (v := .int .i64 t.life) rfl; have b2 := q9.cell 2 (v := .int .i64 t.peer) rfl; have b3 := q9.cell 3 (v := .slice z'.S t.sent.length z'.cs) rfl; have b4 := q9.cell 4 (v := .slice z'.L t.lost.length z'.cl) rfl; have b5 := q9.cell 5 (v := .slice z'.K t.taken.length z'.ck) rfl; have bl := q9.lt; clear q9; have HBZ := HBY; go_wp2_with fail
       refine (same_texts z.S z.cs t.sent z'.S z'.cs t.sent X (HX1.out.1.below HBZ.out (Nat.le_refl _)) (HX2.out.1.below HBZ.out (Nat.le_refl _))).mono ?_; rintro r X1 ⟨rfl, hB3⟩; rw [decide_eq_true rfl]; have HM1 := Lib.hid (HM1.out.below hB3 HM1.out.lt); have HM2 := Lib.hid (HM2.out.below hB3 HM2.out.lt); have HBZ : Hid (Below U.heap.size U X1) := below_in HBZ.out hB3; clear hB3 a0 a1 a2 a3 a4 a5 al b0 b1 b2 b3 b4 b5 bl; have q9 := HM1.out; have a0 := q9.cell 0 (v := .int .i64 t.end_) rfl; have a1 := q9.cell 1 (v := .int .i64 t.life) rfl; have a2 := q9.cell 2 (v := .int .i64 t.peer) rfl; have a3 := q9.cell 3 (v := .slice z.S t.sent.length z.cs) rfl; have a4 := q9.cell 4 (v := .slice z.L t.lost.length z.cl) rfl; have a5 := q9.cell 5 (v := .slice z.K t.taken.length z.ck) rfl; have al := q9.lt; clear q9; have q9 := HM2.out; have b0 := q9.cell 0 (v := .int .i64 t.end_) rfl; have b1 := q9.cell 1 (v := .int .i64 t.life) rfl; have b2 := q9.cell 2 (v := .int .i64 t.peer) rfl; have b3 := q9.cell 3 (v := .slice z'.S t.sent.length z'.cs) rfl; have b4 := q9.cell 4 (v := .slice z'.L t.lost.length z'.cl) rfl; have b5 := q9.cell 5 (v := .slice z'.K t.taken.length z'.ck) rfl; have bl := q9.lt; clear q9; go_wp2_with fail
       refine (same_texts z.L z.cl t.lost z'.L z'.cl t.lost X1 (HX1.out.2.1.below HBZ.out (Nat.le_refl _)) (HX2.out.2.1.below HBZ.out (Nat.le_refl _))).mono ?_; rintro r X2 ⟨rfl, hB3⟩; rw [decide_eq_true rfl]; have HM1 := Lib.hid (HM1.out.below hB3 HM1.out.lt); have HM2 := Lib.hid (HM2.out.below hB3 HM2.out.lt); have HBZ : Hid (Below U.heap.size U X2) := below_in HBZ.out hB3; clear hB3 a0 a1 a2 a3 a4 a5 al b0 b1 b2 b3 b4 b5 bl; have q9 := HM1.out; have a0 := q9.cell 0 (v := .int .i64 t.end_) rfl; have a1 := q9.cell 1 (v := .int .i64 t.life) rfl; have a2 := q9.cell 2 (v := .int .i64 t.peer) rfl; have a3 := q9.cell 3 (v := .slice z.S t.sent.length z.cs) rfl; have a4 := q9.cell 4 (v := .slice z.L t.lost.length z.cl) rfl; have a5 := q9.cell 5 (v := .slice z.K t.taken.length z.ck) rfl; have al := q9.lt; clear q9; have q9 := HM2.out; have b0 := q9.cell 0 (v := .int .i64 t.end_) rfl; have b1 := q9.cell 1 (v := .int .i64 t.life) rfl; have b2 := q9.cell 2 (v := .int .i64 t.peer) rfl; have b3 := q9.cell 3 (v := .slice z'.S t.sent.length z'.cs) rfl; have b4 := q9.cell 4 (v := .slice z'.L t.lost.length z'.cl) rfl; have b5 := q9.cell 5 (v := .slice z'.K t.taken.length z'.ck) rfl; have bl := q9.lt; clear q9; go_wp2_with fail
       refine (same_texts z.K z.ck t.taken z'.K z'.ck t.taken X2 (HX1.out.2.2.below HBZ.out (Nat.le_refl _)) (HX2.out.2.2.below HBZ.out (Nat.le_refl _))).mono ?_; rintro r X3 ⟨rfl, hB3⟩; rw [decide_eq_true rfl]; have HM1 := Lib.hid (HM1.out.below hB3 HM1.out.lt); have HM2 := Lib.hid (HM2.out.below hB3 HM2.out.lt); have HBZ : Hid (Below U.heap.size U X3) := below_in HBZ.out hB3; clear hB3 a0 a1 a2 a3 a4 a5 al b0 b1 b2 b3 b4 b5 bl; have q9 := HM1.out; have a0 := q9.cell 0 (v := .int .i64 t.end_) rfl; have a1 := q9.cell 1 (v := .int .i64 t.life) rfl; have a2 := q9.cell 2 (v := .int .i64 t.peer) rfl; have a3 := q9.cell 3 (v := .slice z.S t.sent.length z.cs) rfl; have a4 := q9.cell 4 (v := .slice z.L t.lost.length z.cl) rfl; have a5 := q9.cell 5 (v := .slice z.K t.taken.length z.ck) rfl; have al := q9.lt; clear q9; have q9 := HM2.out; have b0 := q9.cell 0 (v := .int .i64 t.end_) rfl; have b1 := q9.cell 1 (v := .int .i64 t.life) rfl; have b2 := q9.cell 2 (v := .int .i64 t.peer) rfl; have b3 := q9.cell 3 (v := .slice z'.S t.sent.length z'.cs) rfl; have b4 := q9.cell 4 (v := .slice z'.L t.lost.length z'.cl) rfl; have b5 := q9.cell 5 (v := .slice z'.K t.taken.length z'.ck) rfl; have bl := q9.lt; clear q9; go_wp2_with fail
       go_roundg (zs.length - (k + 1))
       case measure => have := HK.out; omega
       case rel => exact ⟨k + 1, by have := HK.out; omega, rfl, below_in HBr.out HBZ.out⟩
      ·skip
       obtain ⟨x0, x1, x2, xl⟩ := Blk.d3 HKa.out; obtain ⟨y0, y1, y2, yl⟩ := Blk.d3 HKb.out; go_wp2; go_ret; exact ⟨rfl, HBX.out⟩
end Go.Proofs.Ytejabnoidhlfaaa
