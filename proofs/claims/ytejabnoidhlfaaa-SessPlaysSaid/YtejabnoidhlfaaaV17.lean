/- Contracts and lemmas that the claim uses. -/
import Derived.Test.YtejabnoidhlfaaaV16
import Derived.Deep.Upon
import Derived.Deep.RegionLaw
import Derived.Lib.SliceRun
set_option maxRecDepth 100000
set_option maxHeartbeats 16000000
namespace Go.Proofs.Ytejabnoidhlfaaa
open Go.RowKit Go.Maps
theorem strs_app (a b : List ByteArray) : strs (a ++ b) = strs a ++ strs b := by simp [strs]
theorem cells_none {w : World} {cs : List Value} (h : Cells w none cs) : cs = [] := by
 obtain ⟨_, b, o, _, hA, _⟩ := h; cases cs with
 | nil => rfl
 | cons x l =>
  obtain ⟨h1, _⟩ := hA (by simp); cases h1
def takeT (g : Gn) (t : Ta) : Ta := { t with taken := t.taken ++ g.taken }
theorem tell_eq (l : Lp) (i : Int) (e : En) (g : Gn) : tellA l i e g = wayA (if 0 ≤ (becomesA l i e).now i then { becomesA l i e with tales := setAt (takeT g) ((becomesA l i e).now i).toNat (becomesA l i e).tales } else becomesA l i e) i g.packets := rfl
theorem NowAt.get {l : Lp} {i : Int} (h : NowAt l i) (hn : 0 ≤ l.now i) : ∃ (k : Nat) (t : Ta), l.now i = (k : Int) ∧ l.tales[k]? = some t := by
 by_cases hp : (l.end_ i).phase = 3
 ·obtain ⟨k, t, hk, ht, _⟩ := h.2 hp; exact ⟨k, t, hk, ht⟩
 ·have := h.1 hp; omega
theorem becomes_hold {l : Lp} {n : Nat} (hn : NowOk l) (hb : Bulk l n) (hnn : n ≤ 100000000) {i : Int} (hi : i = 0 ∨ i = 1) {e : En} (hc : Cont (l.end_ i) e) :
  (((l.end_ i).phase = 3 ∧ (l.end_ i).peer = e.peer ∧ (l.end_ i).life = e.life) → e.phase = 3 → ∃ (k : Nat) (t : Ta), l.now i = k ∧ l.tales[k]? = some t ∧ e.base ≤ t.sent.length ∧ t.sent.length ≤ 1000000000) ∧
  (¬ ((l.end_ i).phase = 3 ∧ (l.end_ i).peer = e.peer ∧ (l.end_ i).life = e.life) → e.phase = 3 → e.base = 0) := by
 refine ⟨fun hs hp => ?_, fun hs hp => (hc.2 hp).2 hs⟩; obtain ⟨k, t, hk, ht, _, _, _, h4⟩ := (hn i hi).2 hs.1; have h5 := (hc.2 hp).1 hs; have h6 := (hb.txt t (List.mem_of_getElem? ht)).1; exact ⟨k, t, hk, ht, by omega, by omega⟩
theorem tell_any (B bl : Nat) (l : Lp) (m : Lm) (i : Int) (hi : i = 0 ∨ i = 1) (e : En) (A : Option Addr) (c : Nat) (D : Option Addr) (d : Nat) (g : Gn) (P : Option Addr) (cp : Nat) (T : Option Addr) (ct : Nat) (L : Option Addr) (cl : Nat) (w : World) (n : Nat)
  (h : Lo w B bl l m) (he : EnT w e A c D) (hg : GoodP e) (hn : NowOk l) (hb : Bulk l n) (hnn : n ≤ 100000000) (hc : Cont (l.end_ i) e) (hP : Off w bl l m P (pks g.packets)) (hK : Off w bl l m T (strs g.taken)) (hT0 : T = none → ct = 0) (h6 : g.packets.length ≤ 6) (h4 : g.taken.length ≤ 4) :
  Calls Try.prog 85 #[.pointer (some ⟨bl, 0, none⟩), .int .i64 i, enV e A c D d, gnV g P cp T ct L cl] w fun r w' => r = .returned (.tuple #[]) ∧ ∃ m', Lo w' B bl (tellA l i e g) m' ∧ Ls bl l m w (tellA l i e g) m' w' := by
 obtain ⟨hold, hnew⟩ := becomes_hold hn hb hnn hi hc; have HN1 := Lib.hid (becomes_now hn hi hc i hi); have HB1 := Lib.hid (becomes_bulk hb hi e); have HTL : Hid (l.tales.length ≤ 1000000000) := by show _ ≤ _; have := hb.tales; omega
 have HLO := Lib.hid h; have HE := Lib.hid he; have HG := Lib.hid hg; have HOLD := Lib.hid hold; have HNEW := Lib.hid hnew; have HI := Lib.hid hi; have HPO := Lib.hid hP; have HKO := Lib.hid hK; have HT0 := Lib.hid hT0; have HTE := Lib.hid (tell_eq l i e g); have hix8 : ∀ w', (Instr.indexAt 108 (.pointer (some ⟨bl, 16, none⟩)) (.int .i64 i)).run Try.prog w' = .ok (.pointer (some ⟨bl, 16 + i.toNat, none⟩)) w' := fun w' => ix108 hi w'; clear h he hg hn hb hc hP hK hT0 hold hnew hi; obtain ⟨p, hp⟩ : ∃ p, Hid (16 + i.toNat = p) := ⟨_, rfl⟩; rw [hp.out] at hix8; have hlb := HLO.out.box.lt; unfold enV gnV; go_enter Try.func85, Try.ntmps85
 obtain ⟨W, hW⟩ : ∃ W, (w.alloc (.cells #[.int .i64 e.life, .int .i64 e.peer, .int .i64 e.phase, .int .i64 e.base, .slice A e.out.length c, .int .i64 e.want, .slice D e.inn.length d] 26)).alloc (.cells #[.slice P g.packets.length cp, .slice T g.taken.length ct, .slice L g.lost.length cl] 47) = W := ⟨_, rfl⟩; have HBW : Hid (Below w.heap.size w W) := by rw [← hW]; exact ((Below.refl _ w).alloc (Nat.le_refl _) _).alloc (by simp) _
 have hsW : W.heap.size = w.heap.size + 2 := by rw [← hW]; simp
 have HKE : Hid (Blk W w.heap.size (.cells (enB e A c D d) 26)) := by rw [← hW]; exact (Blk.new _ _).alloc _
 have HKG : Hid (Blk W (w.heap.size + 1) (.cells (gnB g P cp T ct L cl) 47)) := by
  rw [← hW]; have e1 := Blk.new (w.alloc (.cells #[.int .i64 e.life, .int .i64 e.peer, .int .i64 e.phase, .int .i64 e.base, .slice A e.out.length c, .int .i64 e.want, .slice D e.inn.length d] 26)) (.cells #[.slice P g.packets.length cp, .slice T g.taken.length ct, .slice L g.lost.length cl] 47); rw [World.size_alloc] at e1; exact e1
 obtain ⟨x0, x1, x2, x3, x4, x5, x6, xl⟩ := Blk.d7 HKE.out; go_wp2_with fail
 refine (becomes_any B bl l m i HI.out e A c D d W (HLO.out.below HBW.out) (HE.out.frame (Frame.of_all (S := fun _ => False) HBW.out) (fun _ _ _ h => h) (fun _ _ _ h => h)) HG.out HTL.out HOLD.out HNEW.out).mono ?_; rintro r w1 ⟨rfl, M1, hl1, hs1⟩; clear x0 x1 x2 x3 x4 x5 x6 xl hW; obtain ⟨L1, HL1⟩ : ∃ L1, Hid (becomesA l i e = L1) := ⟨_, rfl⟩; rw [HL1.out] at hl1 hs1 HN1 HB1 HTE; have HLO1 := Lib.hid hl1; have HLS1 : Hid (Ls bl l m w L1 M1 w1) := (Ls.of_below HBW.out).trans hs1; have HKG1 : Hid (Blk w1 (w.heap.size + 1) (.cells (gnB g P cp T ct L cl) 47)) := HKG.out.frame hs1.fr ((HLO.out.below HBW.out).ne HKG.out (by decide) (by decide) (by decide) (by decide)); obtain ⟨nn, HNN⟩ : ∃ nn, Hid (L1.now i = nn) := ⟨_, rfl⟩; have v3 := hl1.nowc HI.out; rw [hp.out, HNN.out] at v3; have v5 := hl1.box.lt; obtain ⟨L2, HL2⟩ : ∃ L2, Hid ((if 0 ≤ L1.now i then { L1 with tales := setAt (takeT g) (L1.now i).toNat L1.tales } else L1) = L2) := ⟨_, rfl⟩; rw [HL2.out] at HTE; have HW2 : Hid (L2.wire = L1.wire) := by show _ = _; rw [← HL2.out]; split <;> rfl
 clear hl1 hs1; go_upto_if 20 with fail
 go_cut [] from 9 (fun wx => ∃ M2, Lo wx B bl L2 M2 ∧ Ls bl l m w L2 M2 wx ∧ Blk wx (w.heap.size + 1) (.cells (gnB g P cp T ct L cl) 47))
 case first =>
  by_cases h0 : 0 ≤ nn
  ·have q0 : decide (0 ≤ nn) = true := decide_eq_true h0; obtain ⟨k, t, hk, ht⟩ := HN1.out.get (by rw [HNN.out]; exact h0); rw [HNN.out] at hk; subst hk; obtain ⟨z, gb, hz, hzv, hTg, hkz, hgl, ⟨cur, hgb⟩, s3, s4, s5, sf⟩ := HLO1.out.tale ht; have c15 := HLO1.out.box.cell 15 (v := .slice M1.T M1.zs.length M1.ct) rfl; rw [hTg] at c15; have hix7 : ∀ w', (Instr.indexAt 57 (.slice (some ⟨gb, 0, none⟩) M1.zs.length M1.ct) (.int .i64 (k : Int))).run Try.prog w' = .ok (.pointer (some ⟨gb, k * 6, none⟩)) w' := fun w' => ix57 hkz w'; obtain ⟨q6, Hq6⟩ : ∃ q6, Hid (k * 6 = q6) := ⟨_, rfl⟩; rw [Hq6.out] at hix7 s3 s4 s5; have HZ := Lib.hid hz; have HZV := Lib.hid hzv; have HTG := Lib.hid hTg; have HGB := Lib.hid hgb; have HTK := Lib.hid ht; have HZX : Hid ((txs M1.zs)[k * 3 + 2]? = some (.slice z.K z.v.taken.length z.ck, z.v.taken)) := by
    show _ = _; unfold txs; rw [flatg_get tx_len M1.zs k 2 (by decide), hz]; rfl
   have HXO : Hid (w1.drew.ownsRow B 9 1 (.slice z.K z.v.taken.length z.ck) z.v.taken.length (strs z.v.taken)) := HLO1.out.txt.own (.slice z.K z.v.taken.length z.ck, z.v.taken) (List.mem_of_getElem? HZX.out); have hnb : ∀ b cs ty, Blk w1 b (.cells cs ty) → ty ≠ 9 → ¬ (Value.slice z.K z.v.taken.length z.ck).ownBlock = some b := fun b cs ty hb ht e2 => own_ne HXO.out hb (fun e3 => ht e3.symm) e2; have HNB := Lib.hid hnb; have ng : ¬ (Value.slice z.K z.v.taken.length z.ck).ownBlock = some gb := HNB.out _ _ _ HGB.out (by decide); have HZN : Hid (z.v.taken.length ≤ 100000004) := by show _ ≤ _; have h1 := (HB1.out.txt t (List.mem_of_getElem? ht)).2.2; rw [hzv]; omega
   have hzn := HZN.out; have hlo := HLO1.out.lo; have HCT : Hid (Cells w1.drew T (strs g.taken)) := (HKO.out.step HLS1.out).at_.below (Below.refl _ _).drew (Nat.le_refl _); clear hnb hz hzv hTg hkz hgb ht h0 s3 s4 sf; go_upto_region 4 with fail
   refine drawl (fun w' => Frame (fun b => (Value.slice z.K z.v.taken.length z.ck).ownBlock = some b) w1 w') 18 18 rfl (by kernel_rfl) (fun Qd hQd => ?_); iterate 15 (first | apply sL 0 (by rfl) (by kernel_rfl) rfl (by kernel_rfl) | apply sL 4 (by rfl) (by kernel_rfl) rfl (by kernel_rfl) | apply sL 5 (by rfl) (by kernel_rfl) rfl (by kernel_rfl) | apply sL 9 (by rfl) (by kernel_rfl) rfl (by kernel_rfl) | apply sL 13 (by rfl) (by kernel_rfl) rfl (by kernel_rfl) | apply sL 1 (by rfl) (by kernel_rfl) rfl (by kernel_rfl) | apply sL 6 (by rfl) (by kernel_rfl) rfl (by kernel_rfl) | apply sL 14 (by rfl) (by kernel_rfl) rfl (by kernel_rfl) | apply sL 2 (by rfl) (by kernel_rfl) rfl (by kernel_rfl) | apply sL 7 (by rfl) (by kernel_rfl) rfl (by kernel_rfl) | apply sL 3 (by rfl) (by kernel_rfl) rfl (by kernel_rfl) | apply sL 8 (by rfl) (by kernel_rfl) rfl (by kernel_rfl) | apply sL 10 (by rfl) (by kernel_rfl) rfl (by kernel_rfl) | apply sL 11 (by rfl) (by kernel_rfl) rfl (by kernel_rfl) | apply sL 12 (by rfl) (by kernel_rfl) rfl (by kernel_rfl)); (focus intro wI hI Kv hKv; have u0 := (HLO1.out.box.frame hI (HNB.out _ _ _ HLO1.out.box (by decide))).cell 15 (v := .slice M1.T M1.zs.length M1.ct) rfl; rw [HTG.out] at u0; have u1 := (HKG1.out.frame hI (HNB.out _ _ _ HKG1.out (by decide))).cell 1 (v := .slice T g.taken.length ct) rfl; have u3 := cell_frame hI hgl ng s5; go_simp; exact hKv); intro Kd hKd; go_simp; refine hKd _ ?_; clear hKd Kd
   refine anyL_one 15 rfl (by kernel_rfl) ((Frame.refl _ w1).drew) (fun Kd hKd => ?_); go_wp2_with (at_builtin; go_must (refine wpList_appN rSt _ rfl _ _ rfl HXO.out rfl T g.taken.length ct (strs g.taken) rfl (fun h => ⟨by have h1 := HCT.out; rw [h] at h1; have h2 := cells_none h1; have h3 := strs_len g.taken; rw [h2] at h3; simpa using h3.symm, HT0.out h⟩) HCT.out (by rw [strs_len]; omega) (stC_one g.taken) (by omega) (by show B ≤ w1.heap.size; omega) ?_); intro v6 w6 ho6 hB6 hg6 hloc6; obtain ⟨A6, c6, rfl⟩ := own_fits ho6)
   have HG6 : Hid (Frame (fun b => (Value.slice z.K z.v.taken.length z.ck).ownBlock = some b) w1 w6) := (Frame.refl _ w1).drew.trans (Frame.of_grown hg6) (fun _ _ h => h); have k2 := cell_frame HG6.out hgl ng s5; have k3 := (HGB.out.frame HG6.out ng).free (q6 + 5); have k4 := (HGB.out.frame HG6.out ng).lt; have HO6 := Lib.hid ho6; have HL6 := Lib.hid hloc6; clear ho6 hB6 hg6 hloc6; refine anyL_one 16 rfl (by kernel_rfl) (HG6.out) (fun Kd hKd => ?_); go_wp2; apply anyL_step 17 (by kernel_rfl) rfl (by kernel_rfl); (focus intro wI hI Kv hKv; go_simp; exact hKv); intro Kd hKd; go_simp; refine hKd _ ?_; clear hKd Kd
   refine anyL_end rfl (by kernel_rfl) (HG6.out) (fun Kd hKd => ?_); go_wp2_with fail
   go_meet; have e1 : (z.v.taken ++ g.taken).length = z.v.taken.length + g.taken.length := List.length_append; have ho : w6.ownsRow B 9 1 (.slice A6 (z.v.taken ++ g.taken).length c6) (z.v.taken ++ g.taken).length (strs (z.v.taken ++ g.taken)) := by
    rw [e1, strs_app]; exact HO6.out
   have hst := HLO1.out.setText (k := k) (j := 2) (g := gb) (z := z) (z' := { z with v := { z.v with taken := z.v.taken ++ g.taken }, K := A6, ck := c6 }) (x := (.slice z.K z.v.taken.length z.ck, z.v.taken)) HZ.out (by omega) HTG.out rfl rfl rfl HG6.out ho (by rw [e1]; exact HL6.out); have e2 : ({ L1 with tales := L1.tales.set k { z.v with taken := z.v.taken ++ g.taken } } : Lp) = L2 := by
    rw [← HL2.out, HNN.out, if_pos (by omega), Int.toNat_natCast, setAt_eq HTK.out, HZV.out]; rfl
   have e4 : k * 6 + (3 + 2) = q6 + 5 := by have := Hq6.out; omega
   rw [e1, e4] at hst; simp only [e2] at hst; exact ⟨_, hst.1, HLS1.out.trans hst.2, HKG1.out.frame hst.2.fr (HLO1.out.ne HKG1.out (by decide) (by decide) (by decide) (by decide))⟩
  ·have q0 : decide (0 ≤ nn) = false := decide_eq_false h0; have e2 : L1 = L2 := by rw [← HL2.out, HNN.out, if_neg h0]
   go_wp2_with fail
   go_meet; rw [← e2]; exact ⟨M1, HLO1.out, HLS1.out, HKG1.out⟩
 case rest =>
  obtain ⟨M2, hl2, hs2, hk2⟩ := hcut; have HLO2 := Lib.hid hl2; have HLS2 := Lib.hid hs2; have u1 := hk2.cell 0 (v := .slice P g.packets.length cp) rfl; have u2 := hk2.lt; clear hl2 hs2 hk2; go_wp2_with fail
  refine (way_any B bl L2 M2 i P cp g.packets wc HLO2.out HI.out (HPO.out.step HLS2.out) (by rw [HW2.out]; have := HB1.out.wire; omega)).mono ?_; rintro r w9 ⟨rfl, M9, hl9, hs9⟩; go_wp2; go_end0
  rw [HTE.out]; exact ⟨rfl, M9, hl9, HLS2.out.trans hs9⟩
def setArr (cur : Array Value) : Nat → List Value → Array Value
 | _, [] => cur
 | o, v :: r => setArr (cur.setIfInBounds o v) (o + 1) r
theorem setArr_size : ∀ (vs : List Value) (cur : Array Value) (o : Nat), (setArr cur o vs).size = cur.size
 | [], cur, o => rfl
 | v :: r, cur, o => by rw [setArr, setArr_size r]; simp
theorem setArr_get : ∀ (vs : List Value) (cur : Array Value) (o j : Nat), o + vs.length ≤ cur.size → (setArr cur o vs)[j]? = if o ≤ j ∧ j < o + vs.length then vs[j - o]? else cur[j]?
 | [], cur, o, j, _ => by
  rw [if_neg (by simp)]; rfl
 | v :: r, cur, o, j, h => by
  simp only [List.length_cons] at h ⊢; rw [setArr, setArr_get r (cur.setIfInBounds o v) (o + 1) j (by simp; omega)]; by_cases h1 : o + 1 ≤ j ∧ j < o + 1 + r.length
  ·rw [if_pos h1, if_pos (by omega), show j - o = (j - (o + 1)) + 1 by omega, List.getElem?_cons_succ]
  ·rw [if_neg h1]; by_cases h2 : j = o
   ·subst h2; rw [if_pos (by omega), Nat.sub_self, Array.getElem?_setIfInBounds_self_of_lt (by omega)]; rfl
   ·rw [if_neg (by omega), Array.getElem?_setIfInBounds_ne (by omega)]
theorem blk_setCells {b : Nat} {t : TypeId} : ∀ (vs : List Value) (cur : Array Value) (o : Nat) (w : World), Blk w b (.cells cur t) → Blk (w.setCells b o vs) b (.cells (setArr cur o vs) t)
 | [], _, _, _, h => h
 | v :: r, cur, o, _, h => blk_setCells r (cur.setIfInBounds o v) (o + 1) _ (h.set o v)
theorem frame_setCells {S : Nat → Prop} {w0 : World} {b : Nat} : ∀ (vs : List Value) (o : Nat) (w : World), Frame S w0 w → S b → Frame S w0 (w.setCells b o vs)
 | [], _, _, h, _ => h
 | v :: r, o, _, h, hb => frame_setCells r (o + 1) _ (h.setCell (p := ⟨b, o, none⟩) (.inl hb) v) hb
theorem tpC_one : ∀ l : List Tp, ∀ u ∈ tps l, u.oneCell' = true := by
 intro l u hu; obtain ⟨x, _, hx⟩ := List.mem_flatMap.1 hu; simp [tpC] at hx; rcases hx with rfl | rfl | rfl | rfl | rfl | rfl | rfl | rfl <;> rfl
theorem z116 (w : World) : (zeroValue 116).run Try.prog w = .ok (.agg #[.int .i64 0, .int .i64 0, .int .i64 0, .int .i64 0, .int .i64 0, .string ByteArray.empty, .int .i64 0, .int .i64 0]) w := by kernel_rfl
def zTp : List Value := [.int .i64 0, .int .i64 0, .int .i64 0, .int .i64 0, .int .i64 0, .string ByteArray.empty, .int .i64 0, .int .i64 0]
theorem clear_one {w : World} {b o c : Nat} {cur : Array Value} {t e : TypeId} {z : Value} {zs : List Value} (ht : Try.prog.underlying t = some (.slice e)) (hv : ∀ w, (zeroValue e).run Try.prog w = .ok z w) (hz : (Builtin.zeroCells z.cells 1).toList = zs) (h1 : ∀ v ∈ zs, v.oneCell' = true) (hB : Blk w b (.cells cur e)) (ho : o + zs.length ≤ cur.size) (ty : TypeId) :
  (Builtin.clear_ #[t] ty #[.slice (some ⟨b, o, none⟩) 1 c]).run Try.prog w = .ok (.tuple #[]) (w.setCells b o zs) := by
 have hst := run_storeCells_cells (P := Try.prog) b o zs 0 w (fun j hj => by
   rw [Nat.add_zero, hB.cell (o + j) (v := cur[o + j]'(by omega)) (by simp)]; rfl) (fun j hj => hB.free _) h1
 simp only [Nat.add_zero] at hst; simp [Builtin.clear_, run_underlying ht, hv, hz, hst]
theorem zTp_one : ∀ v ∈ zTp, v.oneCell' = true := by intro v hv; simp [zTp] at hv; rcases hv with rfl | rfl | rfl <;> rfl
theorem zTp_eq : (Builtin.zeroCells (Value.agg #[.int .i64 0, .int .i64 0, .int .i64 0, .int .i64 0, .int .i64 0, .string ByteArray.empty, .int .i64 0, .int .i64 0]).cells 1).toList = zTp := by kernel_rfl
theorem clear116 {w : World} {b o c : Nat} {cur : Array Value} (hB : Blk w b (.cells cur 116)) (ho : o + 8 ≤ cur.size) (ty : TypeId) :
  (Builtin.clear_ #[56] ty #[.slice (some ⟨b, o, none⟩) 1 c]).run Try.prog w = .ok (.tuple #[]) (w.setCells b o zTp) := clear_one Try.underlying56 z116 zTp_eq zTp_one hB ho ty
theorem erase_eq (ws : List Tp) (k : Nat) : tps (ws.eraseIdx k) = tps (ws.take k) ++ tps (ws.drop (k + 1)) := by
 rw [List.eraseIdx_eq_take_drop_succ]; simp [tps]
theorem wpList_room {P : Program} {ops : Array Oper} {rest : List Oper} {o : Oper} {a : Act} {w : World} {Q : Exit → Act → World → Prop} (hgd : o.guard = none) (s x : Operand) (t : TypeId)
  (ho : o.op = .call { callee := .builtin .append, args := #[s, x], argTypes := #[t, t] })
  (e : TypeId) (size : Nat) (h1 : P.underlying t = some (.slice e)) (h2 : (P.info? e).map (·.size) = some size)
  (b off n cap : Nat) (hs : a.eval s = .slice (some ⟨b, off, none⟩) n cap)
  (ad : Addr) (m c : Nat) (news : List Value) (hx : a.eval x = .slice (some ad) m c) (hn : news.length = m * size) (hc : ∀ j u, news[j]? = some u → w.cell? (ad.add j) = some u) (h1c : ∀ u ∈ news, u.oneCell' = true)
  (hroom : n + m ≤ cap) (hspare : ∀ j, j < news.length → (w.cell? ⟨b, off + n * size + j, none⟩).isSome = true ∧ w.frozen? ⟨b, off + n * size + j, none⟩ = false)
  (h : wpList P ops Q rest (a.put o.dst (.slice (some ⟨b, off, none⟩) (n + m) cap)) (w.setCells b (off + n * size) news)) : wpList P ops Q (o :: rest) a w := by
 cases hi : P.info? e with
 | none => rw [hi] at h2; cases h2
 | some i =>
  rw [hi] at h2; obtain rfl : i.size = size := by simpa using h2
  refine wpList_plain hgd fun K hK => ?_; have hrun := run_append_room_cells (P := P) w t o.type e i h1 hi b off n cap ad m c news hn hc h1c hroom (fun j hj => (hspare j hj).1) (fun j hj => (hspare j hj).2); unfold Oper.wp; simp [execOp, ho, resolve, invoke, builtin, hs, hx, hrun, Result.andThen]; exact hK _ _ h
theorem delete_any (B g c k j : Nat) (ws : List Tp) (w : World) (h : w.ownsRow B 116 8 (.slice (some ⟨g, 0, none⟩) ws.length c) ws.length (tps ws)) (hk : k < ws.length) (hj : k + 1 = j) (hl : ws.length ≤ 1000000000) :
  Calls Try.prog 84 #[.slice (some ⟨g, 0, none⟩) ws.length c, .int .i64 (k : Int), .int .i64 (j : Int)] w fun r w' => r = .returned (.slice (some ⟨g, 0, none⟩) (ws.length - 1) c) ∧ w'.ownsRow B 116 8 (.slice (some ⟨g, 0, none⟩) (ws.length - 1) c) (ws.length - 1) (tps (ws.eraseIdx k)) ∧ Frame (fun b => b = g) w w' := by
 obtain ⟨cur, HB, hBg, hcs, htk, hcl, hcm⟩ : ∃ cur, Blk w g (.cells cur 116) ∧ B ≤ g ∧ cur.size = c * 8 ∧ cur.toList.take (ws.length * 8) = tps ws ∧ ws.length ≤ c ∧ c ≤ maxLen := by
  rcases h.2 with ⟨hv, _⟩ | ⟨g', cap, cur, hv, hb, hh, h1, h2, h3, h4⟩
  ·cases hv
  ·injection hv with e1 e2 e3; injection e1 with e1; injection e1 with e1; subst e1 e3; exact ⟨cur, hh, hb, h3, h4, h1, h2⟩
 have HBK := Lib.hid HB; have HTK := Lib.hid htk; have HCS := Lib.hid hcs; have HJ := Lib.hid hj; have HBG := Lib.hid hBg; have hij : k ≤ j := by omega
 have hjl : j ≤ ws.length := by omega
 have hjc : j ≤ c := by omega
 have hkc : k ≤ c := by omega
 have hlt : k < j := by omega
 obtain ⟨news, hnews⟩ : ∃ news, Hid (news = tps (ws.drop j)) := ⟨_, rfl⟩; have hget : Hid (∀ t u, news[t]? = some u → cur[j * 8 + t]? = some u) := by
  intro t u hu; rw [hnews.out] at hu; have e1 : tps ws = tps (ws.take j) ++ tps (ws.drop j) := by
   unfold tps; rw [← List.flatMap_append, List.take_append_drop]
  have e2 : (tps (ws.take j)).length = j * 8 := by rw [tps_len, List.length_take]; congr 1; omega
  have e3 : (tps ws)[j * 8 + t]? = some u := by
   rw [e1, List.getElem?_append_right (by omega), e2, Nat.add_sub_cancel_left]; exact hu
  rw [← htk, List.getElem?_take] at e3; split at e3
  ·rw [← Array.getElem?_toList]; exact e3
  ·cases e3
 obtain ⟨A, hA, hsrc⟩ : ∃ A : Addr, (if c = j then some (⟨g, 0, none⟩ : Addr) else some ⟨g, j * 8, none⟩) = some A ∧ Hid (∀ t u, news[t]? = some u → w.drew.cell? (A.add t) = some u) := by
  by_cases h : c = j
  ·refine ⟨⟨g, 0, none⟩, by simp [h], fun t u hu => ?_⟩; have h0 : news = [] := by
    rw [hnews.out, List.drop_eq_nil_of_le (by omega)]; rfl
   rw [h0] at hu; simp at hu
  ·refine ⟨⟨g, j * 8, none⟩, by simp [h], fun t u hu => ?_⟩; have h2 : ((⟨g, j * 8, none⟩ : Addr).add t) = ⟨g, j * 8 + t, none⟩ := by
    unfold Addr.add; split <;> simp_all
   rw [h2]; exact HB.drew.cell _ (hget.out t u hu)
 have s1 : Hid (news.length = (ws.length - j) * 8) := by rw [hnews.out]; exact (tps_len _).trans (by rw [List.length_drop])
 have s2 : Hid (∀ u ∈ news, u.oneCell' = true) := by rw [hnews.out]; exact tpC_one _
 have s3 : Hid (∀ t, t < news.length → (w.drew.cell? ⟨g, 0 + k * 8 + t, none⟩).isSome = true ∧ w.drew.frozen? ⟨g, 0 + k * 8 + t, none⟩ = false) := by
  intro t ht; rw [s1.out] at ht; rw [Nat.zero_add, HB.drew.cell (k * 8 + t) (v := cur[k * 8 + t]'(by omega)) (by simp)]; exact ⟨rfl, HB.drew.free _⟩
 obtain ⟨W1, hW1⟩ : ∃ W1, w.drew.setCells g (0 + k * 8) news = W1 := ⟨_, rfl⟩; have HB1 : Hid (Blk W1 g (.cells (setArr cur (k * 8) news) 116)) := by
  rw [← hW1, Nat.zero_add]; exact blk_setCells news cur (k * 8) _ HB.drew
 have HF1 : Hid (Frame (fun b => b = g) w W1) := by rw [← hW1]; exact frame_setCells _ _ _ (Frame.refl _ w).drew rfl
 have HL1 := s1.out; obtain ⟨W2, hW2⟩ : ∃ W2, W1.setCells g ((k + (ws.length - j)) * 8) zTp = W2 := ⟨_, rfl⟩; have hclr : ∀ ty, (Builtin.clear_ #[56] ty #[.slice (some ⟨g, (k + (ws.length - j)) * 8, none⟩) (ws.length - (k + (ws.length - j))) (c - (k + (ws.length - j)))]).run Try.prog W1 = .ok (.tuple #[]) W2 := fun ty => by
  rw [← hW2, show ws.length - (k + (ws.length - j)) = 1 by omega]; exact clear116 HB1.out (by rw [setArr_size, hcs]; omega) ty
 have HB2 : Hid (Blk W2 g (.cells (setArr (setArr cur (k * 8) news) ((k + (ws.length - j)) * 8) zTp) 116)) := by
  rw [← hW2]; exact blk_setCells zTp _ _ _ HB1.out
 have HF2 : Hid (Frame (fun b => b = g) w W2) := by rw [← hW2]; exact frame_setCells _ _ _ HF1.out rfl
 have HFIN : Hid ((setArr (setArr cur (k * 8) news) ((k + (ws.length - j)) * 8) zTp).toList.take ((ws.length - 1) * 8) = tps (ws.eraseIdx k)) := by
  show _ = _; have e0 : (tps (ws.take k)).length = k * 8 := by rw [tps_len, List.length_take]; congr 1; omega
  have e1 : tps ws = tps (ws.take k) ++ tps (ws.drop k) := by
   unfold tps; rw [← List.flatMap_append, List.take_append_drop]
  have ez : zTp.length = 8 := rfl; apply List.ext_getElem?; intro i; rw [erase_eq, hj, ← hnews.out, List.getElem?_take]; by_cases hi : i < (ws.length - 1) * 8
  ·rw [if_pos hi, Array.getElem?_toList, setArr_get _ _ _ _ (by rw [setArr_size, hcs, ez]; omega), if_neg (by omega), setArr_get _ _ _ _ (by rw [hcs]; omega)]; by_cases h2 : i < k * 8
   ·rw [if_neg (by omega), List.getElem?_append_left (by omega), ← Array.getElem?_toList]; have e2 : (cur.toList.take (ws.length * 8))[i]? = (tps ws)[i]? := by rw [htk]
    rw [List.getElem?_take, if_pos (by omega), e1, List.getElem?_append_left (by omega)] at e2; exact e2
   ·rw [if_pos (by omega), List.getElem?_append_right (by omega), e0]
  ·rw [if_neg hi, List.getElem?_eq_none (by simp only [List.length_append]; omega)]
 clear h hj HB htk hcs hBg hW2 HL1; go_enter Try.func84, Try.ntmps84
 go_wp2_with fail
 refine stail 6 (by kernel_rfl) (by kernel_rfl) (fun Kq hKq => ?_); simp only [List.take_succ_cons, List.take_zero, List.drop_succ_cons, List.drop_zero] at hKq ⊢; repeat still_step
 refine wpStill_nil (hKq _ ?_); clear hKq Kq; go_wp2_with (at_builtin; go_must (refine wpList_room rfl _ _ 56 rfl 116 8 Try.underlying56 rTp.size_eq g 0 k c rfl A (ws.length - j) (c - j) news rfl s1.out hsrc.out s2.out (by omega) s3.out ?_); rw [hW1])
 go_ret; have hJ := HJ.out; obtain ⟨X, hX⟩ : ∃ X, setArr (setArr cur (k * 8) news) ((k + (ws.length - j)) * 8) zTp = X := ⟨_, rfl⟩; have h9 : X.size = c * 8 := by rw [← hX, setArr_size, setArr_size, HCS.out]
 have HB3 := HB2.out; have HF3 := HFIN.out; rw [hX] at HB3 HF3; have hl9 : (tps (ws.eraseIdx k)).length = (ws.length - 1) * 8 := by
  have e10 : X.toList.length = X.size := by simp
  rw [← HF3, List.length_take]; omega
 refine ⟨?_, ⟨hl9, .inr ⟨g, c, X, rfl, HBG.out, HB3, by omega, hcm, h9, HF3⟩⟩, HF2.out⟩; have e8 : k + (ws.length - j) = ws.length - 1 := by omega
 rw [e8]; rfl
end Go.Proofs.Ytejabnoidhlfaaa
