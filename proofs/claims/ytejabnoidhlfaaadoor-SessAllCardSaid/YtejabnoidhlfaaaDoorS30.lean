/- Contract: tell. -/
import Derived.Test.YtejabnoidhlfaaaDoorS29

/- Contract: tell. -/
namespace Go.Proofs.YtejabnoidhlfaaaDoor
open Go.RowKit Go.Maps

theorem strs_app (a b : List ByteArray) : strs (a ++ b) = strs a ++ strs b := by simp [strs]
theorem cells_none {w : World} {cs : List Value} (h : Cells w none cs) : cs = [] := by
 obtain ⟨_, b, o, _, hA, _⟩ := h
 cases cs with
 | nil => rfl
 | cons x l =>
  obtain ⟨h1, _⟩ := hA (by simp)
  cases h1
def takeT (g : Gn) (t : Ta) : Ta := { t with taken := t.taken ++ g.taken }
theorem tell_eq (l : Lp) (i : Int) (e : En) (g : Gn) : tellA l i e g = wayA (if 0 ≤ (becomesA l i e).now i then { becomesA l i e with tales := setAt (takeT g) ((becomesA l i e).now i).toNat (becomesA l i e).tales } else becomesA l i e) i g.packets := rfl
theorem NowAt.get {l : Lp} {i : Int} (h : NowAt l i) (hn : 0 ≤ l.now i) : ∃ (k : Nat) (t : Ta), l.now i = (k : Int) ∧ l.tales[k]? = some t := by
 by_cases hp : (l.end_ i).phase = 3
 ·obtain ⟨k, t, hk, ht, _⟩ := h.2 hp
  exact ⟨k, t, hk, ht⟩
 ·have := h.1 hp
  omega
theorem becomes_hold {l : Lp} {n : Nat} (hn : NowOk l) (hb : Bulk l n) (hnn : n ≤ 100000000) {i : Int} (hi : i = 0 ∨ i = 1) {e : En} (hc : Cont (l.end_ i) e) :
  (((l.end_ i).phase = 3 ∧ (l.end_ i).peer = e.peer ∧ (l.end_ i).life = e.life) → e.phase = 3 → ∃ (k : Nat) (t : Ta), l.now i = k ∧ l.tales[k]? = some t ∧ e.base ≤ t.sent.length ∧ t.sent.length ≤ 1000000000) ∧
  (¬ ((l.end_ i).phase = 3 ∧ (l.end_ i).peer = e.peer ∧ (l.end_ i).life = e.life) → e.phase = 3 → e.base = 0) := by
 refine ⟨fun hs hp => ?_, fun hs hp => (hc.2 hp).2 hs⟩
 obtain ⟨k, t, hk, ht, _, _, _, h4⟩ := (hn i hi).2 hs.1
 have h5 := (hc.2 hp).1 hs
 have h6 := (hb.txt t (List.mem_of_getElem? ht)).1
 exact ⟨k, t, hk, ht, by omega, by omega⟩
set_option maxRecDepth 100000 in
set_option maxHeartbeats 8000000 in
theorem tell_any (B bl : Nat) (l : Lp) (m : Lm) (i : Int) (hi : i = 0 ∨ i = 1) (e : En) (A : Option Addr) (c : Nat) (D : Option Addr) (d : Nat) (g : Gn) (P : Option Addr) (cp : Nat) (T : Option Addr) (ct : Nat) (L : Option Addr) (cl : Nat) (w : World) (n : Nat)
  (h : Lo w B bl l m) (he : EnT w e A c D) (hg : GoodP e) (hn : NowOk l) (hb : Bulk l n) (hnn : n ≤ 100000000) (hc : Cont (l.end_ i) e) (hP : Off w bl l m P (pks g.packets)) (hK : Off w bl l m T (strs g.taken)) (hT0 : T = none → ct = 0) (h6 : g.packets.length ≤ 6) (h4 : g.taken.length ≤ 4) :
  Calls Tryd.prog 47 #[.pointer (some ⟨bl, 0, none⟩), .int .i64 i, enV e A c D d, gnV g P cp T ct L cl] w fun r w' => r = .returned (.tuple #[]) ∧ ∃ m', Lo w' B bl (tellA l i e g) m' ∧ Ls bl l m w (tellA l i e g) m' w' := by
 obtain ⟨hold, hnew⟩ := becomes_hold hn hb hnn hi hc
 have HN1 := Lib.hid (becomes_now hn hi hc i hi)
 have HB1 := Lib.hid (becomes_bulk hb hi e)
 have HTL : Hid (l.tales.length ≤ 1000000000) := by show _ ≤ _; have := hb.tales; omega
 have HLO := Lib.hid h
 have HE := Lib.hid he
 have HG := Lib.hid hg
 have HOLD := Lib.hid hold
 have HNEW := Lib.hid hnew
 have HI := Lib.hid hi
 have HPO := Lib.hid hP
 have HKO := Lib.hid hK
 have HT0 := Lib.hid hT0
 have HTE := Lib.hid (tell_eq l i e g)
 have hix8 : ∀ w', (Instr.indexAt 71 (.pointer (some ⟨bl, 16, none⟩)) (.int .i64 i)).run Tryd.prog w' = .ok (.pointer (some ⟨bl, 16 + i.toNat, none⟩)) w' := fun w' => ix108 hi w'
 clear h he hg hn hb hc hP hK hT0 hold hnew hi
 obtain ⟨p, hp⟩ : ∃ p, Hid (16 + i.toNat = p) := ⟨_, rfl⟩
 rw [hp.out] at hix8
 have hlb := HLO.out.box.lt
 unfold enV gnV
 go_enter Tryd.func47, Tryd.ntmps47
 obtain ⟨W, hW⟩ : ∃ W, (w.alloc (.cells #[.int .i64 e.life, .int .i64 e.peer, .int .i64 e.phase, .int .i64 e.base, .slice A e.out.length c, .int .i64 e.want, .slice D e.inn.length d] 38)).alloc (.cells #[.slice P g.packets.length cp, .slice T g.taken.length ct, .slice L g.lost.length cl] 44) = W := ⟨_, rfl⟩
 have HBW : Hid (Below w.heap.size w W) := by rw [← hW]; exact ((Below.refl _ w).alloc (Nat.le_refl _) _).alloc (by simp) _
 have hsW : W.heap.size = w.heap.size + 2 := by rw [← hW]; simp
 have HKE : Hid (Blk W w.heap.size (.cells (enB e A c D d) 38)) := by rw [← hW]; exact (Blk.new _ _).alloc _
 have HKG : Hid (Blk W (w.heap.size + 1) (.cells (gnB g P cp T ct L cl) 44)) := by
  rw [← hW]
  have e1 := Blk.new (w.alloc (.cells #[.int .i64 e.life, .int .i64 e.peer, .int .i64 e.phase, .int .i64 e.base, .slice A e.out.length c, .int .i64 e.want, .slice D e.inn.length d] 38)) (.cells #[.slice P g.packets.length cp, .slice T g.taken.length ct, .slice L g.lost.length cl] 44)
  rw [World.size_alloc] at e1
  exact e1
 have x0 := HKE.out.cell 0 (v := .int .i64 e.life) rfl
 have x1 := HKE.out.cell 1 (v := .int .i64 e.peer) rfl
 have x2 := HKE.out.cell 2 (v := .int .i64 e.phase) rfl
 have x3 := HKE.out.cell 3 (v := .int .i64 e.base) rfl
 have x4 := HKE.out.cell 4 (v := .slice A e.out.length c) rfl
 have x5 := HKE.out.cell 5 (v := .int .i64 e.want) rfl
 have x6 := HKE.out.cell 6 (v := .slice D e.inn.length d) rfl
 have xl := HKE.out.lt
 go_wp2_with fail
 refine (becomes_any B bl l m i HI.out e A c D d W (HLO.out.below HBW.out) (HE.out.frame (Frame.of_all (S := fun _ => False) HBW.out) (fun _ _ _ h => h) (fun _ _ _ h => h)) HG.out HTL.out HOLD.out HNEW.out).mono ?_
 rintro r w1 ⟨rfl, M1, hl1, hs1⟩
 clear x0 x1 x2 x3 x4 x5 x6 xl hW
 obtain ⟨L1, HL1⟩ : ∃ L1, Hid (becomesA l i e = L1) := ⟨_, rfl⟩
 rw [HL1.out] at hl1 hs1 HN1 HB1 HTE
 have HLO1 := Lib.hid hl1
 have HLS1 : Hid (Ls bl l m w L1 M1 w1) := (Ls.of_below HBW.out).trans hs1
 have HKG1 : Hid (Blk w1 (w.heap.size + 1) (.cells (gnB g P cp T ct L cl) 44)) := HKG.out.frame hs1.fr ((HLO.out.below HBW.out).ne HKG.out (by decide) (by decide) (by decide) (by decide))
 obtain ⟨nn, HNN⟩ : ∃ nn, Hid (L1.now i = nn) := ⟨_, rfl⟩
 have v3 := hl1.nowc HI.out
 rw [hp.out, HNN.out] at v3
 have v5 := hl1.box.lt
 obtain ⟨L2, HL2⟩ : ∃ L2, Hid ((if 0 ≤ L1.now i then { L1 with tales := setAt (takeT g) (L1.now i).toNat L1.tales } else L1) = L2) := ⟨_, rfl⟩
 rw [HL2.out] at HTE
 have HW2 : Hid (L2.wire = L1.wire) := by show _ = _; rw [← HL2.out]; split <;> rfl
 clear hl1 hs1
 go_upto_if 20 with fail
 go_cut [] from 9 (fun wx => ∃ M2, Lo wx B bl L2 M2 ∧ Ls bl l m w L2 M2 wx ∧ Blk wx (w.heap.size + 1) (.cells (gnB g P cp T ct L cl) 44))
 case first =>
  by_cases h0 : 0 ≤ nn
  ·have q0 : decide (0 ≤ nn) = true := decide_eq_true h0
   obtain ⟨k, t, hk, ht⟩ := HN1.out.get (by rw [HNN.out]; exact h0)
   rw [HNN.out] at hk
   subst hk
   obtain ⟨z, gb, hz, hzv, hTg, hkz, hgl, ⟨cur, hgb⟩, s3, s4, s5, sf⟩ := HLO1.out.tale ht
   have c15 := HLO1.out.box.cell 15 (v := .slice M1.T M1.zs.length M1.ct) rfl
   rw [hTg] at c15
   have hix7 : ∀ w', (Instr.indexAt 26 (.slice (some ⟨gb, 0, none⟩) M1.zs.length M1.ct) (.int .i64 (k : Int))).run Tryd.prog w' = .ok (.pointer (some ⟨gb, k * 6, none⟩)) w' := fun w' => ix57 hkz w'
   obtain ⟨q6, Hq6⟩ : ∃ q6, Hid (k * 6 = q6) := ⟨_, rfl⟩
   rw [Hq6.out] at hix7 s3 s4 s5
   have HZ := Lib.hid hz
   have HZV := Lib.hid hzv
   have HTG := Lib.hid hTg
   have HGB := Lib.hid hgb
   have HTK := Lib.hid ht
   have HZX : Hid ((txs M1.zs)[k * 3 + 2]? = some (.slice z.K z.v.taken.length z.ck, z.v.taken)) := by
    show _ = _
    unfold txs
    rw [flatg_get tx_len M1.zs k 2 (by decide), hz]
    rfl
   have HXO : Hid (w1.drew.ownsRow B 9 1 (.slice z.K z.v.taken.length z.ck) z.v.taken.length (strs z.v.taken)) := HLO1.out.txt.own (.slice z.K z.v.taken.length z.ck, z.v.taken) (List.mem_of_getElem? HZX.out)
   have hnb : ∀ b cs ty, Blk w1 b (.cells cs ty) → ty ≠ 9 → ¬ (Value.slice z.K z.v.taken.length z.ck).ownBlock = some b := fun b cs ty hb ht e2 => own_ne HXO.out hb (fun e3 => ht e3.symm) e2
   have HNB := Lib.hid hnb
   have ng : ¬ (Value.slice z.K z.v.taken.length z.ck).ownBlock = some gb := HNB.out _ _ _ HGB.out (by decide)
   have HZN : Hid (z.v.taken.length ≤ 100000004) := by show _ ≤ _; have h1 := (HB1.out.txt t (List.mem_of_getElem? ht)).2.2; rw [hzv]; omega
   have hzn := HZN.out
   have hlo := HLO1.out.lo
   have HCT : Hid (Cells w1.drew T (strs g.taken)) := (HKO.out.step HLS1.out).at_.below (Below.refl _ _).drew (Nat.le_refl _)
   clear hnb hz hzv hTg hkz hgb ht h0 s3 s4 sf
   go_upto_region 4 with fail
   refine drawl (fun w' => Frame (fun b => (Value.slice z.K z.v.taken.length z.ck).ownBlock = some b) w1 w') 18 18 rfl (by kernel_rfl) (fun Qd hQd => ?_)
   apply anyL_step 0 (by kernel_rfl) rfl (by kernel_rfl)
   focus (intro wI hI Kv hKv; have u0 := (HLO1.out.box.frame hI (HNB.out _ _ _ HLO1.out.box (by decide))).cell 15 (v := .slice M1.T M1.zs.length M1.ct) rfl; rw [HTG.out] at u0; have u1 := (HKG1.out.frame hI (HNB.out _ _ _ HKG1.out (by decide))).cell 1 (v := .slice T g.taken.length ct) rfl; have u3 := cell_frame hI hgl ng s5; go_simp; exact hKv)
   intro Kd hKd
   go_simp
   refine hKd _ ?_
   clear hKd Kd
   apply anyL_step 4 (by kernel_rfl) rfl (by kernel_rfl)
   focus (intro wI hI Kv hKv; have u0 := (HLO1.out.box.frame hI (HNB.out _ _ _ HLO1.out.box (by decide))).cell 15 (v := .slice M1.T M1.zs.length M1.ct) rfl; rw [HTG.out] at u0; have u1 := (HKG1.out.frame hI (HNB.out _ _ _ HKG1.out (by decide))).cell 1 (v := .slice T g.taken.length ct) rfl; have u3 := cell_frame hI hgl ng s5; go_simp; exact hKv)
   intro Kd hKd
   go_simp
   refine hKd _ ?_
   clear hKd Kd
   apply anyL_step 5 (by kernel_rfl) rfl (by kernel_rfl)
   focus (intro wI hI Kv hKv; have u0 := (HLO1.out.box.frame hI (HNB.out _ _ _ HLO1.out.box (by decide))).cell 15 (v := .slice M1.T M1.zs.length M1.ct) rfl; rw [HTG.out] at u0; have u1 := (HKG1.out.frame hI (HNB.out _ _ _ HKG1.out (by decide))).cell 1 (v := .slice T g.taken.length ct) rfl; have u3 := cell_frame hI hgl ng s5; go_simp; exact hKv)
   intro Kd hKd
   go_simp
   refine hKd _ ?_
   clear hKd Kd
   apply anyL_step 9 (by kernel_rfl) rfl (by kernel_rfl)
   focus (intro wI hI Kv hKv; have u0 := (HLO1.out.box.frame hI (HNB.out _ _ _ HLO1.out.box (by decide))).cell 15 (v := .slice M1.T M1.zs.length M1.ct) rfl; rw [HTG.out] at u0; have u1 := (HKG1.out.frame hI (HNB.out _ _ _ HKG1.out (by decide))).cell 1 (v := .slice T g.taken.length ct) rfl; have u3 := cell_frame hI hgl ng s5; go_simp; exact hKv)
   intro Kd hKd
   go_simp
   refine hKd _ ?_
   clear hKd Kd
   apply anyL_step 13 (by kernel_rfl) rfl (by kernel_rfl)
   focus (intro wI hI Kv hKv; have u0 := (HLO1.out.box.frame hI (HNB.out _ _ _ HLO1.out.box (by decide))).cell 15 (v := .slice M1.T M1.zs.length M1.ct) rfl; rw [HTG.out] at u0; have u1 := (HKG1.out.frame hI (HNB.out _ _ _ HKG1.out (by decide))).cell 1 (v := .slice T g.taken.length ct) rfl; have u3 := cell_frame hI hgl ng s5; go_simp; exact hKv)
   intro Kd hKd
   go_simp
   refine hKd _ ?_
   clear hKd Kd
   apply anyL_step 1 (by kernel_rfl) rfl (by kernel_rfl)
   focus (intro wI hI Kv hKv; have u0 := (HLO1.out.box.frame hI (HNB.out _ _ _ HLO1.out.box (by decide))).cell 15 (v := .slice M1.T M1.zs.length M1.ct) rfl; rw [HTG.out] at u0; have u1 := (HKG1.out.frame hI (HNB.out _ _ _ HKG1.out (by decide))).cell 1 (v := .slice T g.taken.length ct) rfl; have u3 := cell_frame hI hgl ng s5; go_simp; exact hKv)
   intro Kd hKd
   go_simp
   refine hKd _ ?_
   clear hKd Kd
   apply anyL_step 6 (by kernel_rfl) rfl (by kernel_rfl)
   focus (intro wI hI Kv hKv; have u0 := (HLO1.out.box.frame hI (HNB.out _ _ _ HLO1.out.box (by decide))).cell 15 (v := .slice M1.T M1.zs.length M1.ct) rfl; rw [HTG.out] at u0; have u1 := (HKG1.out.frame hI (HNB.out _ _ _ HKG1.out (by decide))).cell 1 (v := .slice T g.taken.length ct) rfl; have u3 := cell_frame hI hgl ng s5; go_simp; exact hKv)
   intro Kd hKd
   go_simp
   refine hKd _ ?_
   clear hKd Kd
   apply anyL_step 14 (by kernel_rfl) rfl (by kernel_rfl)
   focus (intro wI hI Kv hKv; have u0 := (HLO1.out.box.frame hI (HNB.out _ _ _ HLO1.out.box (by decide))).cell 15 (v := .slice M1.T M1.zs.length M1.ct) rfl; rw [HTG.out] at u0; have u1 := (HKG1.out.frame hI (HNB.out _ _ _ HKG1.out (by decide))).cell 1 (v := .slice T g.taken.length ct) rfl; have u3 := cell_frame hI hgl ng s5; go_simp; exact hKv)
   intro Kd hKd
   go_simp
   refine hKd _ ?_
   clear hKd Kd
   apply anyL_step 2 (by kernel_rfl) rfl (by kernel_rfl)
   focus (intro wI hI Kv hKv; have u0 := (HLO1.out.box.frame hI (HNB.out _ _ _ HLO1.out.box (by decide))).cell 15 (v := .slice M1.T M1.zs.length M1.ct) rfl; rw [HTG.out] at u0; have u1 := (HKG1.out.frame hI (HNB.out _ _ _ HKG1.out (by decide))).cell 1 (v := .slice T g.taken.length ct) rfl; have u3 := cell_frame hI hgl ng s5; go_simp; exact hKv)
   intro Kd hKd
   go_simp
   refine hKd _ ?_
   clear hKd Kd
   apply anyL_step 7 (by kernel_rfl) rfl (by kernel_rfl)
   focus (intro wI hI Kv hKv; have u0 := (HLO1.out.box.frame hI (HNB.out _ _ _ HLO1.out.box (by decide))).cell 15 (v := .slice M1.T M1.zs.length M1.ct) rfl; rw [HTG.out] at u0; have u1 := (HKG1.out.frame hI (HNB.out _ _ _ HKG1.out (by decide))).cell 1 (v := .slice T g.taken.length ct) rfl; have u3 := cell_frame hI hgl ng s5; go_simp; exact hKv)
   intro Kd hKd
   go_simp
   refine hKd _ ?_
   clear hKd Kd
   apply anyL_step 3 (by kernel_rfl) rfl (by kernel_rfl)
   focus (intro wI hI Kv hKv; have u0 := (HLO1.out.box.frame hI (HNB.out _ _ _ HLO1.out.box (by decide))).cell 15 (v := .slice M1.T M1.zs.length M1.ct) rfl; rw [HTG.out] at u0; have u1 := (HKG1.out.frame hI (HNB.out _ _ _ HKG1.out (by decide))).cell 1 (v := .slice T g.taken.length ct) rfl; have u3 := cell_frame hI hgl ng s5; go_simp; exact hKv)
   intro Kd hKd
   go_simp
   refine hKd _ ?_
   clear hKd Kd
   apply anyL_step 8 (by kernel_rfl) rfl (by kernel_rfl)
   focus (intro wI hI Kv hKv; have u0 := (HLO1.out.box.frame hI (HNB.out _ _ _ HLO1.out.box (by decide))).cell 15 (v := .slice M1.T M1.zs.length M1.ct) rfl; rw [HTG.out] at u0; have u1 := (HKG1.out.frame hI (HNB.out _ _ _ HKG1.out (by decide))).cell 1 (v := .slice T g.taken.length ct) rfl; have u3 := cell_frame hI hgl ng s5; go_simp; exact hKv)
   intro Kd hKd
   go_simp
   refine hKd _ ?_
   clear hKd Kd
   apply anyL_step 10 (by kernel_rfl) rfl (by kernel_rfl)
   focus (intro wI hI Kv hKv; have u0 := (HLO1.out.box.frame hI (HNB.out _ _ _ HLO1.out.box (by decide))).cell 15 (v := .slice M1.T M1.zs.length M1.ct) rfl; rw [HTG.out] at u0; have u1 := (HKG1.out.frame hI (HNB.out _ _ _ HKG1.out (by decide))).cell 1 (v := .slice T g.taken.length ct) rfl; have u3 := cell_frame hI hgl ng s5; go_simp; exact hKv)
   intro Kd hKd
   go_simp
   refine hKd _ ?_
   clear hKd Kd
   apply anyL_step 11 (by kernel_rfl) rfl (by kernel_rfl)
   focus (intro wI hI Kv hKv; have u0 := (HLO1.out.box.frame hI (HNB.out _ _ _ HLO1.out.box (by decide))).cell 15 (v := .slice M1.T M1.zs.length M1.ct) rfl; rw [HTG.out] at u0; have u1 := (HKG1.out.frame hI (HNB.out _ _ _ HKG1.out (by decide))).cell 1 (v := .slice T g.taken.length ct) rfl; have u3 := cell_frame hI hgl ng s5; go_simp; exact hKv)
   intro Kd hKd
   go_simp
   refine hKd _ ?_
   clear hKd Kd
   apply anyL_step 12 (by kernel_rfl) rfl (by kernel_rfl)
   focus (intro wI hI Kv hKv; have u0 := (HLO1.out.box.frame hI (HNB.out _ _ _ HLO1.out.box (by decide))).cell 15 (v := .slice M1.T M1.zs.length M1.ct) rfl; rw [HTG.out] at u0; have u1 := (HKG1.out.frame hI (HNB.out _ _ _ HKG1.out (by decide))).cell 1 (v := .slice T g.taken.length ct) rfl; have u3 := cell_frame hI hgl ng s5; go_simp; exact hKv)
   intro Kd hKd
   go_simp
   refine hKd _ ?_
   clear hKd Kd
   refine anyL_one 15 rfl (by kernel_rfl) ((Frame.refl _ w1).drew) (fun Kd hKd => ?_)
   go_wp2_with (at_builtin; go_must (refine wpList_appN rSt _ rfl _ _ rfl HXO.out rfl T g.taken.length ct (strs g.taken) rfl (fun h => ⟨by have h1 := HCT.out; rw [h] at h1; have h2 := cells_none h1; have h3 := strs_len g.taken; rw [h2] at h3; simpa using h3.symm, HT0.out h⟩) HCT.out (by rw [strs_len]; omega) (stC_one g.taken) (by omega) (by show B ≤ w1.heap.size; omega) ?_); intro v6 w6 ho6 hB6 hg6 hloc6; obtain ⟨A6, c6, rfl⟩ := own_fits ho6)
   have HG6 : Hid (Frame (fun b => (Value.slice z.K z.v.taken.length z.ck).ownBlock = some b) w1 w6) := (Frame.refl _ w1).drew.trans (Frame.of_grown hg6) (fun _ _ h => h)
   have k2 := cell_frame HG6.out hgl ng s5
   have k3 := (HGB.out.frame HG6.out ng).free (q6 + 5)
   have k4 := (HGB.out.frame HG6.out ng).lt
   have HO6 := Lib.hid ho6
   have HL6 := Lib.hid hloc6
   clear ho6 hB6 hg6 hloc6
   refine anyL_one 16 rfl (by kernel_rfl) (HG6.out) (fun Kd hKd => ?_)
   go_wp2
   apply anyL_step 17 (by kernel_rfl) rfl (by kernel_rfl)
   focus (intro wI hI Kv hKv; go_simp; exact hKv)
   intro Kd hKd
   go_simp
   refine hKd _ ?_
   clear hKd Kd
   refine anyL_end rfl (by kernel_rfl) (HG6.out) (fun Kd hKd => ?_)
   go_wp2_with fail
   go_meet
   have e1 : (z.v.taken ++ g.taken).length = z.v.taken.length + g.taken.length := List.length_append
   have ho : w6.ownsRow B 9 1 (.slice A6 (z.v.taken ++ g.taken).length c6) (z.v.taken ++ g.taken).length (strs (z.v.taken ++ g.taken)) := by
    rw [e1, strs_app]
    exact HO6.out
   have hst := HLO1.out.setText (k := k) (j := 2) (g := gb) (z := z) (z' := { z with v := { z.v with taken := z.v.taken ++ g.taken }, K := A6, ck := c6 }) (x := (.slice z.K z.v.taken.length z.ck, z.v.taken)) HZ.out (by omega) HTG.out rfl rfl rfl HG6.out ho (by rw [e1]; exact HL6.out)
   have e2 : ({ L1 with tales := L1.tales.set k { z.v with taken := z.v.taken ++ g.taken } } : Lp) = L2 := by
    rw [← HL2.out, HNN.out, if_pos (by omega), Int.toNat_natCast, setAt_eq HTK.out, HZV.out]
    rfl
   have e4 : k * 6 + (3 + 2) = q6 + 5 := by have := Hq6.out; omega
   rw [e1, e4] at hst
   simp only [e2] at hst
   exact ⟨_, hst.1, HLS1.out.trans hst.2, HKG1.out.frame hst.2.fr (HLO1.out.ne HKG1.out (by decide) (by decide) (by decide) (by decide))⟩
  ·have q0 : decide (0 ≤ nn) = false := decide_eq_false h0
   have e2 : L1 = L2 := by rw [← HL2.out, HNN.out, if_neg h0]
   go_wp2_with fail
   go_meet
   rw [← e2]
   exact ⟨M1, HLO1.out, HLS1.out, HKG1.out⟩
 case rest =>
  obtain ⟨M2, hl2, hs2, hk2⟩ := hcut
  have HLO2 := Lib.hid hl2
  have HLS2 := Lib.hid hs2
  have u1 := hk2.cell 0 (v := .slice P g.packets.length cp) rfl
  have u2 := hk2.lt
  clear hl2 hs2 hk2
  go_wp2_with fail
  refine (way_any B bl L2 M2 i P cp g.packets wc HLO2.out HI.out (HPO.out.step HLS2.out) (by rw [HW2.out]; have := HB1.out.wire; omega)).mono ?_
  rintro r w9 ⟨rfl, M9, hl9, hs9⟩
  go_wp2
  go_end0
  rw [HTE.out]
  exact ⟨rfl, M9, hl9, HLS2.out.trans hs9⟩
end Go.Proofs.YtejabnoidhlfaaaDoor
