/- Contracts of the reference: acked, came. -/
import Derived.Test.YtejabnoidhlfaaaT1
import Derived.Test.YtejabnoidhlfaaaS50

/- Contract of the reference: acked. -/
namespace Go.Proofs.Ytejabnoidhlfaaa
open Go.RowKit Go.Maps

theorem bitN_all : ((List.range 8).all fun h => (List.range 3).all fun j => (h / 2 ^ j % 2 == 1) == bitAt (h : Int) j) = true := by kernel_rfl
theorem bitN_is {H k : Nat} (h : H ≤ 7) (hk : k < 3) : (H / 2 ^ k % 2 == 1) = bitAt (H : Int) k := by
  have h1 := List.all_eq_true.1 bitN_all H (List.mem_range.2 (by omega))
  have h2 := List.all_eq_true.1 h1 k (List.mem_range.2 hk)
  simpa using h2
theorem ou_frame {V wr : World} {B b o : Nat} {cur : Array Value} {v : Value} (hF : Frame (fun b => B ≤ b ∧ ∃ cur, Blk V b (.cells cur 71)) V wr) (hBb : B ≤ b) (hbk : Blk wr b (.cells cur 71)) :
    Frame (fun b => B ≤ b ∧ ∃ cur, Blk V b (.cells cur 71)) V (wr.setCell ⟨b, o, none⟩ v) := by
  refine hF.setCell (p := ⟨b, o, none⟩) ?_ _
  rcases Nat.lt_or_ge b V.heap.size with hlt2 | hge
  · refine .inl ⟨hBb, ?_⟩
    by_cases hs : ∃ cur, Blk V b (.cells cur 71)
    · exact hs
    · have h1 := hF.block b hlt2 (fun h => hs h.2)
      exact ⟨cur, h1.symm.trans hbk⟩
  · exact .inr hge
/-- What acked gives. -/
structure AkPost (B : Nat) (e : En) (p : Pk) (n : Nat) (A' : Option Addr) (c' : Nat) (w w' : World) : Prop where
  out : Cells w' A' (ous (ackedA e p n).out)
  row : RowAt w' B A' (ackedA e p n).out
  cap : (ackedA e p n).out.length ≤ c'
  nil : A' = none → c' = 0
  fr : Frame (fun b => B ≤ b ∧ ∃ cur, Blk w b (.cells cur 71)) w w'
set_option maxRecDepth 100000 in
set_option maxHeartbeats 8000000 in
theorem acked59_any (B : Nat) (e : En) (A : Option Addr) (c : Nat) (D : Option Addr) (d : Nat) (p : Pk) (n : Nat) (w : World) (h : EnAt w e A D) (hr : RowAt w B A e.out) (hcap : e.out.length ≤ c) (hnl : A = none → c = 0) (hb : 0 ≤ e.base ∧ e.base ≤ most) (hac : 0 ≤ p.ack ∧ p.ack ≤ most) (hheld : 0 ≤ p.held ∧ p.held ≤ 7) (hn : n ≤ e.out.length) (hlen : e.out.length ≤ 12) (_hBw : B ≤ w.heap.size) :
    Calls Try.prog 59 #[enV e A c D d, pkV p, .int .i64 n] w fun r w' => ∃ A' c', r = .returned (enV (ackedA e p n) A' c' D d) ∧ AkPost B e p n A' c' w w' := by
  unfold most at hb hac
  have HE := Lib.hid h
  have HR := Lib.hid hr
  have hw1 : IntKind.i64.wrap (p.ack - e.base) = p.ack - e.base := wrap_ok ⟨by omega, by omega⟩
  have HHD := Lib.hid hheld
  clear h hr
  unfold enV pkV
  go_enter Try.func59, Try.ntmps59
  obtain ⟨W, hW⟩ : ∃ W, ((w.alloc (.cells #[.int .i64 e.life, .int .i64 e.peer, .int .i64 e.phase, .int .i64 e.base, .slice A e.out.length c, .int .i64 e.want, .slice D e.inn.length d] 26)).alloc (.cells #[.int .i64 p.kind, .int .i64 p.frm, .int .i64 p.to, .int .i64 p.num, .string p.t, .int .i64 p.ack, .int .i64 p.held] 44)).alloc (.cells #[.int .i64 0, .int .i64 0, .int .i64 0, .int .i64 0, .slice none 0 0, .int .i64 0, .slice none 0 0] 26) = W := ⟨_, rfl⟩
  have HBW : Hid (Below w.heap.size w W) := by rw [← hW]; exact ((((Below.refl _ w).alloc (Nat.le_refl _) _).alloc (by simp) _).alloc (by simp; omega) _)
  have hsW : W.heap.size = w.heap.size + 3 := by rw [← hW]; simp
  have HK1 : Hid (Blk W w.heap.size (.cells (enB e A c D d) 26)) := by rw [← hW]; exact ((Blk.new _ _).alloc _).alloc _
  have HKP : Hid (Blk W (w.heap.size + 1) (.cells (pkB p) 44)) := by
    rw [← hW]
    have e1 := (Blk.new (w.alloc (.cells (enB e A c D d) 26)) (.cells (pkB p) 44)).alloc (.cells (enB noEn none 0 none 0) 26)
    rw [World.size_alloc] at e1
    exact e1
  have HK2 : Hid (Blk W (w.heap.size + 1 + 1) (.cells (enB noEn none 0 none 0) 26)) := by
    rw [← hW]
    have e1 := Blk.new ((w.alloc (.cells (enB e A c D d) 26)).alloc (.cells (pkB p) 44)) (.cells (enB noEn none 0 none 0) 26)
    rw [World.size_alloc, World.size_alloc] at e1
    exact e1
  have q9 := HK1.out
  have x0 := q9.cell 0 (v := .int .i64 e.life) rfl
  have x1 := q9.cell 1 (v := .int .i64 e.peer) rfl
  have x2 := q9.cell 2 (v := .int .i64 e.phase) rfl
  have x3 := q9.cell 3 (v := .int .i64 e.base) rfl
  have x4 := q9.cell 4 (v := .slice A e.out.length c) rfl
  have x5 := q9.cell 5 (v := .int .i64 e.want) rfl
  have x6 := q9.cell 6 (v := .slice D e.inn.length d) rfl
  have xl := q9.lt
  clear q9
  have q9 := HKP.out
  have p5 := q9.cell 5 (v := .int .i64 p.ack) rfl
  have p6 := q9.cell 6 (v := .int .i64 p.held) rfl
  have pl := q9.lt
  clear q9
  go_upto_region 1 with fail
  clear hW
  by_cases hno : p.ack < e.base ∨ e.base + n < p.ack
  · have HAK : Hid (ackedA e p n = e) := by show _ = _; unfold ackedA; rw [if_pos hno]
    have q2 : decide ((n : Int) < p.ack - e.base) = (!decide (p.ack < e.base)) := by
      by_cases h1 : p.ack < e.base
      · rw [decide_eq_true h1, decide_eq_false (by omega)]; rfl
      · rw [decide_eq_false h1, decide_eq_true (by omega)]; rfl
    have HQ2 := Lib.hid q2
    have q9 := HK2.out
    have z0 := q9.cell 0 (v := .int .i64 0) rfl
    have z1 := q9.cell 1 (v := .int .i64 0) rfl
    have z2 := q9.cell 2 (v := .int .i64 0) rfl
    have z3 := q9.cell 3 (v := .int .i64 0) rfl
    have z4 := q9.cell 4 (v := .slice none 0 0) rfl
    have z5 := q9.cell 5 (v := .int .i64 0) rfl
    have z6 := q9.cell 6 (v := .slice none 0 0) rfl
    have u0 := q9.free 0
    have u1 := q9.free 1
    have u2 := q9.free 2
    have u3 := q9.free 3
    have u4 := q9.free 4
    have u5 := q9.free 5
    have u6 := q9.free 6
    have ul := q9.lt
    clear q9
    obtain ⟨b1, q1⟩ : ∃ b, decide (p.ack < e.base) = b := ⟨_, rfl⟩
    clear hno hac hb hheld q2
    cases b1 with
    | true =>
      go_wp2
      have hl := load26 (setEn_blk (e := e) (A := A) (c := c) (B := D) (d := d) HK2.out)
      have hf := setEn_frame (e := e) (A := A) (c := c) (B := D) (d := d) (S := fun b => B ≤ b ∧ ∃ cur, Blk w b (.cells cur 71)) (Frame.of_all HBW.out) (b := w.heap.size + 1 + 1) (.inr (by omega))
      refine bodyPost_ret (v := enV e A c D d) (results_c rfl rfl hl) rfl ?_
      rw [HAK.out]
      have hb2 := setEn_below (e := e) (A := A) (c := c) (B := D) (d := d) HBW.out (show w.heap.size ≤ w.heap.size + 1 + 1 by omega)
      exact ⟨A, c, rfl, by rw [HAK.out]; exact HE.out.out.below hb2 (Nat.le_refl _), by rw [HAK.out]; exact HR.out.frame (Frame.of_all (S := fun _ => False) hb2) (fun _ _ _ h => h), by rw [HAK.out]; exact hcap, hnl, hf⟩
    | false =>
      have q2 : decide ((n : Int) < p.ack - e.base) = true := by rw [HQ2.out, q1]; rfl
      go_wp2
      have hl := load26 (setEn_blk (e := e) (A := A) (c := c) (B := D) (d := d) HK2.out)
      have hf := setEn_frame (e := e) (A := A) (c := c) (B := D) (d := d) (S := fun b => B ≤ b ∧ ∃ cur, Blk w b (.cells cur 71)) (Frame.of_all HBW.out) (b := w.heap.size + 1 + 1) (.inr (by omega))
      refine bodyPost_ret (v := enV e A c D d) (results_c rfl rfl hl) rfl ?_
      rw [HAK.out]
      have hb2 := setEn_below (e := e) (A := A) (c := c) (B := D) (d := d) HBW.out (show w.heap.size ≤ w.heap.size + 1 + 1 by omega)
      exact ⟨A, c, rfl, by rw [HAK.out]; exact HE.out.out.below hb2 (Nat.le_refl _), by rw [HAK.out]; exact HR.out.frame (Frame.of_all (S := fun _ => False) hb2) (fun _ _ _ h => h), by rw [HAK.out]; exact hcap, hnl, hf⟩
  · obtain ⟨g, hgn⟩ : ∃ g : Nat, p.ack = e.base + g := ⟨(p.ack - e.base).toNat, by omega⟩
    have hgn1 : g ≤ n := by omega
    have HAK : Hid (ackedA e p n = { e with out := markA p.held (n - g) 0 (e.out.drop g), base := p.ack }) := by
      show _ = _
      unfold ackedA
      rw [if_neg hno]
      have : (p.ack - e.base).toNat = g := by omega
      simp only [this]
    have hw2 : IntKind.i64.wrap (p.ack - e.base) = (g : Int) := by rw [hw1]; omega
    have q1 : decide (p.ack < e.base) = false := decide_eq_false (by omega)
    have q2 : decide ((n : Int) < (g : Int)) = false := decide_eq_false (by omega)
    have hcut := cut_run (A := A) (n := e.out.length) (c := c) (g := g) (by omega) hcap
    obtain ⟨H, hH⟩ : ∃ H : Nat, p.held = (H : Int) := Int.eq_ofNat_of_zero_le hheld.1
    have hH7 : H ≤ 7 := by omega
    have HH := Lib.hid hH
    have y3 := HK1.out.free 3
    have y4 := HK1.out.free 4
    clear hw1 hno hac hb hH hheld hgn
    go_wp2_with fail
    obtain ⟨V, hV⟩ : ∃ V, (W.setCell ⟨w.heap.size, 4, none⟩ (.slice (cutA A c g) (e.out.length - g) (c - g))).setCell ⟨w.heap.size, 3, none⟩ (.int .i64 p.ack) = V := ⟨_, rfl⟩
    have HFV : Hid (Frame (fun b => b = w.heap.size) W V) := by rw [← hV]; exact ((Frame.refl (fun b => b = w.heap.size) W).setCell (p := ⟨_, 4, none⟩) (.inl rfl) _).setCell (p := ⟨_, 3, none⟩) (.inl rfl) _
    obtain ⟨l0, hl0⟩ : ∃ l0, e.out.drop g = l0 := ⟨_, rfl⟩
    have hl0n : l0.length = e.out.length - g := by rw [← hl0]; simp
    obtain ⟨E, HEE⟩ : ∃ E : En, Hid (({ e with out := markA p.held (n - g) 0 l0, base := p.ack } : En) = E) := ⟨_, rfl⟩
    have HEL : Hid (E.out.length = l0.length) := by show _ = _; rw [← HEE.out]; exact markA_len _ _ _ _
    have HKV : Hid (Blk V w.heap.size (.cells (enB E (cutA A c g) (c - g) D d) 26)) := by
      unfold enB
      rw [HEL.out, hl0n, ← hV, ← HEE.out]
      exact (HK1.out.set 4 _).set 3 _
    have HBV : Hid (Below w.heap.size w V) := by rw [← hV]; exact (HBW.out.setCell (Nat.le_refl _) _).setCell (Nat.le_refl _) _
    have HEV := Lib.hid (HE.out.below HBV.out)
    have HRV : Hid (RowAt V B (cutA A c g) l0) := by
      show RowAt _ _ _ _
      rw [← hl0]
      exact cut_row (HR.out.frame (Frame.of_all (S := fun _ => False) HBV.out) (fun _ _ _ h => h)) hcap
    have HOV : Hid (Cells V (cutA A c g) (ous l0)) := by
      show Cells _ _ _
      rw [← hl0]
      exact cut_cells HEV.out.out (by omega) hcap
    have HKPV := Lib.hid (HKP.out.frame HFV.out (by show ¬ _ = _; omega))
    have HK2V := Lib.hid (HK2.out.frame HFV.out (by show ¬ _ = _; omega))
    rw [hl0] at HAK
    rw [HEE.out] at HAK
    rw [hV]
    have hl0s : l0.length + g = e.out.length := by omega
    have hsV := HBV.out.size
    clear hl0n x0 x1 x2 x3 x4 x5 x6 xl y3 y4 p5 p6 pl q1 q2 hw2 hcut hV hl0
    go_loopg [8, 9] 3 (fun gk bv jv wr => ∃ k : Nat, k + gk = 3 ∧ jv = .int .i64 (k : Int) ∧ bv = .int .i64 ((H / 2 ^ k : Nat) : Int) ∧ Cells wr (cutA A c g) (ous (ackTo p.held (n - g) l0 k)) ∧ RowAt wr B (cutA A c g) (ackTo p.held (n - g) l0 k) ∧ Frame (fun b => B ≤ b ∧ ∃ cur, Blk V b (.cells cur 71)) V wr)
    case atStart => exact ⟨0, rfl, rfl, by rw [HH.out, Nat.pow_zero, Nat.div_one], HOV.out, HRV.out, Frame.refl _ _⟩
    case round =>
      obtain ⟨k, hk, rfl, rfl, hou, hro, hF⟩ := hrel
      have HKK := Lib.hid hk
      have HOU := Lib.hid hou
      have HRO := Lib.hid hro
      have HF := Lib.hid hF
      have hal := ackTo_len p.held (n - g) l0 k
      have HKr := Lib.hid (HKV.out.frame hF (fun ⟨_, cur, hcur⟩ => blk_ne hcur HKV.out (by decide) rfl))
      have HK2r := Lib.hid (HK2V.out.frame hF (fun ⟨_, cur, hcur⟩ => blk_ne hcur HK2V.out (by decide) rfl))
      have hsr := hF.size
      clear hk hou hro hF
      have q9 := HKr.out
      have x0 := q9.cell 0 (v := .int .i64 E.life) rfl
      have x1 := q9.cell 1 (v := .int .i64 E.peer) rfl
      have x2 := q9.cell 2 (v := .int .i64 E.phase) rfl
      have x3 := q9.cell 3 (v := .int .i64 E.base) rfl
      have x4 := q9.cell 4 (v := .slice (cutA A c g) E.out.length (c - g)) rfl
      have x5 := q9.cell 5 (v := .int .i64 E.want) rfl
      have x6 := q9.cell 6 (v := .slice D E.inn.length d) rfl
      have xl := q9.lt
      clear q9
      by_cases hlt : k < 3
      · have hd3 : decide ((k : Int) < 3) = true := decide_eq_true (by omega)
        obtain ⟨X, hX⟩ : ∃ X : Nat, H / 2 ^ k = X := ⟨_, rfl⟩
        have HX2 : Hid (H / 2 ^ (k + 1) = X / 2) := by show _ = _; rw [← hX, Nat.pow_succ, Nat.div_div_eq_div_mul]
        have hX7 : X ≤ 7 := by rw [← hX]; exact Nat.le_trans (Nat.div_le_self _ _) hH7
        have hbb := bitN_is hH7 hlt
        rw [hX] at hbb ⊢
        have HBB := Lib.hid hbb
        obtain ⟨b1, hb1⟩ : ∃ b, bitAt (H : Int) k = b := ⟨_, rfl⟩
        have hbi : (((X : Int) % 2) == 1) = b1 := by
          rw [← hb1, ← hbb, Bool.eq_iff_iff]
          simp only [beq_iff_eq]
          omega
        have HB1 : Hid (bitAt p.held k = b1) := by show _ = _; rw [HH.out, hb1]
        have hwj : IntKind.i64.wrap (1 + (k : Int)) = 1 + (k : Int) := wrap_ok ⟨by omega, by omega⟩
        have hwk : IntKind.i64.wrap ((k : Int) + 1) = (k : Int) + 1 := wrap_ok ⟨by omega, by omega⟩
        have hwg : IntKind.i64.wrap ((n : Int) - (g : Int)) = (n : Int) - (g : Int) := wrap_ok ⟨by omega, by omega⟩
        have HME : Hid (3 - (k + 1) < gk ∧ k + 1 + (3 - (k + 1)) = 3) := by have := HKK.out; show _ ∧ _; clear hwg hwj hwk; omega
        clear hbb hb1 hX hlt
        cases b1 with
        | false =>
          have HST : Hid (ackTo p.held (n - g) l0 (k + 1) = ackTo p.held (n - g) l0 k) := by
            show _ = _
            rw [ackTo, if_neg (by rw [HB1.out]; simp)]
          go_wp2_with fail
          go_roundg (3 - (k + 1))
          case measure => exact HME.out.1
          case rel => exact ⟨k + 1, HME.out.2, rfl, by rw [HX2.out]; rfl, by rw [HST.out]; exact HOU.out, by rw [HST.out]; exact HRO.out, HF.out⟩
        | true =>
          by_cases g1 : 1 + (k : Int) < (n : Int) - (g : Int)
          rotate_left
          · have q1 : decide (1 + (k : Int) < (n : Int) - (g : Int)) = false := decide_eq_false g1
            have HST : Hid (ackTo p.held (n - g) l0 (k + 1) = ackTo p.held (n - g) l0 k) := by
              show _ = _
              rw [ackTo, if_neg]
              rintro ⟨_, h2⟩
              clear hwg hwj hwk
              omega
            clear g1
            go_wp2_with fail
            go_roundg (3 - (k + 1))
            case measure => exact HME.out.1
            case rel => exact ⟨k + 1, HME.out.2, rfl, by rw [HX2.out]; rfl, by rw [HST.out]; exact HOU.out, by rw [HST.out]; exact HRO.out, HF.out⟩
          have q1 : decide (1 + (k : Int) < (n : Int) - (g : Int)) = true := decide_eq_true g1
          have HST : Hid (ackTo p.held (n - g) l0 (k + 1) = setH (ackTo p.held (n - g) l0 k) (1 + k) true) := by
            show _ = _
            rw [ackTo, if_pos ⟨HB1.out, by clear hwg hwj hwk; omega⟩]
          have hk1 : 1 + k < (ackTo p.held (n - g) l0 k).length := by clear hwg hwj hwk; rw [hal]; omega
          obtain ⟨x, b, o, cur, hx, hb, hBb, hbk, hix, hcx, hfx, hcs, hrs⟩ := ou_store (c := c - g) HOU.out HRO.out hk1 true
          rw [hal, ← HEL.out] at hix
          have hix' : ∀ w', (Instr.indexAt 23 (.slice (cutA A c g) E.out.length (c - g)) (.int .i64 (1 + (k : Int)))).run Try.prog w' = .ok (.pointer (some ⟨b, o, none⟩)) w' := by
            have e1 : ((1 + k : Nat) : Int) = 1 + (k : Int) := Int.natCast_add 1 k
            rw [← e1]
            exact hix
          have HCS := Lib.hid hcs
          have HRS := Lib.hid hrs
          have HF2 : Hid (Frame _ V (wr.setCell ⟨b, o + 1, none⟩ (.bool true))) := ou_frame HF.out hBb hbk
          clear hx hix hcs hrs hbk hk1 g1
          go_wp2_with fail
          go_roundg (3 - (k + 1))
          case measure => exact HME.out.1
          case rel => exact ⟨k + 1, HME.out.2, rfl, by rw [HX2.out]; rfl, by rw [HST.out]; exact HCS.out, by rw [HST.out]; exact HRS.out, HF2.out⟩
      · obtain rfl : k = 3 := by have := HKK.out; omega
        have HEO : Hid (E.out = ackFin p.held (n - g) l0) := by show _ = _; rw [← HEE.out]; exact (ackFin_mark _ _ _).symm
        have HCAP : Hid (E.out.length ≤ c - g) := by show _ ≤ _; rw [HEL.out]; omega
        by_cases hpos : 0 < l0.length
        · have q0 : decide (0 < E.out.length) = true := decide_eq_true (by rw [HEL.out]; exact hpos)
          have q3 : decide ((0 : Int) < (E.out.length : Int)) = true := decide_eq_true (by rw [HEL.out]; omega)
          have hk1 : 0 < (ackTo p.held (n - g) l0 3).length := by rw [hal]; exact hpos
          obtain ⟨x, b, o, cur, hx, hb, hBb, hbk, hix, hcx, hfx, hcs, hrs⟩ := ou_store (c := c - g) HOU.out HRO.out hk1 false
          rw [hal, ← HEL.out] at hix
          have hix' : ∀ w', (Instr.indexAt 23 (.slice (cutA A c g) E.out.length (c - g)) (.int .i64 0)).run Try.prog w' = .ok (.pointer (some ⟨b, o, none⟩)) w' := hix
          have HST : Hid (ackFin p.held (n - g) l0 = setH (ackTo p.held (n - g) l0 3) 0 false) := by show _ = _; unfold ackFin; rw [if_pos hpos]
          have hnx : w.heap.size ≠ b := fun e2 => by
            rw [← e2] at hbk
            exact blk_ne hbk HKr.out (by decide) rfl
          have hnz : w.heap.size + 1 + 1 ≠ b := fun e2 => by
            rw [← e2] at hbk
            exact blk_ne hbk HK2r.out (by decide) rfl
          have HFY : Hid (Frame _ V (wr.setCell ⟨b, o + 1, none⟩ (.bool false))) := ou_frame HF.out hBb hbk
          have HKY : Hid (Blk (wr.setCell ⟨b, o + 1, none⟩ (.bool false)) _ _) := HKr.out.far hnx _
          have HK2Y : Hid (Blk (wr.setCell ⟨b, o + 1, none⟩ (.bool false)) _ _) := HK2r.out.far hnz _
          rw [← HST.out, ← HEO.out] at hcs hrs
          have HCY := Lib.hid hcs
          have HRY := Lib.hid hrs
          clear hx hix hcs hrs hbk hk1 hpos hnz
          go_upto_region 15 with fail
          obtain ⟨Y, hY⟩ : ∃ Y, wr.setCell ⟨b, o + 1, none⟩ (.bool false) = Y := ⟨_, rfl⟩
          rw [hY] at HFY HKY HK2Y HCY HRY ⊢
          have hsY := HFY.out.size
          clear hY x0 x1 x2 x3 x4 x5 x6 xl hix' hcx hfx
          have q9 := HKY.out
          have x0 := q9.cell 0 (v := .int .i64 E.life) rfl
          have x1 := q9.cell 1 (v := .int .i64 E.peer) rfl
          have x2 := q9.cell 2 (v := .int .i64 E.phase) rfl
          have x3 := q9.cell 3 (v := .int .i64 E.base) rfl
          have x4 := q9.cell 4 (v := .slice (cutA A c g) E.out.length (c - g)) rfl
          have x5 := q9.cell 5 (v := .int .i64 E.want) rfl
          have x6 := q9.cell 6 (v := .slice D E.inn.length d) rfl
          have xl := q9.lt
          clear q9
          have q9 := HK2Y.out
          have z0 := q9.cell 0 (v := .int .i64 0) rfl
          have z1 := q9.cell 1 (v := .int .i64 0) rfl
          have z2 := q9.cell 2 (v := .int .i64 0) rfl
          have z3 := q9.cell 3 (v := .int .i64 0) rfl
          have z4 := q9.cell 4 (v := .slice none 0 0) rfl
          have z5 := q9.cell 5 (v := .int .i64 0) rfl
          have z6 := q9.cell 6 (v := .slice none 0 0) rfl
          have u0 := q9.free 0
          have u1 := q9.free 1
          have u2 := q9.free 2
          have u3 := q9.free 3
          have u4 := q9.free 4
          have u5 := q9.free 5
          have u6 := q9.free 6
          have ul := q9.lt
          clear q9
          go_wp2
          have hl := load26 (setEn_blk (e := E) (A := cutA A c g) (c := c - g) (B := D) (d := d) HK2Y.out)
          have hf := setEn_frame (e := E) (A := cutA A c g) (c := c - g) (B := D) (d := d) (Frame.refl (fun b => b = w.heap.size + 1 + 1) Y) (.inl rfl)
          have hFY : Frame (fun b => B ≤ b ∧ ∃ cur, Blk w b (.cells cur 71)) w Y := (Frame.of_all HBV.out).trans HFY.out (fun b hb ⟨h1, cur, hc⟩ => ⟨h1, cur, ((HBV.out.block b hb).symm).trans hc⟩)
          have hFX := hFY.trans hf (fun b hb e2 => by omega)
          have hn71 : ∀ b cur, Blk Y b (.cells cur 71) → ¬ b = w.heap.size + 1 + 1 := fun b cur hb e2 => blk_ne hb HK2Y.out (by decide) e2
          refine bodyPost_ret (v := enV E (cutA A c g) (c - g) D d) (results_c rfl rfl hl) rfl ⟨cutA A c g, c - g, by rw [HAK.out]; rfl, by rw [HAK.out]; exact HRY.out.cells HCY.out hf hn71, by rw [HAK.out]; exact HRY.out.frame hf hn71, by rw [HAK.out]; exact HCAP.out, cut_nil hnl, hFX⟩
        · have q0 : decide (0 < E.out.length) = false := decide_eq_false (by rw [HEL.out]; exact hpos)
          have q3 : decide ((0 : Int) < (E.out.length : Int)) = false := decide_eq_false (by rw [HEL.out]; omega)
          have HST : Hid (ackFin p.held (n - g) l0 = ackTo p.held (n - g) l0 3) := by show _ = _; unfold ackFin; rw [if_neg hpos]
          have HCY : Hid (Cells wr (cutA A c g) (ous E.out)) := by rw [HEO.out, HST.out]; exact HOU.out
          have HRY : Hid (RowAt wr B (cutA A c g) E.out) := by rw [HEO.out, HST.out]; exact HRO.out
          clear hpos
          go_upto_region 15 with fail
          obtain ⟨Y, rfl⟩ : ∃ Y, Y = wr := ⟨_, rfl⟩
          have HFY := HF
          have HKY := HKr
          have HK2Y := HK2r
          have hsY := HFY.out.size
          clear x0 x1 x2 x3 x4 x5 x6 xl
          have q9 := HKY.out
          have x0 := q9.cell 0 (v := .int .i64 E.life) rfl
          have x1 := q9.cell 1 (v := .int .i64 E.peer) rfl
          have x2 := q9.cell 2 (v := .int .i64 E.phase) rfl
          have x3 := q9.cell 3 (v := .int .i64 E.base) rfl
          have x4 := q9.cell 4 (v := .slice (cutA A c g) E.out.length (c - g)) rfl
          have x5 := q9.cell 5 (v := .int .i64 E.want) rfl
          have x6 := q9.cell 6 (v := .slice D E.inn.length d) rfl
          have xl := q9.lt
          clear q9
          have q9 := HK2Y.out
          have z0 := q9.cell 0 (v := .int .i64 0) rfl
          have z1 := q9.cell 1 (v := .int .i64 0) rfl
          have z2 := q9.cell 2 (v := .int .i64 0) rfl
          have z3 := q9.cell 3 (v := .int .i64 0) rfl
          have z4 := q9.cell 4 (v := .slice none 0 0) rfl
          have z5 := q9.cell 5 (v := .int .i64 0) rfl
          have z6 := q9.cell 6 (v := .slice none 0 0) rfl
          have u0 := q9.free 0
          have u1 := q9.free 1
          have u2 := q9.free 2
          have u3 := q9.free 3
          have u4 := q9.free 4
          have u5 := q9.free 5
          have u6 := q9.free 6
          have ul := q9.lt
          clear q9
          go_wp2
          have hl := load26 (setEn_blk (e := E) (A := cutA A c g) (c := c - g) (B := D) (d := d) HK2Y.out)
          have hf := setEn_frame (e := E) (A := cutA A c g) (c := c - g) (B := D) (d := d) (Frame.refl (fun b => b = w.heap.size + 1 + 1) Y) (.inl rfl)
          have hFY : Frame (fun b => B ≤ b ∧ ∃ cur, Blk w b (.cells cur 71)) w Y := (Frame.of_all HBV.out).trans HFY.out (fun b hb ⟨h1, cur, hc⟩ => ⟨h1, cur, ((HBV.out.block b hb).symm).trans hc⟩)
          have hFX := hFY.trans hf (fun b hb e2 => by omega)
          have hn71 : ∀ b cur, Blk Y b (.cells cur 71) → ¬ b = w.heap.size + 1 + 1 := fun b cur hb e2 => blk_ne hb HK2Y.out (by decide) e2
          refine bodyPost_ret (v := enV E (cutA A c g) (c - g) D d) (results_c rfl rfl hl) rfl ⟨cutA A c g, c - g, by rw [HAK.out]; rfl, by rw [HAK.out]; exact HRY.out.cells HCY.out hf hn71, by rw [HAK.out]; exact HRY.out.frame hf hn71, by rw [HAK.out]; exact HCAP.out, cut_nil hnl, hFX⟩
end Go.Proofs.Ytejabnoidhlfaaa

/- Contract of the reference: came. -/
namespace Go.Proofs.Ytejabnoidhlfaaa
open Go.RowKit Go.Maps

theorem ImAt.cells {S : Nat → Prop} {w w' : World} {D : Option Addr} {l : List Im} (h : ImAt w D l) (hc : Cells w D (ims l)) (hF : Frame S w w') (hS : ∀ b cur, Blk w b (.cells cur 73) → ¬ S b) : Cells w' D (ims l) :=
  hc.frame hF fun hn a ha => by
    obtain ⟨b, off, cur, e1, e2⟩ := h (by rintro h0; exact hn (by rw [h0]; rfl))
    rw [e1] at ha
    injection ha with ha
    rw [← ha]
    exact hS b cur e2
theorem cut1_run {D : Option Addr} {n c : Nat} (hg : 1 ≤ n) (w : World) :
    (Instr.slice 24 (.slice D n c) (some (.int .i64 1)) none none).run Try.prog w = .ok (.slice (cutA D c 1) (n - 1) (c - 1)) w := by
  have hs := rIm.size_eq
  obtain ⟨i, hi, hie⟩ : ∃ i, Try.prog.info? 73 = some i ∧ i.size = 2 := by
    cases hx : Try.prog.info? 73 with
    | none => rw [hx] at hs; cases hs
    | some i => rw [hx] at hs; exact ⟨i, rfl, by simpa using hs⟩
  have hz : ∀ w : World, (sizeOf 73).run Try.prog w = .ok 2 w := fun w => by simp [sizeOf, typeInfo, hi, hie]
  have hin : (0 : Int) ≤ (1 : Int) ∧ (1 : Int) ≤ (n : Int) := by omega
  simp [Instr.slice, Instr.sliceBounds, Instr.sliceBound, run_underlying Try.underlying24, asIntOf, hin, Result.andThen, cutA, hz]
theorem cut1_cells {w : World} {D : Option Addr} {x : Im} {l : List Im} {c : Nat} (h : Cells w D (ims (x :: l))) (hc : l.length + 1 ≤ c) : Cells w (cutA D c 1) (ims l) := by
  obtain ⟨hl, b, off, hb0, hA, hcell⟩ := h
  have e1 : ims (x :: l) = imC x ++ ims l := by simp [ims]
  have e2 : (imC x).length = 2 := rfl
  refine ⟨by rw [e1, List.length_append] at hl; omega, b, off + 2, hb0, fun hn => ?_, fun k v hk => ?_⟩
  · have hne : ims (x :: l) ≠ [] := by rw [e1]; simp [imC]
    have hlt : 0 < l.length := List.length_pos_iff.2 (fun h0 => hn (by rw [h0]; rfl))
    obtain ⟨hA1, hb⟩ := hA hne
    refine ⟨?_, hb⟩
    unfold cutA
    rw [if_neg (by omega), hA1]
    simp only [Option.map_some, Option.some.injEq]
    unfold Addr.add
    split <;> simp_all
  · rw [Nat.add_assoc]
    refine hcell (2 + k) v ?_
    rw [e1, List.getElem?_append_right (by omega), e2, Nat.add_sub_cancel_left]
    exact hk
theorem cut1_im {w : World} {D : Option Addr} {x : Im} {l : List Im} {c : Nat} (h : ImAt w D (x :: l)) (hc : l.length + 1 ≤ c) : ImAt w (cutA D c 1) l := fun hn => by
  have hlt : 0 < l.length := List.length_pos_iff.2 hn
  obtain ⟨b, off, cur, hA, hk⟩ := h (by simp)
  refine ⟨b, off + 2, cur, ?_, hk⟩
  unfold cutA
  rw [if_neg (by omega), hA]
  simp only [Option.map_some, Option.some.injEq]
  unfold Addr.add
  split <;> simp_all
def enI (e : En) (wn : Int) (l : List Im) : En := { e with want := wn, inn := l }
set_option maxRecDepth 100000 in
set_option maxHeartbeats 8000000 in
theorem came60_any (e : En) (A : Option Addr) (c : Nat) (D : Option Addr) (d : Nat) (p : Pk) (w : World) (h : EnAt w e A D) (hi : ImAt w D e.inn) (hdc : e.inn.length ≤ d) (hdn : D = none → d = 0) (hw : 0 ≤ e.want ∧ e.want ≤ most) (hnum : 0 ≤ p.num ∧ p.num ≤ most) (hil : e.inn.length ≤ 12) :
    Calls Try.prog 60 #[enV e A c D d, pkV p] w fun r w' => ∃ D' d' T ct, r = .returned (.tuple #[enV (cameA e p).1 A c D' d', .slice T (cameA e p).2.length ct]) ∧ Cells w' D' (ims (cameA e p).1.inn) ∧ ImAt w' D' (cameA e p).1.inn ∧ (cameA e p).1.inn.length ≤ d' ∧ (D' = none → d' = 0) ∧ w'.ownsRow w.heap.size 9 1 (.slice T (cameA e p).2.length ct) (cameA e p).2.length (strs (cameA e p).2) ∧ Below w.heap.size w w' := by
  unfold most at hw hnum
  have HE := Lib.hid h
  have HI := Lib.hid hi
  have HWN := Lib.hid hw
  have hw1 : IntKind.i64.wrap (p.num - e.want) = p.num - e.want := wrap_ok ⟨by omega, by omega⟩
  clear h hi
  unfold enV pkV
  go_enter Try.func60, Try.ntmps60
  obtain ⟨W, hW⟩ : ∃ W, ((w.alloc (.cells #[.int .i64 e.life, .int .i64 e.peer, .int .i64 e.phase, .int .i64 e.base, .slice A e.out.length c, .int .i64 e.want, .slice D e.inn.length d] 26)).alloc (.cells #[.int .i64 p.kind, .int .i64 p.frm, .int .i64 p.to, .int .i64 p.num, .string p.t, .int .i64 p.ack, .int .i64 p.held] 44)).alloc (.cells #[.int .i64 0, .int .i64 0, .int .i64 0, .int .i64 0, .slice none 0 0, .int .i64 0, .slice none 0 0] 26) = W := ⟨_, rfl⟩
  have HBW : Hid (Below w.heap.size w W) := by rw [← hW]; exact ((((Below.refl _ w).alloc (Nat.le_refl _) _).alloc (by simp) _).alloc (by simp; omega) _)
  have hsW : W.heap.size = w.heap.size + 3 := by rw [← hW]; simp
  have HK1 : Hid (Blk W w.heap.size (.cells (enB e A c D d) 26)) := by rw [← hW]; exact ((Blk.new _ _).alloc _).alloc _
  have HKP : Hid (Blk W (w.heap.size + 1) (.cells (pkB p) 44)) := by
    rw [← hW]
    have e1 := (Blk.new (w.alloc (.cells (enB e A c D d) 26)) (.cells (pkB p) 44)).alloc (.cells (enB noEn none 0 none 0) 26)
    rw [World.size_alloc] at e1
    exact e1
  have HK2 : Hid (Blk W (w.heap.size + 1 + 1) (.cells (enB noEn none 0 none 0) 26)) := by
    rw [← hW]
    have e1 := Blk.new ((w.alloc (.cells (enB e A c D d) 26)).alloc (.cells (pkB p) 44)) (.cells (enB noEn none 0 none 0) 26)
    rw [World.size_alloc, World.size_alloc] at e1
    exact e1
  have q9 := HK1.out
  have x0 := q9.cell 0 (v := .int .i64 e.life) rfl
  have x1 := q9.cell 1 (v := .int .i64 e.peer) rfl
  have x2 := q9.cell 2 (v := .int .i64 e.phase) rfl
  have x3 := q9.cell 3 (v := .int .i64 e.base) rfl
  have x4 := q9.cell 4 (v := .slice A e.out.length c) rfl
  have x5 := q9.cell 5 (v := .int .i64 e.want) rfl
  have x6 := q9.cell 6 (v := .slice D e.inn.length d) rfl
  have xl := q9.lt
  clear q9
  have q9 := HKP.out
  have p3 := q9.cell 3 (v := .int .i64 p.num) rfl
  have p4 := q9.cell 4 (v := .string p.t) rfl
  have pl := q9.lt
  clear q9
  go_upto_region 1 with fail
  clear hW
  by_cases n1 : p.num < e.want
  · have HCM : Hid (cameA e p = (e, [])) := by show _ = _; unfold cameA; rw [if_pos (.inl n1)]
    have q1 : decide (p.num < e.want) = true := decide_eq_true n1
    have HKZ := HK2
    have HBZ := HBW
    clear n1
    have q9 := HKZ.out
    have z0 := q9.cell 0 (v := .int .i64 0) rfl
    have z1 := q9.cell 1 (v := .int .i64 0) rfl
    have z2 := q9.cell 2 (v := .int .i64 0) rfl
    have z3 := q9.cell 3 (v := .int .i64 0) rfl
    have z4 := q9.cell 4 (v := .slice none 0 0) rfl
    have z5 := q9.cell 5 (v := .int .i64 0) rfl
    have z6 := q9.cell 6 (v := .slice none 0 0) rfl
    have u0 := q9.free 0
    have u1 := q9.free 1
    have u2 := q9.free 2
    have u3 := q9.free 3
    have u4 := q9.free 4
    have u5 := q9.free 5
    have u6 := q9.free 6
    have ul := q9.lt
    clear q9
    go_wp2
    have hl := load26 (setEn_blk (e := e) (A := A) (c := c) (B := D) (d := d) HKZ.out)
    have hb2 := setEn_below (e := e) (A := A) (c := c) (B := D) (d := d) HBZ.out (show w.heap.size ≤ w.heap.size + 1 + 1 by omega)
    exact bodyPost_ret (v := .tuple #[enV e A c D d, .slice none 0 0]) (results_ct rfl rfl rfl hl) rfl ⟨D, d, none, 0, by rw [HCM.out]; rfl, by rw [HCM.out]; exact HE.out.inn.below hb2 (Nat.le_refl _), by rw [HCM.out]; exact HI.out.frame (Frame.of_all (S := fun _ => False) hb2) (fun _ _ _ h => h), by rw [HCM.out]; exact hdc, hdn, by rw [HCM.out]; exact World.ownsRow_nil _ _ _ _, hb2⟩
  have q1 : decide (p.num < e.want) = false := decide_eq_false n1
  by_cases n2 : e.want + 4 ≤ p.num
  · have HCM : Hid (cameA e p = (e, [])) := by show _ = _; unfold cameA; rw [if_pos (.inr (.inl n2))]
    have q2 : decide (4 ≤ p.num - e.want) = true := decide_eq_true (by omega)
    have HKZ := HK2
    have HBZ := HBW
    clear n1 n2
    have q9 := HKZ.out
    have z0 := q9.cell 0 (v := .int .i64 0) rfl
    have z1 := q9.cell 1 (v := .int .i64 0) rfl
    have z2 := q9.cell 2 (v := .int .i64 0) rfl
    have z3 := q9.cell 3 (v := .int .i64 0) rfl
    have z4 := q9.cell 4 (v := .slice none 0 0) rfl
    have z5 := q9.cell 5 (v := .int .i64 0) rfl
    have z6 := q9.cell 6 (v := .slice none 0 0) rfl
    have u0 := q9.free 0
    have u1 := q9.free 1
    have u2 := q9.free 2
    have u3 := q9.free 3
    have u4 := q9.free 4
    have u5 := q9.free 5
    have u6 := q9.free 6
    have ul := q9.lt
    clear q9
    go_wp2
    have hl := load26 (setEn_blk (e := e) (A := A) (c := c) (B := D) (d := d) HKZ.out)
    have hb2 := setEn_below (e := e) (A := A) (c := c) (B := D) (d := d) HBZ.out (show w.heap.size ≤ w.heap.size + 1 + 1 by omega)
    exact bodyPost_ret (v := .tuple #[enV e A c D d, .slice none 0 0]) (results_ct rfl rfl rfl hl) rfl ⟨D, d, none, 0, by rw [HCM.out]; rfl, by rw [HCM.out]; exact HE.out.inn.below hb2 (Nat.le_refl _), by rw [HCM.out]; exact HI.out.frame (Frame.of_all (S := fun _ => False) hb2) (fun _ _ _ h => h), by rw [HCM.out]; exact hdc, hdn, by rw [HCM.out]; exact World.ownsRow_nil _ _ _ _, hb2⟩
  have q2 : decide (4 ≤ p.num - e.want) = false := decide_eq_false (by omega)
  have HN1 := Lib.hid n1
  have HN2 := Lib.hid n2
  clear n1 n2 hw hnum
  go_wp2_with fail
  refine (has_any e A c D d p.num W (HE.out.below HBW.out)).mono ?_
  rintro r w1 ⟨z, rfl, hz, hB1⟩
  have HZ := Lib.hid hz
  have HBZ : Hid (Below w.heap.size w w1) := HBW.out.trans (hB1.mono HBW.out.size)
  have HK1z := Lib.hid (HK1.out.below hB1 HK1.out.lt)
  have HKPz := Lib.hid (HKP.out.below hB1 HKP.out.lt)
  have HKZ := Lib.hid (HK2.out.below hB1 HK2.out.lt)
  clear hz hB1 x0 x1 x2 x3 x4 x5 x6 xl p3 p4 pl hw1 q1 q2
  have q9 := HK1z.out
  have x0 := q9.cell 0 (v := .int .i64 e.life) rfl
  have x1 := q9.cell 1 (v := .int .i64 e.peer) rfl
  have x2 := q9.cell 2 (v := .int .i64 e.phase) rfl
  have x3 := q9.cell 3 (v := .int .i64 e.base) rfl
  have x4 := q9.cell 4 (v := .slice A e.out.length c) rfl
  have x5 := q9.cell 5 (v := .int .i64 e.want) rfl
  have x6 := q9.cell 6 (v := .slice D e.inn.length d) rfl
  have xl := q9.lt
  by_cases n3 : 0 ≤ z
  · have HCM : Hid (cameA e p = (e, [])) := by show _ = _; unfold cameA; rw [if_pos (.inr (.inr (HZ.out.pos n3)))]
    have q3 : decide (0 ≤ z) = true := decide_eq_true n3
    clear n3 q9
    have q9 := HKZ.out
    have z0 := q9.cell 0 (v := .int .i64 0) rfl
    have z1 := q9.cell 1 (v := .int .i64 0) rfl
    have z2 := q9.cell 2 (v := .int .i64 0) rfl
    have z3 := q9.cell 3 (v := .int .i64 0) rfl
    have z4 := q9.cell 4 (v := .slice none 0 0) rfl
    have z5 := q9.cell 5 (v := .int .i64 0) rfl
    have z6 := q9.cell 6 (v := .slice none 0 0) rfl
    have u0 := q9.free 0
    have u1 := q9.free 1
    have u2 := q9.free 2
    have u3 := q9.free 3
    have u4 := q9.free 4
    have u5 := q9.free 5
    have u6 := q9.free 6
    have ul := q9.lt
    clear q9
    go_wp2
    have hl := load26 (setEn_blk (e := e) (A := A) (c := c) (B := D) (d := d) HKZ.out)
    have hb2 := setEn_below (e := e) (A := A) (c := c) (B := D) (d := d) HBZ.out (show w.heap.size ≤ w.heap.size + 1 + 1 by omega)
    exact bodyPost_ret (v := .tuple #[enV e A c D d, .slice none 0 0]) (results_ct rfl rfl rfl hl) rfl ⟨D, d, none, 0, by rw [HCM.out]; rfl, by rw [HCM.out]; exact HE.out.inn.below hb2 (Nat.le_refl _), by rw [HCM.out]; exact HI.out.frame (Frame.of_all (S := fun _ => False) hb2) (fun _ _ _ h => h), by rw [HCM.out]; exact hdc, hdn, by rw [HCM.out]; exact World.ownsRow_nil _ _ _ _, hb2⟩
  have q3 : decide (0 ≤ z) = false := decide_eq_false n3
  have y0 := q9.free 0
  have y1 := q9.free 1
  have y2 := q9.free 2
  have y3 := q9.free 3
  have y4 := q9.free 4
  have y5 := q9.free 5
  have y6 := q9.free 6
  clear q9 y0 y1 y2 y3 y4
  have HHN : Hid (¬ hasN e.inn p.num = true) := by show ¬ _; rw [HZ.out.neg (by omega)]; decide
  have HCM : Hid (cameA e p = ({ e with want := (takeIn (e.inn.length + 1) e.want (putA ⟨p.num, p.t⟩ e.inn)).1, inn := (takeIn (e.inn.length + 1) e.want (putA ⟨p.num, p.t⟩ e.inn)).2.1 }, (takeIn (e.inn.length + 1) e.want (putA ⟨p.num, p.t⟩ e.inn)).2.2)) := by
    show _ = _
    unfold cameA
    rw [if_neg (fun h9 => by have g1 := HN1.out; have g2 := HN2.out; rcases h9 with h9 | h9 | h9; omega; omega; exact HHN.out h9)]
  clear n3 HHN HN1 HN2
  have q9 := HKPz.out
  have p3 := q9.cell 3 (v := .int .i64 p.num) rfl
  have p4 := q9.cell 4 (v := .string p.t) rfl
  have pl := q9.lt
  clear q9
  go_wp2_with fail
  refine (put78_any ⟨p.num, p.t⟩ D d e.inn w1 (HE.out.below HBZ.out).inn (by omega)).mono ?_
  rintro r w2 ⟨D1, d1, rfl, ho2, hB2⟩
  have HPL : Hid ((putA (⟨p.num, p.t⟩ : Im) e.inn).length = e.inn.length + 1) := putA_len _ _
  obtain ⟨l0, hl0⟩ : ∃ l0, putA (⟨p.num, p.t⟩ : Im) e.inn = l0 := ⟨_, rfl⟩
  rw [hl0] at ho2 HCM HPL ⊢
  have HBZ2 : Hid (Below w.heap.size w w2) := below_in HBZ.out hB2
  have HKb := Lib.hid (HK1z.out.below hB2 HK1z.out.lt)
  have HKZb := Lib.hid (HKZ.out.below hB2 HKZ.out.lt)
  have HO2 := Lib.hid ho2
  clear x0 x1 x2 x3 x4 x5 x6 xl y5 y6 p3 p4 pl q3 ho2 hB2
  have q9 := HKb.out
  have x6 := q9.cell 6 (v := .slice D e.inn.length d) rfl
  have y6 := q9.free 6
  have xl := q9.lt
  clear q9
  go_wp2_with fail
  clear x6 y6 xl
  obtain ⟨V, hV⟩ : ∃ V, w2.setCell ⟨w.heap.size, 6, none⟩ (.slice D1 l0.length d1) = V := ⟨_, rfl⟩
  have HFV : Hid (Frame (fun b => b = w.heap.size) w2 V) := by rw [← hV]; exact (Frame.refl (fun b => b = w.heap.size) w2).setCell (p := ⟨_, 6, none⟩) (.inl rfl) _
  have HKV : Hid (Blk V w.heap.size (.cells (enB (enI e e.want l0) A c D1 d1) 26)) := by rw [← hV]; exact HKb.out.set 6 _
  have HBV : Hid (Below w.heap.size w V) := by rw [← hV]; exact HBZ2.out.setCell (Nat.le_refl _) _
  have HKZV := Lib.hid (HKZb.out.frame HFV.out (by show ¬ _ = _; omega))
  have HIV : Hid (ImAt V D1 l0) := (im_of_own HO2.out).frame HFV.out (fun b cur hb e2 => blk_ne hb HKb.out (by decide) e2)
  have HCV : Hid (Cells V D1 (ims l0)) := (im_of_own HO2.out).cells (Cells.of_own HO2.out (by rw [ims_len, HPL.out]; omega)).1 HFV.out (fun b cur hb e2 => blk_ne hb HKb.out (by decide) e2)
  have HD1 := Lib.hid (own_cap HO2.out)
  have HDN1 := Lib.hid (own_nil HO2.out)
  rw [hV]
  rw [← HPL.out] at HCM
  clear hV
  go_loopg [6] l0.length (fun g tv wr => ∃ (l : List Im) (wn : Int) (Dl : Option Addr) (dl : Nat) (out : List ByteArray), l.length = g ∧ wn + l.length = e.want + l0.length ∧ out.length + l.length = l0.length ∧ l.length ≤ dl ∧ (Dl = none → dl = 0) ∧ wr.ownsRow w.heap.size 9 1 tv out.length (strs out) ∧ Blk wr w.heap.size (.cells (enB (enI e wn l) A c Dl dl) 26) ∧ Cells wr Dl (ims l) ∧ ImAt wr Dl l ∧ takeIn l0.length e.want l0 = ((takeIn l.length wn l).1, (takeIn l.length wn l).2.1, out ++ (takeIn l.length wn l).2.2) ∧ Below w.heap.size w wr ∧ Blk wr (w.heap.size + 1 + 1) (.cells (enB noEn none 0 none 0) 26))
  case atStart => exact ⟨l0, e.want, D1, d1, [], rfl, rfl, by simp, HD1.out, HDN1.out, World.ownsRow_nil _ _ _ _, HKV.out, HCV.out, HIV.out, rfl, HBV.out, HKZV.out⟩
  case round =>
    obtain ⟨l, wn, Dl, dl, out, hg, hwn, hol, hdl, hdn2, hown, hk, hc, him, htk, hB, hkz⟩ := hrel
    have HG := Lib.hid hg
    have HO := Lib.hid hown
    have HK := Lib.hid hk
    have HC := Lib.hid hc
    have HIM := Lib.hid him
    have HT := Lib.hid htk
    have HB := Lib.hid hB
    have HKZ := Lib.hid hkz
    have HWL := Lib.hid hwn
    have HDN := Lib.hid hdn2
    clear hdn2
    have hl13 : l0.length ≤ 13 := by rw [HPL.out]; omega
    have HW := HWN.out
    clear hg hown hk hc him htk hB hkz
    have HBD : Hid (Below w.heap.size w wr.drew) := HB.out.drew
    have HOd : Hid (wr.drew.ownsRow w.heap.size 9 1 u6 out.length (strs out)) := own_frame HO.out (Frame.refl (fun _ => False) wr).drew (fun _ _ h => h)
    cases l with
    | nil =>
      have HTE : Hid (cameA e p = (enI e wn [], out)) := by
        show _ = _
        rw [HCM.out, HT.out]
        simp only [List.length_nil, takeIn, List.append_nil]
        rfl
      have q9 := HK.out
      have x0 := q9.cell 0 (v := .int .i64 e.life) rfl
      have x1 := q9.cell 1 (v := .int .i64 e.peer) rfl
      have x2 := q9.cell 2 (v := .int .i64 e.phase) rfl
      have x3 := q9.cell 3 (v := .int .i64 e.base) rfl
      have x4 := q9.cell 4 (v := .slice A e.out.length c) rfl
      have x5 := q9.cell 5 (v := .int .i64 wn) rfl
      have x6 := q9.cell 6 (v := .slice Dl 0 dl) rfl
      have xl := q9.lt
      have y5 := q9.free 5
      have y6 := q9.free 6
      clear q9
      go_upto_region 5 with fail
      refine sall (by kernel_rfl) (by kernel_rfl) (fun Kq hKq => hs_go ?_)
      repeat (first | (refine hs_on rfl (fun K hK => ?_); go_simp; refine hK.out _ ?_; clear hK K) | (refine hs_off rfl ?_; go_simp))
      refine hs_nil (hKq _ ?_)
      clear hKq Kq
      obtain ⟨T, ct, rfl⟩ := own_fits HO.out
      have q9 := HKZ.out
      have z0 := q9.cell 0 (v := .int .i64 0) rfl
      have z1 := q9.cell 1 (v := .int .i64 0) rfl
      have z2 := q9.cell 2 (v := .int .i64 0) rfl
      have z3 := q9.cell 3 (v := .int .i64 0) rfl
      have z4 := q9.cell 4 (v := .slice none 0 0) rfl
      have z5 := q9.cell 5 (v := .int .i64 0) rfl
      have z6 := q9.cell 6 (v := .slice none 0 0) rfl
      have u0 := q9.free 0
      have u1 := q9.free 1
      have u2 := q9.free 2
      have u3 := q9.free 3
      have u4 := q9.free 4
      have u5 := q9.free 5
      have u6 := q9.free 6
      have ul := q9.lt
      clear q9
      go_wp2
      have hl := load26 (setEn_blk (e := enI e wn ([] : List Im)) (A := A) (c := c) (B := Dl) (d := dl) HKZ.out).drew
      have hf := (setEn_frame (e := enI e wn ([] : List Im)) (A := A) (c := c) (B := Dl) (d := dl) (Frame.refl (fun b => b = w.heap.size + 1 + 1) wr) (.inl rfl)).drew
      have hb2 := (setEn_below (e := enI e wn ([] : List Im)) (A := A) (c := c) (B := Dl) (d := dl) HB.out (show w.heap.size ≤ w.heap.size + 1 + 1 by omega)).drew
      have hn73 : ∀ b cur, Blk wr b (.cells cur 73) → ¬ b = w.heap.size + 1 + 1 := fun b cur hb e2 => blk_ne hb HKZ.out (by decide) e2
      refine bodyPost_ret (v := .tuple #[enV (enI e wn ([] : List Im)) A c Dl dl, .slice T out.length ct]) (results_ct rfl rfl rfl hl) rfl ⟨Dl, dl, T, ct, by rw [HTE.out]; rfl, by rw [HTE.out]; exact HIM.out.cells HC.out hf hn73, by rw [HTE.out]; exact HIM.out.frame hf hn73, by rw [HTE.out]; exact hdl, HDN.out, ?_, hb2⟩
      rw [HTE.out]
      exact own_frame HO.out hf (fun g hg e2 => own_ne HO.out HKZ.out (by decide) (by rw [hg, e2]))
    | cons x l =>
      have q9 := HK.out
      have x0 := q9.cell 0 (v := .int .i64 e.life) rfl
      have x1 := q9.cell 1 (v := .int .i64 e.peer) rfl
      have x2 := q9.cell 2 (v := .int .i64 e.phase) rfl
      have x3 := q9.cell 3 (v := .int .i64 e.base) rfl
      have x4 := q9.cell 4 (v := .slice A e.out.length c) rfl
      have x5 := q9.cell 5 (v := .int .i64 wn) rfl
      have x6 := q9.cell 6 (v := .slice Dl (l.length + 1) dl) rfl
      have xl := q9.lt
      have y5 := q9.free 5
      have y6 := q9.free 6
      clear q9
      obtain ⟨x', xb, xo, hx, hxb, hxi, hn, ht⟩ := im_at (c := dl) (k := 0) HC.out (Nat.succ_pos _)
      have hx2 : x' = x := by injection hx with hx; exact hx.symm
      subst hx2
      have hxi' : ∀ w', (Instr.indexAt 24 (.slice Dl (l.length + 1) dl) (.int .i64 0)).run Try.prog w' = .ok (.pointer (some ⟨xb, xo, none⟩)) w' := hxi
      clear hx hxi
      by_cases e9 : x'.n = wn
      · have q1 : (x'.n == wn) = true := beq_iff_eq.2 e9
        have HTN : Hid (takeIn l0.length e.want l0 = ((takeIn l.length (wn + 1) l).1, (takeIn l.length (wn + 1) l).2.1, (out ++ [x'.t]) ++ (takeIn l.length (wn + 1) l).2.2)) := by
          show _ = _
          rw [HT.out, List.length_cons, takeIn, if_pos e9, List.append_assoc]
          rfl
        have hlb : l.length + 1 ≤ 13 := by rw [List.length_cons] at hol; omega
        have hob : out.length ≤ 13 := by omega
        have hwr : IntKind.i64.wrap (wn + 1) = wn + 1 := wrap_ok ⟨by rw [List.length_cons] at hol; have := HWL.out; rw [List.length_cons] at this; omega, by rw [List.length_cons] at hol; have := HWL.out; rw [List.length_cons] at this; omega⟩
        have hcut : ∀ w : World, (Instr.slice 24 (.slice Dl (l.length + 1) dl) (some (.int .i64 1)) none none).run Try.prog w = .ok (.slice (cutA Dl dl 1) l.length (dl - 1)) w := fun w => cut1_run (Nat.succ_pos _) w
        clear e9
        go_upto_region 5 with fail
        refine sall (by kernel_rfl) (by kernel_rfl) (fun Kq hKq => ?_)
        repeat still_step
        refine wpStill_nil (hKq _ ?_)
        clear hKq Kq
        go_upto_region 7 with (at_builtin; go_must (refine wpList_app1' rSt _ rfl _ _ rfl HOd.out rfl [_] 1 rfl rfl (by simp [Value.oneCell']) (by omega) (by simp; omega) ?_); intro v5 w5 hown5 hB5 hg5 hloc5)
        have HG5 := Lib.hid hg5
        have HO5 := Lib.hid hown5
        have HK5 : Hid (Blk w5 w.heap.size (.cells (enB (enI e wn (x' :: l)) A c Dl dl) 26)) := (HK.out.drew).grown hg5 (own_ne HOd.out HK.out.drew (by decide))
        have HZ5 : Hid (Blk w5 (w.heap.size + 1 + 1) (.cells (enB noEn none 0 none 0) 26)) := (HKZ.out.drew).grown hg5 (own_ne HOd.out HKZ.out.drew (by decide))
        have HI5 : Hid (ImAt w5 Dl (x' :: l)) := (HIM.out.frame (Frame.refl (fun _ => False) wr).drew (fun _ _ _ h => h)).frame (Frame.of_grown hg5) (fun b cur hb e2 => own_ne HOd.out hb (by decide) e2)
        have HC5 : Hid (Cells w5 Dl (ims (x' :: l))) := (HIM.out.frame (Frame.refl (fun _ => False) wr).drew (fun _ _ _ h => h)).cells (HIM.out.cells HC.out (Frame.refl (fun _ => False) wr).drew (fun _ _ _ h => h)) (Frame.of_grown hg5) (fun b cur hb e2 => own_ne HOd.out hb (by decide) e2)
        have HB5 : Hid (Below w.heap.size w w5) := HBD.out.trans hB5
        clear x0 x1 x2 x3 x4 x5 x6 xl y5 y6 hown5 hB5 hg5 hloc5 hxb hn ht hxi'
        have q9 := HK5.out
        have x5 := q9.cell 5 (v := .int .i64 wn) rfl
        have x6 := q9.cell 6 (v := .slice Dl (l.length + 1) dl) rfl
        have xl := q9.lt
        have y5 := q9.free 5
        have y6 := q9.free 6
        clear q9
        go_wp2_with fail
        go_roundg l.length
        case measure => have := HG.out; rw [List.length_cons] at this; omega
        case rel =>
          have hK6 : Blk ((w5.setCell ⟨w.heap.size, 6, none⟩ (.slice (cutA Dl dl 1) l.length (dl - 1))).setCell ⟨w.heap.size, 5, none⟩ (.int .i64 (wn + 1))) w.heap.size (.cells (enB (enI e (wn + 1) l) A c (cutA Dl dl 1) (dl - 1)) 26) := (HK5.out.set 6 _).set 5 _
          have hF6 : Frame (fun b => b = w.heap.size) w5 ((w5.setCell ⟨w.heap.size, 6, none⟩ (.slice (cutA Dl dl 1) l.length (dl - 1))).setCell ⟨w.heap.size, 5, none⟩ (.int .i64 (wn + 1))) := ((Frame.refl (fun b => b = w.heap.size) w5).setCell (p := ⟨_, 6, none⟩) (.inl rfl) _).setCell (p := ⟨_, 5, none⟩) (.inl rfl) _
          have h73 : ∀ b cur, Blk w5 b (.cells cur 73) → ¬ b = w.heap.size := fun b cur hb e2 => blk_ne hb HK5.out (by decide) e2
          have hdl1 : l.length + 1 ≤ dl := by rw [List.length_cons] at hdl; exact hdl
          have hW1 := HWL.out
          rw [List.length_cons] at hW1 hol
          refine ⟨l, wn + 1, cutA Dl dl 1, dl - 1, out ++ [x'.t], rfl, by push_cast at hW1; omega, by rw [List.length_append, List.length_cons, List.length_nil]; omega, by omega, cut_nil HDN.out, ?_, hK6, (cut1_im HI5.out hdl1).cells (cut1_cells HC5.out hdl1) hF6 h73, (cut1_im HI5.out hdl1).frame hF6 h73, HTN.out, (HB5.out.setCell (Nat.le_refl _) _).setCell (Nat.le_refl _) _, HZ5.out.frame hF6 (by show ¬ _ = _; omega)⟩
          rw [strs_snoc, List.length_append]
          exact own_frame HO5.out hF6 (fun g hg e2 => own_ne HO5.out HK5.out (by decide) (by rw [hg, e2]))
      · have q1 : (x'.n == wn) = false := beq_eq_false_iff_ne.2 e9
        have HTE : Hid (cameA e p = (enI e wn (x' :: l), out)) := by
          show _ = _
          rw [HCM.out, HT.out, List.length_cons, takeIn, if_neg e9, List.append_nil]
          rfl
        clear e9
        go_upto_region 5 with fail
        refine sall (by kernel_rfl) (by kernel_rfl) (fun Kq hKq => ?_)
        repeat still_step
        refine wpStill_nil (hKq _ ?_)
        clear hKq Kq
        obtain ⟨T, ct, rfl⟩ := own_fits HO.out
        have q9 := HKZ.out
        have z0 := q9.cell 0 (v := .int .i64 0) rfl
        have z1 := q9.cell 1 (v := .int .i64 0) rfl
        have z2 := q9.cell 2 (v := .int .i64 0) rfl
        have z3 := q9.cell 3 (v := .int .i64 0) rfl
        have z4 := q9.cell 4 (v := .slice none 0 0) rfl
        have z5 := q9.cell 5 (v := .int .i64 0) rfl
        have z6 := q9.cell 6 (v := .slice none 0 0) rfl
        have u0 := q9.free 0
        have u1 := q9.free 1
        have u2 := q9.free 2
        have u3 := q9.free 3
        have u4 := q9.free 4
        have u5 := q9.free 5
        have u6 := q9.free 6
        have ul := q9.lt
        clear q9
        go_wp2
        have hl := load26 (setEn_blk (e := enI e wn (x' :: l)) (A := A) (c := c) (B := Dl) (d := dl) HKZ.out).drew
        have hf := (setEn_frame (e := enI e wn (x' :: l)) (A := A) (c := c) (B := Dl) (d := dl) (Frame.refl (fun b => b = w.heap.size + 1 + 1) wr) (.inl rfl)).drew
        have hb2 := (setEn_below (e := enI e wn (x' :: l)) (A := A) (c := c) (B := Dl) (d := dl) HB.out (show w.heap.size ≤ w.heap.size + 1 + 1 by omega)).drew
        have hn73 : ∀ b cur, Blk wr b (.cells cur 73) → ¬ b = w.heap.size + 1 + 1 := fun b cur hb e2 => blk_ne hb HKZ.out (by decide) e2
        refine bodyPost_ret (v := .tuple #[enV (enI e wn (x' :: l)) A c Dl dl, .slice T out.length ct]) (results_ct rfl rfl rfl hl) rfl ⟨Dl, dl, T, ct, by rw [HTE.out]; rfl, by rw [HTE.out]; exact HIM.out.cells HC.out hf hn73, by rw [HTE.out]; exact HIM.out.frame hf hn73, by rw [HTE.out]; exact hdl, HDN.out, ?_, hb2⟩
        rw [HTE.out]
        exact own_frame HO.out hf (fun g hg e2 => own_ne HO.out HKZ.out (by decide) (by rw [hg, e2]))
end Go.Proofs.Ytejabnoidhlfaaa
