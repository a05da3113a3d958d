/- Contracts and lemmas that the claim uses. -/
import Derived.Test.YtejabnoidhlfaaaV36
set_option maxRecDepth 100000
set_option maxHeartbeats 16000000
namespace Go.Proofs.Ytejabnoidhlfaaa
open Go.RowKit Go.Maps
def dnB (x : Im) (m : List Im) : Bool := m.any fun y => decide (x.n < y.n)
def putS (x : Im) (m : List Im) : List Im := if dnB x m = true then putA x m else m
theorem put_yes (x : Im) : ∀ (m l : List Im), dnB x m = true → putA x (m ++ l) = putA x m ++ l
 | [], l, h => by simp [dnB] at h
 | y :: m, l, h => by
  simp only [List.cons_append, putA]; by_cases h1 : x.n < y.n
  ·rw [if_pos h1, if_pos h1]; rfl
  ·rw [if_neg h1, if_neg h1]; have h2 : dnB x m = true := by
    simp only [dnB, List.any_cons, decide_eq_false h1, Bool.false_or] at h; exact h
   rw [put_yes x m l h2]; rfl
theorem put_not (x : Im) : ∀ (m l : List Im), dnB x m = false → putA x (m ++ l) = m ++ putA x l
 | [], l, _ => rfl
 | y :: m, l, h => by
  simp only [dnB, List.any_cons, Bool.or_eq_false_iff, decide_eq_false_iff_not] at h; simp only [List.cons_append, putA]; rw [if_neg h.1, put_not x m l h.2]
theorem dnB_snoc (x : Im) (m : List Im) (y : Im) : dnB x (m ++ [y]) = (dnB x m || decide (x.n < y.n)) := by simp [dnB]
theorem putS_yes {x : Im} {m : List Im} (y : Im) (h : dnB x m = true) : putS x (m ++ [y]) = putS x m ++ [y] := by
 unfold putS; rw [dnB_snoc, h, Bool.true_or, if_pos rfl, if_pos rfl, put_yes x m [y] h]
theorem putS_now {x : Im} {m : List Im} {y : Im} (h : dnB x m = false) (hy : x.n < y.n) : putS x (m ++ [y]) = putS x m ++ [x] ++ [y] := by
 unfold putS; rw [dnB_snoc, h, decide_eq_true hy, Bool.false_or, if_pos rfl, if_neg (by decide), put_not x m [y] h, List.append_assoc]; simp only [putA, if_pos hy]; rfl
theorem putS_not {x : Im} {m : List Im} {y : Im} (h : dnB x m = false) (hy : ¬ x.n < y.n) : putS x (m ++ [y]) = putS x m ++ [y] := by
 unfold putS; rw [dnB_snoc, h, decide_eq_false hy, Bool.false_or, if_neg (by decide), if_neg (by decide)]
theorem putS_len (x : Im) (m : List Im) : (putS x m).length ≤ m.length + 1 := by
 have h : ∀ m : List Im, (putA x m).length = m.length + 1 := by
  intro m; induction m with
  | nil => rfl
  | cons y m ih =>
   simp only [putA]; split
   ·rfl
   ·rw [List.length_cons, ih, List.length_cons]
 unfold putS; split
 ·rw [h]; exact Nat.le_refl _
 ·omega
theorem putS_end {x : Im} {l : List Im} (h : dnB x l = true) : putS x l = putA x l := if_pos h
theorem putS_end' {x : Im} {l : List Im} (h : dnB x l = false) : putS x l ++ [x] = putA x l := by
 have h1 := put_not x l [] h; rw [List.append_nil] at h1; unfold putS; rw [h1, if_neg (by rw [h]; decide)]; rfl
theorem put78_any (x : Im) (D : Option Addr) (d : Nat) (l : List Im) (w : World) (h : Cells w D (ims l)) (hl : l.length ≤ 1000) :
  Calls Try.prog 78 #[.slice D l.length d, .agg #[.int .i64 x.n, .string x.t]] w fun r w' => ∃ D' d', r = .returned (.slice D' (putA x l).length d') ∧ w'.ownsRow w.heap.size 73 2 (.slice D' (putA x l).length d') (putA x l).length (ims (putA x l)) ∧ Below w.heap.size w w' := by
 have HC := Lib.hid h; clear h; go_enter Try.func78, Try.ntmps78
 obtain ⟨W, hW⟩ : ∃ W, w.alloc (.cells #[.int .i64 x.n, .string x.t] 73) = W := ⟨_, rfl⟩; have HBW : Hid (Below w.heap.size w W) := by rw [← hW]; exact (Below.refl _ w).alloc (Nat.le_refl _) _
 have HKW : Hid (Blk W w.heap.size (.cells #[.int .i64 x.n, .string x.t] 73)) := by rw [← hW]; exact Blk.new _ _
 go_wp2_with fail
 clear hW; go_loopg [5, 6, 7] l.length (fun g vo dv iv wr => ∃ k : Nat, k + g = l.length ∧ iv = .int .i64 (k : Int) ∧ dv = .bool (dnB x (l.take k)) ∧ wr.ownsRow W.heap.size 73 2 vo (putS x (l.take k)).length (ims (putS x (l.take k))) ∧ Below W.heap.size W wr)
 case atStart => exact ⟨0, Nat.zero_add _, rfl, rfl, World.ownsRow_nil _ _ _ _, Below.refl _ _⟩
 case round =>
  obtain ⟨k, hk, rfl, rfl, hown, hB⟩ := hrel; have HK := Lib.hid hk; have HO := Lib.hid hown; have HB := Lib.hid hB; have hpl : (putS x (l.take k)).length ≤ k + 1 := Nat.le_trans (putS_len _ _) (by rw [List.length_take]; omega); have HPL := Lib.hid hpl; have q9 := HKW.out.below hB HKW.out.lt; have z0 := q9.cell 0 (v := .int .i64 x.n) rfl; have z1 := q9.cell 1 (v := .string x.t) rfl; have zl := q9.lt; have hsr := hB.size; clear q9 hk hown hB; obtain ⟨bd, HBD⟩ : ∃ b, Hid (dnB x (l.take k) = b) := ⟨_, rfl⟩; obtain ⟨Q, HQ⟩ : ∃ Q, Hid (putS x (l.take k) = Q) := ⟨_, rfl⟩; rw [HQ.out] at HO hpl; rw [HBD.out]; by_cases hlt : (k : Int) < (l.length : Int)
  ·obtain ⟨y, yb, yo, hy, hyb, hyi, hn, ht⟩ := im_at (c := d) (k := k) (HC.out.below (HBW.out.trans (HB.out.mono HBW.out.size)) (Nat.le_refl _)) (by omega); have hw1 : IntKind.i64.wrap ((k : Int) + 1) = (k : Int) + 1 := wrap_ok ⟨by omega, by omega⟩; have HTK := Lib.hid (take_succ_of hy); have HY := Lib.hid hy; have hk1000 : k ≤ 1000 := by omega
   clear hy; cases bd with
   | true =>
    have HS : Hid (putS x (l.take (k + 1)) = Q ++ [y]) := by show _ = _; rw [HTK.out, putS_yes y HBD.out, HQ.out]
    have HD2 : Hid (dnB x (l.take (k + 1)) = true) := by show _ = _; rw [HTK.out, dnB_snoc, HBD.out]; rfl
    go_upto_region 6 with fail
    refine sall (by kernel_rfl) (by kernel_rfl) (fun Kq hKq => hs_go ?_); repeat (first | (refine hs_on rfl (fun K hK => ?_); go_simp; refine hK.out _ ?_; clear hK K) | (refine hs_off rfl ?_; go_simp))
    refine hs_nil (hKq _ ?_); clear hKq Kq; have HOd : Hid (wr.drew.ownsRow W.heap.size 73 2 u5 Q.length (ims Q)) := own_frame HO.out (Frame.refl (fun _ => False) wr).drew (fun _ _ h => h); go_wp2_with (at_builtin; go_must (refine wpList_app1' rIm _ rfl _ _ rfl HOd.out rfl [_, _] 1 rfl rfl (by simp [Value.oneCell']) (by omega) (by simp; omega) ?_); intro v2 w2 hown2 hB2 hg2 hloc2)
    go_roundg (l.length - (k + 1))
    case measure => have := HK.out; omega
    case rel => exact ⟨k + 1, by have := HK.out; omega, rfl, by rw [HD2.out], by rw [HS.out, ims_snoc, List.length_append]; exact hown2, (HB.out.drew).trans hB2⟩
   | false =>
    by_cases hgt : x.n < y.n
    ·have qg : decide (x.n < y.n) = true := decide_eq_true hgt; have HS : Hid (putS x (l.take (k + 1)) = Q ++ [x] ++ [y]) := by show _ = _; rw [HTK.out, putS_now HBD.out hgt, HQ.out]
     have HD2 : Hid (dnB x (l.take (k + 1)) = true) := by show _ = _; rw [HTK.out, dnB_snoc, HBD.out, qg]; rfl
     clear hgt; go_upto_region 6 with fail
     refine sall (by kernel_rfl) (by kernel_rfl) (fun Kq hKq => ?_); repeat still_step
     refine wpStill_nil (hKq _ ?_); clear hKq Kq; have HOd : Hid (wr.drew.ownsRow W.heap.size 73 2 u5 Q.length (ims Q)) := own_frame HO.out (Frame.refl (fun _ => False) wr).drew (fun _ _ h => h); go_upto_region 8 with (at_builtin; go_must (refine wpList_app1' rIm _ rfl _ _ rfl HOd.out rfl [_, _] 1 rfl rfl (by simp [Value.oneCell']) (by omega) (by simp; omega) ?_); intro v2 w2 hown2 hB2 hg2 hloc2)
     have hql : Q.length ≤ k := by
      have h1 : Q = l.take k := by rw [← HQ.out]; unfold putS; rw [if_neg (by rw [HBD.out]; decide)]
      rw [h1, List.length_take]; omega
     have HO2 := Lib.hid hown2; have HB2 : Hid (Below W.heap.size W w2) := (HB.out.drew).trans hB2; have hs2 := HB2.out.size; obtain ⟨y2, yb2, yo2, hy2, hyb2, hyi2, hn2, ht2⟩ := im_at (c := d) (k := k) (HC.out.below (HBW.out.trans (HB2.out.mono HBW.out.size)) (Nat.le_refl _)) (by omega); rw [HY.out] at hy2; injection hy2 with hy2; subst hy2; clear hown2 HOd hyb hyi hn ht hB2 z0 z1 zl; go_wp2_with (at_builtin; go_must (refine wpList_app1' rIm _ rfl _ _ rfl HO2.out rfl [_, _] 1 rfl rfl (by simp [Value.oneCell']) (by omega) (by omega) ?_); intro v3 w3 hown3 hB3 hg3 hloc3)
     go_roundg (l.length - (k + 1))
     case measure => have := HK.out; omega
     case rel => exact ⟨k + 1, by have := HK.out; omega, rfl, by rw [HD2.out], by rw [HS.out, ims_snoc, ims_snoc, List.length_append, List.length_append]; exact hown3, HB2.out.trans hB3⟩
    ·have qg : decide (x.n < y.n) = false := decide_eq_false hgt; have HS : Hid (putS x (l.take (k + 1)) = Q ++ [y]) := by show _ = _; rw [HTK.out, putS_not HBD.out hgt, HQ.out]
     have HD2 : Hid (dnB x (l.take (k + 1)) = false) := by show _ = _; rw [HTK.out, dnB_snoc, HBD.out, qg]; rfl
     clear hgt; go_upto_region 6 with fail
     refine sall (by kernel_rfl) (by kernel_rfl) (fun Kq hKq => ?_); repeat still_step
     refine wpStill_nil (hKq _ ?_); clear hKq Kq; have HOd : Hid (wr.drew.ownsRow W.heap.size 73 2 u5 Q.length (ims Q)) := own_frame HO.out (Frame.refl (fun _ => False) wr).drew (fun _ _ h => h); go_wp2_with (at_builtin; go_must (refine wpList_app1' rIm _ rfl _ _ rfl HOd.out rfl [_, _] 1 rfl rfl (by simp [Value.oneCell']) (by omega) (by simp; omega) ?_); intro v2 w2 hown2 hB2 hg2 hloc2)
     go_roundg (l.length - (k + 1))
     case measure => have := HK.out; omega
     case rel => exact ⟨k + 1, by have := HK.out; omega, rfl, by rw [HD2.out], by rw [HS.out, ims_snoc, List.length_append]; exact hown2, (HB.out.drew).trans hB2⟩
  ·obtain rfl : k = l.length := by have := HK.out; omega
   rw [List.take_length] at HBD HQ; cases bd with
   | true =>
    obtain ⟨D', d', rfl⟩ := own_fits HO.out; have HE : Hid (putA x l = Q) := by show _ = _; rw [← HQ.out, putS_end HBD.out]
    go_wp2; go_ret; rw [HE.out]; exact ⟨D', d', rfl, own_mono HO.out HBW.out.size, HBW.out.trans (HB.out.mono HBW.out.size)⟩
   | false =>
    have HE : Hid (putA x l = Q ++ [x]) := by show _ = _; rw [← HQ.out, putS_end' HBD.out]
    go_wp2_with (at_builtin; go_must (refine wpList_app1' rIm _ rfl _ _ rfl HO.out rfl [_, _] 1 rfl rfl (by simp [Value.oneCell']) (by omega) (by omega) ?_); intro v2 w2 hown2 hB2 hg2 hloc2)
    obtain ⟨D', d', rfl⟩ := own_fits hown2; go_ret; rw [HE.out, ims_snoc, List.length_append]; exact ⟨D', d', rfl, own_mono hown2 HBW.out.size, HBW.out.trans ((HB.out.trans hB2).mono HBW.out.size)⟩
theorem bitN_all : ((List.range 8).all fun h => (List.range 3).all fun j => (h / 2 ^ j % 2 == 1) == bitAt (h : Int) j) = true := by kernel_rfl
theorem bitN_is {H k : Nat} (h : H ≤ 7) (hk : k < 3) : (H / 2 ^ k % 2 == 1) = bitAt (H : Int) k := by
 have h1 := List.all_eq_true.1 bitN_all H (List.mem_range.2 (by omega)); have h2 := List.all_eq_true.1 h1 k (List.mem_range.2 hk); simpa using h2
theorem ou_frame {V wr : World} {B b o : Nat} {cur : Array Value} {v : Value} (hF : Frame (fun b => B ≤ b ∧ ∃ cur, Blk V b (.cells cur 71)) V wr) (hBb : B ≤ b) (hbk : Blk wr b (.cells cur 71)) :
  Frame (fun b => B ≤ b ∧ ∃ cur, Blk V b (.cells cur 71)) V (wr.setCell ⟨b, o, none⟩ v) := by
 refine hF.setCell (p := ⟨b, o, none⟩) ?_ _; rcases Nat.lt_or_ge b V.heap.size with hlt2 | hge
 ·refine .inl ⟨hBb, ?_⟩; by_cases hs : ∃ cur, Blk V b (.cells cur 71)
  ·exact hs
  ·have h1 := hF.block b hlt2 (fun h => hs h.2); exact ⟨cur, h1.symm.trans hbk⟩
 ·exact .inr hge
structure AkPost (B : Nat) (e : En) (p : Pk) (n : Nat) (A' : Option Addr) (c' : Nat) (w w' : World) : Prop where
 out : Cells w' A' (ous (ackedA e p n).out)
 row : RowAt w' B A' (ackedA e p n).out
 cap : (ackedA e p n).out.length ≤ c'
 nil : A' = none → c' = 0
 fr : Frame (fun b => B ≤ b ∧ ∃ cur, Blk w b (.cells cur 71)) w w'
theorem acked59_any (B : Nat) (e : En) (A : Option Addr) (c : Nat) (D : Option Addr) (d : Nat) (p : Pk) (n : Nat) (w : World) (h : EnAt w e A D) (hr : RowAt w B A e.out) (hcap : e.out.length ≤ c) (hnl : A = none → c = 0) (hb : 0 ≤ e.base ∧ e.base ≤ most) (hac : 0 ≤ p.ack ∧ p.ack ≤ most) (hheld : 0 ≤ p.held ∧ p.held ≤ 7) (hn : n ≤ e.out.length) (hlen : e.out.length ≤ 12) (_hBw : B ≤ w.heap.size) :
  Calls Try.prog 59 #[enV e A c D d, pkV p, .int .i64 n] w fun r w' => ∃ A' c', r = .returned (enV (ackedA e p n) A' c' D d) ∧ AkPost B e p n A' c' w w' := by
 unfold most at hb hac; have HE := Lib.hid h; have HR := Lib.hid hr; have hw1 : IntKind.i64.wrap (p.ack - e.base) = p.ack - e.base := wrap_ok ⟨by omega, by omega⟩; have HHD := Lib.hid hheld; clear h hr; unfold enV pkV; go_enter Try.func59, Try.ntmps59
 obtain ⟨W, hW⟩ : ∃ W, ((w.alloc (.cells #[.int .i64 e.life, .int .i64 e.peer, .int .i64 e.phase, .int .i64 e.base, .slice A e.out.length c, .int .i64 e.want, .slice D e.inn.length d] 26)).alloc (.cells #[.int .i64 p.kind, .int .i64 p.frm, .int .i64 p.to, .int .i64 p.num, .string p.t, .int .i64 p.ack, .int .i64 p.held] 44)).alloc (.cells #[.int .i64 0, .int .i64 0, .int .i64 0, .int .i64 0, .slice none 0 0, .int .i64 0, .slice none 0 0] 26) = W := ⟨_, rfl⟩; have HBW : Hid (Below w.heap.size w W) := by rw [← hW]; exact ((((Below.refl _ w).alloc (Nat.le_refl _) _).alloc (by simp) _).alloc (by simp; omega) _)
 have hsW : W.heap.size = w.heap.size + 3 := by rw [← hW]; simp
 have HK1 : Hid (Blk W w.heap.size (.cells (enB e A c D d) 26)) := by rw [← hW]; exact ((Blk.new _ _).alloc _).alloc _
 have HKP : Hid (Blk W (w.heap.size + 1) (.cells (pkB p) 44)) := by
  rw [← hW]; have e1 := (Blk.new (w.alloc (.cells (enB e A c D d) 26)) (.cells (pkB p) 44)).alloc (.cells (enB noEn none 0 none 0) 26); rw [World.size_alloc] at e1; exact e1
 have HK2 : Hid (Blk W (w.heap.size + 1 + 1) (.cells (enB noEn none 0 none 0) 26)) := by
  rw [← hW]; have e1 := Blk.new ((w.alloc (.cells (enB e A c D d) 26)).alloc (.cells (pkB p) 44)) (.cells (enB noEn none 0 none 0) 26); rw [World.size_alloc, World.size_alloc] at e1; exact e1
 obtain ⟨x0, x1, x2, x3, x4, x5, x6, xl⟩ := Blk.d7 HK1.out; have q9 := HKP.out; have p5 := q9.cell 5 (v := .int .i64 p.ack) rfl; have p6 := q9.cell 6 (v := .int .i64 p.held) rfl; have pl := q9.lt; clear q9; go_upto_region 1 with fail
 clear hW; by_cases hno : p.ack < e.base ∨ e.base + n < p.ack
 ·have HAK : Hid (ackedA e p n = e) := by show _ = _; unfold ackedA; rw [if_pos hno]
  have q2 : decide ((n : Int) < p.ack - e.base) = (!decide (p.ack < e.base)) := by
   by_cases h1 : p.ack < e.base
   ·rw [decide_eq_true h1, decide_eq_false (by omega)]; rfl
   ·rw [decide_eq_false h1, decide_eq_true (by omega)]; rfl
  have HQ2 := Lib.hid q2; have q9 := HK2.out; obtain ⟨z0, z1, z2, z3, z4, z5, z6⟩ := Blk.c7 q9; obtain ⟨u0, u1, u2, u3, u4, u5, u6, ul⟩ := Blk.g7 q9; clear q9; obtain ⟨b1, q1⟩ : ∃ b, decide (p.ack < e.base) = b := ⟨_, rfl⟩; clear hno hac hb hheld q2; cases b1 with
  | true =>
   go_wp2; have hl := load26 (setEn_blk (e := e) (A := A) (c := c) (B := D) (d := d) HK2.out); have hf := setEn_frame (e := e) (A := A) (c := c) (B := D) (d := d) (S := fun b => B ≤ b ∧ ∃ cur, Blk w b (.cells cur 71)) (Frame.of_all HBW.out) (b := w.heap.size + 1 + 1) (.inr (by omega)); refine bodyPost_ret (v := enV e A c D d) (results_c rfl rfl hl) rfl ?_; rw [HAK.out]; have hb2 := setEn_below (e := e) (A := A) (c := c) (B := D) (d := d) HBW.out (show w.heap.size ≤ w.heap.size + 1 + 1 by omega); exact ⟨A, c, rfl, by rw [HAK.out]; exact HE.out.out.below hb2 (Nat.le_refl _), by rw [HAK.out]; exact HR.out.frame (Frame.of_all (S := fun _ => False) hb2) (fun _ _ _ h => h), by rw [HAK.out]; exact hcap, hnl, hf⟩
  | false =>
   have q2 : decide ((n : Int) < p.ack - e.base) = true := by rw [HQ2.out, q1]; rfl
   go_wp2; have hl := load26 (setEn_blk (e := e) (A := A) (c := c) (B := D) (d := d) HK2.out); have hf := setEn_frame (e := e) (A := A) (c := c) (B := D) (d := d) (S := fun b => B ≤ b ∧ ∃ cur, Blk w b (.cells cur 71)) (Frame.of_all HBW.out) (b := w.heap.size + 1 + 1) (.inr (by omega)); refine bodyPost_ret (v := enV e A c D d) (results_c rfl rfl hl) rfl ?_; rw [HAK.out]; have hb2 := setEn_below (e := e) (A := A) (c := c) (B := D) (d := d) HBW.out (show w.heap.size ≤ w.heap.size + 1 + 1 by omega); exact ⟨A, c, rfl, by rw [HAK.out]; exact HE.out.out.below hb2 (Nat.le_refl _), by rw [HAK.out]; exact HR.out.frame (Frame.of_all (S := fun _ => False) hb2) (fun _ _ _ h => h), by rw [HAK.out]; exact hcap, hnl, hf⟩
 ·obtain ⟨g, hgn⟩ : ∃ g : Nat, p.ack = e.base + g := ⟨(p.ack - e.base).toNat, by omega⟩; have hgn1 : g ≤ n := by omega
  have HAK : Hid (ackedA e p n = { e with out := markA p.held (n - g) 0 (e.out.drop g), base := p.ack }) := by
   show _ = _; unfold ackedA; rw [if_neg hno]; have : (p.ack - e.base).toNat = g := by omega
   simp only [this]
  have hw2 : IntKind.i64.wrap (p.ack - e.base) = (g : Int) := by rw [hw1]; omega
  have q1 : decide (p.ack < e.base) = false := decide_eq_false (by omega); have q2 : decide ((n : Int) < (g : Int)) = false := decide_eq_false (by omega); have hcut := cut_run (A := A) (n := e.out.length) (c := c) (g := g) (by omega) hcap; obtain ⟨H, hH⟩ : ∃ H : Nat, p.held = (H : Int) := Int.eq_ofNat_of_zero_le hheld.1; have hH7 : H ≤ 7 := by omega
  have HH := Lib.hid hH; have y3 := HK1.out.free 3; have y4 := HK1.out.free 4; clear hw1 hno hac hb hH hheld hgn; go_wp2_with fail
  obtain ⟨V, hV⟩ : ∃ V, (W.setCell ⟨w.heap.size, 4, none⟩ (.slice (cutA A c g) (e.out.length - g) (c - g))).setCell ⟨w.heap.size, 3, none⟩ (.int .i64 p.ack) = V := ⟨_, rfl⟩; have HFV : Hid (Frame (fun b => b = w.heap.size) W V) := by rw [← hV]; exact ((Frame.refl (fun b => b = w.heap.size) W).setCell (p := ⟨_, 4, none⟩) (.inl rfl) _).setCell (p := ⟨_, 3, none⟩) (.inl rfl) _
  obtain ⟨l0, hl0⟩ : ∃ l0, e.out.drop g = l0 := ⟨_, rfl⟩; have hl0n : l0.length = e.out.length - g := by rw [← hl0]; simp
  obtain ⟨E, HEE⟩ : ∃ E : En, Hid (({ e with out := markA p.held (n - g) 0 l0, base := p.ack } : En) = E) := ⟨_, rfl⟩; have HEL : Hid (E.out.length = l0.length) := by show _ = _; rw [← HEE.out]; exact markA_len _ _ _ _
  have HKV : Hid (Blk V w.heap.size (.cells (enB E (cutA A c g) (c - g) D d) 26)) := by
   unfold enB; rw [HEL.out, hl0n, ← hV, ← HEE.out]; exact (HK1.out.set 4 _).set 3 _
  have HBV : Hid (Below w.heap.size w V) := by rw [← hV]; exact (HBW.out.setCell (Nat.le_refl _) _).setCell (Nat.le_refl _) _
  have HEV := Lib.hid (HE.out.below HBV.out); have HRV : Hid (RowAt V B (cutA A c g) l0) := by
   show RowAt _ _ _ _; rw [← hl0]; exact cut_row (HR.out.frame (Frame.of_all (S := fun _ => False) HBV.out) (fun _ _ _ h => h)) hcap
  have HOV : Hid (Cells V (cutA A c g) (ous l0)) := by
   show Cells _ _ _; rw [← hl0]; exact cut_cells HEV.out.out (by omega) hcap
  have HKPV := Lib.hid (HKP.out.frame HFV.out (by show ¬ _ = _; omega)); have HK2V := Lib.hid (HK2.out.frame HFV.out (by show ¬ _ = _; omega)); rw [hl0] at HAK; rw [HEE.out] at HAK; rw [hV]; have hl0s : l0.length + g = e.out.length := by omega
  have hsV := HBV.out.size; clear hl0n x0 x1 x2 x3 x4 x5 x6 xl y3 y4 p5 p6 pl q1 q2 hw2 hcut hV hl0; go_loopg [8, 9] 3 (fun gk bv jv wr => ∃ k : Nat, k + gk = 3 ∧ jv = .int .i64 (k : Int) ∧ bv = .int .i64 ((H / 2 ^ k : Nat) : Int) ∧ Cells wr (cutA A c g) (ous (ackTo p.held (n - g) l0 k)) ∧ RowAt wr B (cutA A c g) (ackTo p.held (n - g) l0 k) ∧ Frame (fun b => B ≤ b ∧ ∃ cur, Blk V b (.cells cur 71)) V wr)
  case atStart => exact ⟨0, rfl, rfl, by rw [HH.out, Nat.pow_zero, Nat.div_one], HOV.out, HRV.out, Frame.refl _ _⟩
  case round =>
   obtain ⟨k, hk, rfl, rfl, hou, hro, hF⟩ := hrel; have HKK := Lib.hid hk; have HOU := Lib.hid hou; have HRO := Lib.hid hro; have HF := Lib.hid hF; have hal := ackTo_len p.held (n - g) l0 k; have HKr := Lib.hid (HKV.out.frame hF (fun ⟨_, cur, hcur⟩ => blk_ne hcur HKV.out (by decide) rfl)); have HK2r := Lib.hid (HK2V.out.frame hF (fun ⟨_, cur, hcur⟩ => blk_ne hcur HK2V.out (by decide) rfl)); have hsr := hF.size; clear hk hou hro hF; obtain ⟨x0, x1, x2, x3, x4, x5, x6, xl⟩ := Blk.d7 HKr.out; by_cases hlt : k < 3
   ·have hd3 : decide ((k : Int) < 3) = true := decide_eq_true (by omega); obtain ⟨X, hX⟩ : ∃ X : Nat, H / 2 ^ k = X := ⟨_, rfl⟩; have HX2 : Hid (H / 2 ^ (k + 1) = X / 2) := by show _ = _; rw [← hX, Nat.pow_succ, Nat.div_div_eq_div_mul]
    have hX7 : X ≤ 7 := by rw [← hX]; exact Nat.le_trans (Nat.div_le_self _ _) hH7
    have hbb := bitN_is hH7 hlt; rw [hX] at hbb ⊢; have HBB := Lib.hid hbb; obtain ⟨b1, hb1⟩ : ∃ b, bitAt (H : Int) k = b := ⟨_, rfl⟩; have hbi : (((X : Int) % 2) == 1) = b1 := by
     rw [← hb1, ← hbb, Bool.eq_iff_iff]; simp only [beq_iff_eq]; omega
    have HB1 : Hid (bitAt p.held k = b1) := by show _ = _; rw [HH.out, hb1]
    have hwj : IntKind.i64.wrap (1 + (k : Int)) = 1 + (k : Int) := wrap_ok ⟨by omega, by omega⟩; have hwk : IntKind.i64.wrap ((k : Int) + 1) = (k : Int) + 1 := wrap_ok ⟨by omega, by omega⟩; have hwg : IntKind.i64.wrap ((n : Int) - (g : Int)) = (n : Int) - (g : Int) := wrap_ok ⟨by omega, by omega⟩; have HME : Hid (3 - (k + 1) < gk ∧ k + 1 + (3 - (k + 1)) = 3) := by have := HKK.out; show _ ∧ _; clear hwg hwj hwk; omega
    clear hbb hb1 hX hlt; cases b1 with
    | false =>
     have HST : Hid (ackTo p.held (n - g) l0 (k + 1) = ackTo p.held (n - g) l0 k) := by
      show _ = _; rw [ackTo, if_neg (by rw [HB1.out]; simp)]
     go_wp2_with fail
     go_roundg (3 - (k + 1))
     case measure => exact HME.out.1
     case rel => exact ⟨k + 1, HME.out.2, rfl, by rw [HX2.out]; rfl, by rw [HST.out]; exact HOU.out, by rw [HST.out]; exact HRO.out, HF.out⟩
    | true =>
     by_cases g1 : 1 + (k : Int) < (n : Int) - (g : Int); rotate_left
     ·have q1 : decide (1 + (k : Int) < (n : Int) - (g : Int)) = false := decide_eq_false g1; have HST : Hid (ackTo p.held (n - g) l0 (k + 1) = ackTo p.held (n - g) l0 k) := by
       show _ = _; rw [ackTo, if_neg]; rintro ⟨_, h2⟩; clear hwg hwj hwk; omega
      clear g1; go_wp2_with fail
      go_roundg (3 - (k + 1))
      case measure => exact HME.out.1
      case rel => exact ⟨k + 1, HME.out.2, rfl, by rw [HX2.out]; rfl, by rw [HST.out]; exact HOU.out, by rw [HST.out]; exact HRO.out, HF.out⟩
     have q1 : decide (1 + (k : Int) < (n : Int) - (g : Int)) = true := decide_eq_true g1; have HST : Hid (ackTo p.held (n - g) l0 (k + 1) = setH (ackTo p.held (n - g) l0 k) (1 + k) true) := by
      show _ = _; rw [ackTo, if_pos ⟨HB1.out, by clear hwg hwj hwk; omega⟩]
     have hk1 : 1 + k < (ackTo p.held (n - g) l0 k).length := by clear hwg hwj hwk; rw [hal]; omega
     obtain ⟨x, b, o, cur, hx, hb, hBb, hbk, hix, hcx, hfx, hcs, hrs⟩ := ou_store (c := c - g) HOU.out HRO.out hk1 true; rw [hal, ← HEL.out] at hix; have hix' : ∀ w', (Instr.indexAt 23 (.slice (cutA A c g) E.out.length (c - g)) (.int .i64 (1 + (k : Int)))).run Try.prog w' = .ok (.pointer (some ⟨b, o, none⟩)) w' := by
      have e1 : ((1 + k : Nat) : Int) = 1 + (k : Int) := Int.natCast_add 1 k; rw [← e1]; exact hix
     have HCS := Lib.hid hcs; have HRS := Lib.hid hrs; have HF2 : Hid (Frame _ V (wr.setCell ⟨b, o + 1, none⟩ (.bool true))) := ou_frame HF.out hBb hbk; clear hx hix hcs hrs hbk hk1 g1; go_wp2_with fail
     go_roundg (3 - (k + 1))
     case measure => exact HME.out.1
     case rel => exact ⟨k + 1, HME.out.2, rfl, by rw [HX2.out]; rfl, by rw [HST.out]; exact HCS.out, by rw [HST.out]; exact HRS.out, HF2.out⟩
   ·obtain rfl : k = 3 := by have := HKK.out; omega
    have HEO : Hid (E.out = ackFin p.held (n - g) l0) := by show _ = _; rw [← HEE.out]; exact (ackFin_mark _ _ _).symm
    have HCAP : Hid (E.out.length ≤ c - g) := by show _ ≤ _; rw [HEL.out]; omega
    by_cases hpos : 0 < l0.length
    ·have q0 : decide (0 < E.out.length) = true := decide_eq_true (by rw [HEL.out]; exact hpos); have q3 : decide ((0 : Int) < (E.out.length : Int)) = true := decide_eq_true (by rw [HEL.out]; omega); have hk1 : 0 < (ackTo p.held (n - g) l0 3).length := by rw [hal]; exact hpos
     obtain ⟨x, b, o, cur, hx, hb, hBb, hbk, hix, hcx, hfx, hcs, hrs⟩ := ou_store (c := c - g) HOU.out HRO.out hk1 false; rw [hal, ← HEL.out] at hix; have hix' : ∀ w', (Instr.indexAt 23 (.slice (cutA A c g) E.out.length (c - g)) (.int .i64 0)).run Try.prog w' = .ok (.pointer (some ⟨b, o, none⟩)) w' := hix; have HST : Hid (ackFin p.held (n - g) l0 = setH (ackTo p.held (n - g) l0 3) 0 false) := by show _ = _; unfold ackFin; rw [if_pos hpos]
     have hnx : w.heap.size ≠ b := fun e2 => by
      rw [← e2] at hbk; exact blk_ne hbk HKr.out (by decide) rfl
     have hnz : w.heap.size + 1 + 1 ≠ b := fun e2 => by
      rw [← e2] at hbk; exact blk_ne hbk HK2r.out (by decide) rfl
     have HFY : Hid (Frame _ V (wr.setCell ⟨b, o + 1, none⟩ (.bool false))) := ou_frame HF.out hBb hbk; have HKY : Hid (Blk (wr.setCell ⟨b, o + 1, none⟩ (.bool false)) _ _) := HKr.out.far hnx _; have HK2Y : Hid (Blk (wr.setCell ⟨b, o + 1, none⟩ (.bool false)) _ _) := HK2r.out.far hnz _; rw [← HST.out, ← HEO.out] at hcs hrs; have HCY := Lib.hid hcs; have HRY := Lib.hid hrs; clear hx hix hcs hrs hbk hk1 hpos hnz; go_upto_region 15 with fail
     obtain ⟨Y, hY⟩ : ∃ Y, wr.setCell ⟨b, o + 1, none⟩ (.bool false) = Y := ⟨_, rfl⟩; rw [hY] at HFY HKY HK2Y HCY HRY ⊢; have hsY := HFY.out.size; clear hY x0 x1 x2 x3 x4 x5 x6 xl hix' hcx hfx; obtain ⟨x0, x1, x2, x3, x4, x5, x6, xl⟩ := Blk.d7 HKY.out; have q9 := HK2Y.out; obtain ⟨z0, z1, z2, z3, z4, z5, z6⟩ := Blk.c7 q9; obtain ⟨u0, u1, u2, u3, u4, u5, u6, ul⟩ := Blk.g7 q9; clear q9; go_wp2; have hl := load26 (setEn_blk (e := E) (A := cutA A c g) (c := c - g) (B := D) (d := d) HK2Y.out); have hf := setEn_frame (e := E) (A := cutA A c g) (c := c - g) (B := D) (d := d) (Frame.refl (fun b => b = w.heap.size + 1 + 1) Y) (.inl rfl); have hFY : Frame (fun b => B ≤ b ∧ ∃ cur, Blk w b (.cells cur 71)) w Y := (Frame.of_all HBV.out).trans HFY.out (fun b hb ⟨h1, cur, hc⟩ => ⟨h1, cur, ((HBV.out.block b hb).symm).trans hc⟩); have hFX := hFY.trans hf (fun b hb e2 => by omega); have hn71 : ∀ b cur, Blk Y b (.cells cur 71) → ¬ b = w.heap.size + 1 + 1 := fun b cur hb e2 => blk_ne hb HK2Y.out (by decide) e2; refine bodyPost_ret (v := enV E (cutA A c g) (c - g) D d) (results_c rfl rfl hl) rfl ⟨cutA A c g, c - g, by rw [HAK.out]; rfl, by rw [HAK.out]; exact HRY.out.cells HCY.out hf hn71, by rw [HAK.out]; exact HRY.out.frame hf hn71, by rw [HAK.out]; exact HCAP.out, cut_nil hnl, hFX⟩
    ·have q0 : decide (0 < E.out.length) = false := decide_eq_false (by rw [HEL.out]; exact hpos); have q3 : decide ((0 : Int) < (E.out.length : Int)) = false := decide_eq_false (by rw [HEL.out]; omega); have HST : Hid (ackFin p.held (n - g) l0 = ackTo p.held (n - g) l0 3) := by show _ = _; unfold ackFin; rw [if_neg hpos]
     have HCY : Hid (Cells wr (cutA A c g) (ous E.out)) := by rw [HEO.out, HST.out]; exact HOU.out
     have HRY : Hid (RowAt wr B (cutA A c g) E.out) := by rw [HEO.out, HST.out]; exact HRO.out
     clear hpos; go_upto_region 15 with fail
     obtain ⟨Y, rfl⟩ : ∃ Y, Y = wr := ⟨_, rfl⟩; have HFY := HF; have HKY := HKr; have HK2Y := HK2r; have hsY := HFY.out.size; clear x0 x1 x2 x3 x4 x5 x6 xl; obtain ⟨x0, x1, x2, x3, x4, x5, x6, xl⟩ := Blk.d7 HKY.out; have q9 := HK2Y.out; obtain ⟨z0, z1, z2, z3, z4, z5, z6⟩ := Blk.c7 q9; obtain ⟨u0, u1, u2, u3, u4, u5, u6, ul⟩ := Blk.g7 q9; clear q9; go_wp2; have hl := load26 (setEn_blk (e := E) (A := cutA A c g) (c := c - g) (B := D) (d := d) HK2Y.out); have hf := setEn_frame (e := E) (A := cutA A c g) (c := c - g) (B := D) (d := d) (Frame.refl (fun b => b = w.heap.size + 1 + 1) Y) (.inl rfl); have hFY : Frame (fun b => B ≤ b ∧ ∃ cur, Blk w b (.cells cur 71)) w Y := (Frame.of_all HBV.out).trans HFY.out (fun b hb ⟨h1, cur, hc⟩ => ⟨h1, cur, ((HBV.out.block b hb).symm).trans hc⟩); have hFX := hFY.trans hf (fun b hb e2 => by omega); have hn71 : ∀ b cur, Blk Y b (.cells cur 71) → ¬ b = w.heap.size + 1 + 1 := fun b cur hb e2 => blk_ne hb HK2Y.out (by decide) e2; refine bodyPost_ret (v := enV E (cutA A c g) (c - g) D d) (results_c rfl rfl hl) rfl ⟨cutA A c g, c - g, by rw [HAK.out]; rfl, by rw [HAK.out]; exact HRY.out.cells HCY.out hf hn71, by rw [HAK.out]; exact HRY.out.frame hf hn71, by rw [HAK.out]; exact HCAP.out, cut_nil hnl, hFX⟩
end Go.Proofs.Ytejabnoidhlfaaa
