/- Contracts and lemmas that the claim uses. -/
import Derived.Test.YtejabnoidhlfaaaV49
set_option maxRecDepth 100000
set_option maxHeartbeats 16000000
namespace Go.Proofs.Ytejabnoidhlfaaa
theorem quiet0_saf {l : Lp} (h : Saf l) : Saf (quiet0 l) := by
 have h0 : Saf { l with free := true } := h.wires (ws := l.wire) (fr := true) (fun x hx => .inl hx); exact (h0.tick (.inl rfl)).tick (.inr rfl)
theorem quiet0_free (l : Lp) : (quiet0 l).free = true := by
 unfold quiet0; simp only; rw [way_free, way_free]
theorem SameL.quiet0 {l r : Lp} (h : SameL l r) : SameL (Go.Proofs.Ytejabnoidhlfaaa.quiet0 l) (Go.Proofs.Ytejabnoidhlfaaa.quiet0 r) := by
 have h0 : SameL { l with free := true } { r with free := true } := ⟨h.e0, h.e1, h.wire, h.tales, rfl⟩; unfold Go.Proofs.Ytejabnoidhlfaaa.quiet0; simp only; have h1 : SameL (wayA { l with free := true } 0 (tickA l.e0).1) (wayA { r with free := true } 0 (tickA r.e0).1) := by
  have ht : tickA l.e0 = tickA r.e0 := by rw [h.e0]
  rw [ht]; exact SameL.way _ _ h0
 rw [h1.e1]; exact SameL.way _ _ h1
theorem quiet_same {l r : Lp} (h : Saf l) (k : SameL l r) {j : Nat} {x : Tp} (hx : l.wire[j]? = some x) : SameL (carryA l j) (rTakes { r with wire := r.wire.eraseIdx j } x) :=
 (carry_same h hx).trans ((k.wires j).rtakes x)
theorem played_same (ds : List Dd) : (rPlayed ds).2 = (playedA ds).2 ∧ ((playedA ds).2 = 0 → SameL (playedA ds).1 (rPlayed ds).1 ∧ Saf (playedA ds).1 ∧ (rPlayed ds).1.free = false) := by
 unfold rPlayed playedA; split
 ·exact ⟨rfl, fun h => by cases h⟩
 ·split
  ·exact ⟨rfl, fun h => by cases h⟩
  ·rename_i h2; have hall : ∀ d ∈ ds, deedB d = true := by
    have : ds.all deedB = true := by
     cases hq : ds.all deedB with
     | true => rfl
     | false => exact absurd hq h2
    exact List.all_eq_true.1 this
   exact ⟨rfl, fun _ => ⟨folds_same ds hall first_saf (SameL.refl _), folds_saf ds _ hall first_saf, rfolds_free _ _⟩⟩
theorem quietA_some {ds : List Dd} {order : List Int} (h1 : order.length ≤ 200) (h2 : (playedA ds).2 = 0) {f n : Nat} {l : Lp} (hq : quietN order f n l = quietN order (mes (quiet0 (playedA ds).1)) 0 (quiet0 (playedA ds).1)) (h0 : l.wire.length = 0) : quietA ds order = (showA l, (n : Int), 0) := by
 unfold quietA; rw [if_neg (by omega), if_neg (fun h => h h2), ← hq, quietN_end order h0]
structure Qr (order : List Int) (l : Lp) (g j : Nat) (L R : Lp) : Prop where
 ms : mes L ≤ g
 sum : j + g = mes (quiet0 l)
 k : LineK L (4010 + 20 * j)
 q : quietN order g j L = quietN order (mes (quiet0 l)) 0 (quiet0 l)
 saf : Saf L
 free : L.free = true
 same : SameL L R
theorem Qr.start {order : List Int} {l r : Lp} (hk : LineK l 4000) (hs : Saf l) (h : SameL l r) : Qr order l (mes (quiet0 l)) 0 (quiet0 l) (quiet0 r) :=
 ⟨Nat.le_refl _, Nat.zero_add _, quiet0_k hk, rfl, quiet0_saf hs, quiet0_free l, h.quiet0⟩
theorem Qr.rk {order : List Int} {l L R : Lp} {g j : Nat} (h : Qr order l g j L R) (hm : mes (quiet0 l) ≤ 20000) : Rk R 900000 := h.same.rk h.k (by have := h.sum; omega)
theorem Qr.fr {order : List Int} {l L R : Lp} {g j : Nat} (h : Qr order l g j L R) : R.free = true := by rw [← h.same.free]; exact h.free
theorem Qr.step {order : List Int} {l L R : Lp} {g j kn : Nat} {x : Tp} (h : Qr order l g j L R) (h0 : ¬ R.wire.length = 0) (hn : nextK order j R.wire.length = kn) (hx : R.wire[kn]? = some x) :
  1 ≤ g ∧ Qr order l (g - 1) (j + 1) (carryA L kn) (rTakes { R with wire := R.wire.eraseIdx kn } x) := by
 have hw := h.same.wire; have hx' : L.wire[kn]? = some x := by rw [hw]; exact hx
 have hlt := (List.getElem?_eq_some_iff.1 hx').1; obtain ⟨_, c2, c3, _⟩ := carry_less h.k.ok hlt; have h1 : 1 ≤ g := by have := h.ms; omega
 have h5 := carry_k h.k hlt; refine ⟨h1, by have := h.ms; omega, by have := h.sum; omega, ⟨h5.ok, h5.now, h5.bulk.mono (by omega)⟩, ?_, h.saf.carry hlt, c3.trans h.free, quiet_same h.saf h.same hx'⟩; have h9 := quietN_step order (f := g - 1) (n := j) (l := L) (by rw [hw]; exact h0); rw [show g - 1 + 1 = g by omega, hw, hn] at h9; rw [← h9]; exact h.q
theorem Qr.done {ds : List Dd} {order : List Int} {L R : Lp} {g j : Nat} (h : Qr order (playedA ds).1 g j L R) (h1 : order.length ≤ 200) (h2 : (playedA ds).2 = 0) (h0 : R.wire.length = 0) : quietA ds order = (showA R, (j : Int), 0) := by
 rw [quietA_some h1 h2 h.q (by rw [h.same.wire]; exact h0), h.same.show_]
theorem qj_end (l : Lp) (j : Nat) (i : Int) : (qj l j).end_ i = l.end_ i := by
 have h : (qj l j).e0 = l.e0 ∧ (qj l j).e1 = l.e1 := by
  match j with
  | 0 => exact ⟨rfl, rfl⟩
  | 1 =>
   show (wayA { l with free := true } 0 (tickA l.e0).1).e0 = _ ∧ (wayA { l with free := true } 0 (tickA l.e0).1).e1 = _; rw [way_eq]; exact ⟨rfl, rfl⟩
  | _ + 2 => exact quiet0_e l
 unfold Lp.end_; rw [h.1, h.2]
theorem qj_free (l : Lp) (j : Nat) : (qj l j).free = true := by
 match j with
 | 0 => rfl
 | 1 => exact way_free _ _ _
 | _ + 2 => exact quiet0_free l
theorem qj_wire {l : Lp} {n : Nat} (h : l.wire.length ≤ n) {j : Nat} (hj : j < 2) : (qj l j).wire.length ≤ n + 5 := by
 have h2 : j = 0 ∨ j = 1 := by omega
 rcases h2 with rfl | rfl
 ·show l.wire.length ≤ _; omega
 ·have h3 := wayA_len (frm := 0) (tickA l.e0).1 { l with free := true }; have h4 := tick_packets l.e0; show (wayA { l with free := true } 0 (tickA l.e0).1).wire.length ≤ _; have h5 : ({ l with free := true } : Lp).wire.length = l.wire.length := rfl; omega
end Go.Proofs.Ytejabnoidhlfaaa
namespace Go.Proofs.Ytejabnoidhlfaaa
open Go.RowKit Go.Maps
theorem lvB_get (l : Lp) (m : Lm) (j : Nat) (v : Value) (h : (ezs [⟨l.e0, m.A0, m.c0, m.D0, m.d0⟩, ⟨l.e1, m.A1, m.c1, m.D1, m.d1⟩])[j]? = some v) : (lvB l m)[j]? = some v := by
 have hj : j < 14 := by
  have := (List.getElem?_eq_some_iff.1 h).1; simpa [ezs, ezC] using this
 have : j = 0 ∨ j = 1 ∨ j = 2 ∨ j = 3 ∨ j = 4 ∨ j = 5 ∨ j = 6 ∨ j = 7 ∨ j = 8 ∨ j = 9 ∨ j = 10 ∨ j = 11 ∨ j = 12 ∨ j = 13 := by omega
 rcases this with rfl | rfl | rfl | rfl | rfl | rfl | rfl | rfl | rfl | rfl | rfl | rfl | rfl | rfl <;> exact h
theorem lvV_ln {w : World} {B eb : Nat} {l : Lp} {m : Lm} (h : Lv w B eb l m) : lvV eb l m = lnV (showA l) (some ⟨eb, 0, none⟩) 2 m.W m.cw m.T m.ct := by
 unfold lvV lnV showA; rw [← h.tz, List.length_map]; rfl
theorem Lv.ln {w : World} {B eb : Nat} {l : Lp} {m : Lm} (h : Lv w B eb l m) {n : Nat} (hk : Rk l n) (hn : n ≤ 100000000) :
  LnAt w B (showA l) (some ⟨eb, 0, none⟩) m.W m.T [⟨l.e0, m.A0, m.c0, m.D0, m.d0⟩, ⟨l.e1, m.A1, m.c1, m.D1, m.d1⟩] m.zs ∧ (showA l).tales.length ≤ m.ct := by
 have ht := h.tal; have hz : m.zs.length = l.tales.length := by rw [← h.tz, List.length_map]
 have hm : ∀ z ∈ m.zs, ∀ x ∈ tx z, x ∈ txs m.zs := fun z hz x hx => List.mem_flatMap.2 ⟨z, hz, hx⟩; have hlo : ∀ {t : TypeId} {size n c : Nat} {A : Option Addr} {xs : List Value}, w.ownsRow B t size (.slice A n c) n xs → ∀ a, A = some a → B ≤ a.block := fun ho a ha => (ho.lt a.block (by rw [ha]; rfl)).1; have hS := fun z hz => h.txt.own (.slice z.S z.v.sent.length z.cs, z.v.sent) (hm z hz _ (by simp [tx])); have hL := fun z hz => h.txt.own (.slice z.L z.v.lost.length z.cl, z.v.lost) (hm z hz _ (by simp [tx])); have hK := fun z hz => h.txt.own (.slice z.K z.v.taken.length z.ck, z.v.taken) (hm z hz _ (by simp [tx])); refine ⟨⟨⟨by rw [ezs_len]; simp, eb, 0, by have := h.box.lt; omega, fun _ => ⟨rfl, h.box.lt⟩, fun k v hv => ?_⟩, rfl, fun z hz => ?_, (Cells.of_own h.wire (by have := hk.len; rw [tps_len]; omega)).1, (Cells.of_own ht (by rw [tzs_len]; have := hk.tales; omega)).1, h.tz, fun z hz => ?_, ⟨fun a ha => ?_, hlo h.wire, hlo ht, fun z hz => ⟨hlo (hS z hz), hlo (hL z hz), hlo (hK z hz)⟩⟩, fun z hz => ⟨own_cap (hS z hz), own_cap (hK z hz)⟩⟩, ?_⟩
 ·rw [Nat.zero_add]; exact h.box.cell k (lvB_get l m k v hv)
 ·rcases List.mem_cons.1 hz with rfl | hz
  ·exact h.e0
  ·rw [List.mem_singleton.1 hz]; exact h.e1
 ·have hv : z.v ∈ l.tales := by rw [← h.tz]; exact List.mem_map_of_mem hz
  obtain ⟨b1, b2, b3⟩ := hk.txt z.v hv; exact ⟨(Cells.of_own (hS z hz) (by rw [strs_len]; show z.v.sent.length ≤ _; omega)).1, (Cells.of_own (hL z hz) (by rw [strs_len]; show z.v.lost.length ≤ _; omega)).1, (Cells.of_own (hK z hz) (by rw [strs_len]; show z.v.taken.length ≤ _; omega)).1⟩
 ·injection ha with ha; rw [← ha]; exact h.lo
 ·have := own_cap ht; show l.tales.length ≤ _; omega
theorem rplay_py (A : Option Addr) (c : Nat) (ds : List Dd) (w : World) (h : Cells w A (dds ds)) : Calls Try.prog 26 #[.slice A ds.length c] w (PyPost ds w) := by
 refine (rplay_any A c ds w h).mono ?_; rintro r w' ⟨hB, ⟨hne, rfl⟩ | ⟨h0, eb, m, rfl, hl⟩⟩
 ·have h1 := (played_same ds).1; have h2 : ¬ (playedA ds).2 = 0 := by rw [← h1]; exact hne
  have hP : playA ds = (noLn, (rPlayed ds).2) := by unfold playA; rw [if_neg h2, h1]
  exact ⟨none, 0, none, 0, none, 0, [], [], by rw [hP]; rfl, by rw [hP]; exact lnAt_no _ _, hB, by rw [hP]; exact Nat.zero_le _⟩
 ·obtain ⟨h1, h2⟩ := played_same ds; have h3 : (playedA ds).2 = 0 := by rw [← h1]; exact h0
  obtain ⟨hs, hf, _⟩ := h2 h3; have hP : playA ds = (showA (rPlayed ds).1, 0) := by unfold playA; rw [if_pos h3, hs.show_]
  have hk := hs.rk (played_k h3).2.1 (Nat.le_refl _); obtain ⟨k1, k2⟩ := hl.ln hk (by omega); exact ⟨_, _, _, _, _, _, _, _, by rw [hP, lvV_ln hl], by rw [hP]; exact k1, hB, by rw [hP]; exact k2⟩
end Go.Proofs.Ytejabnoidhlfaaa
