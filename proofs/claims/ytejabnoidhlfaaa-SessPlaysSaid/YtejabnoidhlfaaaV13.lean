/- Contracts and lemmas that the claim uses. -/
import Derived.Test.YtejabnoidhlfaaaV12
set_option maxRecDepth 100000
set_option maxHeartbeats 16000000
namespace Go.Proofs.Ytejabnoidhlfaaa
open Go.RowKit Go.Maps
structure EnT (w : World) (e : En) (A : Option Addr) (c : Nat) (D : Option Addr) : Prop where
 at_ : EnAt w e A D
 row : RowAt w 0 A e.out
 im : ImAt w D e.inn
 nil : A = none → c = 0
 cap : e.out.length ≤ c
theorem EnT.frame {S : Nat → Prop} {w w' : World} {e : En} {A : Option Addr} {c : Nat} {D : Option Addr} (h : EnT w e A c D) (hF : Frame S w w') (h1 : ∀ b cur, Blk w b (.cells cur 71) → ¬ S b) (h2 : ∀ b cur, Blk w b (.cells cur 73) → ¬ S b) : EnT w' e A c D := by
 refine ⟨⟨h.row.cells h.at_.out hF h1, h.at_.inn.frame hF fun hn a ha => ?_⟩, h.row.frame hF h1, h.im.frame hF h2, h.nil, h.cap⟩; obtain ⟨b, off, cur, e1, e2⟩ := h.im (by rintro h0; exact hn (by rw [h0]; rfl)); rw [e1] at ha; injection ha with ha; rw [← ha]; exact h2 b cur e2
theorem EnT.nl {w : World} {e : En} {A : Option Addr} {c : Nat} {D : Option Addr} (h : EnT w e A c D) (hA : A = none) : e.out.length = 0 ∧ c = 0 := by
 have := h.cap; have := h.nil hA; omega
structure Lm where
 A0 : Option Addr
 c0 : Nat
 D0 : Option Addr
 d0 : Nat
 A1 : Option Addr
 c1 : Nat
 D1 : Option Addr
 d1 : Nat
 W : Option Addr
 cw : Nat
 T : Option Addr
 ct : Nat
 zs : List Tz
def loB (l : Lp) (m : Lm) : Array Value := #[.int .i64 l.e0.life, .int .i64 l.e0.peer, .int .i64 l.e0.phase, .int .i64 l.e0.base, .slice m.A0 l.e0.out.length m.c0, .int .i64 l.e0.want, .slice m.D0 l.e0.inn.length m.d0,
 .int .i64 l.e1.life, .int .i64 l.e1.peer, .int .i64 l.e1.phase, .int .i64 l.e1.base, .slice m.A1 l.e1.out.length m.c1, .int .i64 l.e1.want, .slice m.D1 l.e1.inn.length m.d1,
 .slice m.W l.wire.length m.cw, .slice m.T m.zs.length m.ct, .int .i64 l.n0, .int .i64 l.n1, .bool l.free]
structure Lo (w : World) (B bl : Nat) (l : Lp) (m : Lm) : Prop where
 box : Blk w bl (.cells (loB l m) 110)
 e0 : EnT w l.e0 m.A0 m.c0 m.D0
 e1 : EnT w l.e1 m.A1 m.c1 m.D1
 wire : w.ownsRow B 116 8 (.slice m.W l.wire.length m.cw) l.wire.length (tps l.wire)
 tal : w.ownsRow B 120 6 (.slice m.T m.zs.length m.ct) m.zs.length (tzs m.zs)
 tz : m.zs.map Tz.v = l.tales
 txt : Rows w B (txs m.zs)
 lo : B ≤ bl
def LB (bl : Nat) (l : Lp) (m : Lm) (b : Nat) : Prop := b = bl ∨ (Value.slice m.W l.wire.length m.cw).ownBlock = some b ∨ (Value.slice m.T m.zs.length m.ct).ownBlock = some b ∨ ∃ x ∈ txs m.zs, x.1.ownBlock = some b
structure Ls (bl : Nat) (l : Lp) (m : Lm) (w : World) (l' : Lp) (m' : Lm) (w' : World) : Prop where
 fr : Frame (LB bl l m) w w'
 new : ∀ b, LB bl l' m' b → LB bl l m b ∨ w.heap.size ≤ b
section
variable {w w' w'' : World} {B bl : Nat} {l l' l'' : Lp} {m m' m'' : Lm} {S : Nat → Prop}
theorem Ls.refl (bl : Nat) (l : Lp) (m : Lm) (w : World) : Ls bl l m w l m w := ⟨Frame.refl _ _, fun _ h => .inl h⟩
theorem Ls.trans (h : Ls bl l m w l' m' w') (k : Ls bl l' m' w' l'' m'' w'') : Ls bl l m w l'' m'' w'' := by
 have hs := h.fr.size; refine ⟨h.fr.trans k.fr fun b hb hT => ?_, fun b hb => ?_⟩
 ·rcases h.new b hT with h1 | h1
  ·exact h1
  ·omega
 ·rcases k.new b hb with h1 | h1
  ·exact h.new b h1
  ·exact .inr (by omega)
theorem Lo.lb (h : Lo w B bl l m) {b : Nat} (hb : LB bl l m b) : B ≤ b ∧ b < w.heap.size := by
 rcases hb with rfl | hb | hb | ⟨x, hx, hb⟩
 ·exact ⟨h.lo, h.box.lt⟩
 ·exact h.wire.lt b hb
 ·exact h.tal.lt b hb
 ·exact (h.txt.own x hx).lt b hb
theorem Lo.ne (h : Lo w B bl l m) {b : Nat} {cs : Array Value} {t : TypeId} (hb : Blk w b (.cells cs t)) (h1 : t ≠ 110) (h2 : 116 ≠ t) (h3 : 120 ≠ t) (h4 : 9 ≠ t) : ¬ LB bl l m b := by
 intro e; rcases e with e | e | e | ⟨x, hx, e⟩
 ·exact blk_ne hb h.box h1 e
 ·exact own_ne h.wire hb h2 e
 ·exact own_ne h.tal hb h3 e
 ·exact own_ne (h.txt.own x hx) hb h4 e
theorem Ls.below (k : Ls bl l m w l' m' w') (h : Lo w B bl l m) : Below B w w' := k.fr.below (fun b hb => (h.lb hb).1) (by have := h.lo; have := h.box.lt; omega)
theorem Lo.frame (h : Lo w B bl l m) (hF : Frame S w w') (hS : ∀ b, LB bl l m b → ¬ S b) (h1 : ∀ b cur, Blk w b (.cells cur 71) → ¬ S b) (h2 : ∀ b cur, Blk w b (.cells cur 73) → ¬ S b) : Lo w' B bl l m :=
 ⟨h.box.frame hF (hS _ (.inl rfl)), h.e0.frame hF h1 h2, h.e1.frame hF h1 h2, own_frame h.wire hF (fun g hg => hS g (.inr (.inl hg))), own_frame h.tal hF (fun g hg => hS g (.inr (.inr (.inl hg)))), h.tz,
  h.txt.frame hF (fun x hx g hg => hS g (.inr (.inr (.inr ⟨x, hx, hg⟩)))), h.lo⟩
theorem Lo.below (h : Lo w B bl l m) (hB : Below w.heap.size w w') : Lo w' B bl l m := h.frame (S := fun _ => False) (Frame.of_all hB) (fun _ _ h => h) (fun _ _ _ h => h) (fun _ _ _ h => h)
theorem Lo.drew (h : Lo w B bl l m) : Lo w.drew B bl l m := h.below (Below.refl _ w).drew
theorem Ls.of_below (hB : Below w.heap.size w w') : Ls bl l m w l m w' := ⟨Frame.of_all hB, fun _ h => .inl h⟩
theorem EnT.ls {e : En} {A : Option Addr} {c : Nat} {D : Option Addr} (h : EnT w e A c D) (hl : Lo w B bl l m) (k : Ls bl l m w l' m' w') : EnT w' e A c D :=
 h.frame k.fr (fun _ _ hb => hl.ne hb (by decide) (by decide) (by decide) (by decide)) (fun _ _ hb => hl.ne hb (by decide) (by decide) (by decide) (by decide))
end
theorem own_own {w : World} {B B' : Nat} {e e' : TypeId} {s s' n n' : Nat} {v v' : Value} {xs xs' : List Value} (h : w.ownsRow B e s v n xs) (h' : w.ownsRow B' e' s' v' n' xs') (hne : e ≠ e') : ∀ g, v.ownBlock = some g → v'.ownBlock ≠ some g := by
 intro g hg; rcases h.2 with ⟨h0, _⟩ | ⟨g0, cap, cur, hv, hb, hh, _⟩
 ·rw [h0] at hg; cases hg
 ·have e1 : g0 = g := by rw [hv] at hg; injection hg
  subst e1; exact own_ne h' hh (fun e => hne e.symm)
def Lm.setE (m : Lm) (i : Int) (A : Option Addr) (c : Nat) (D : Option Addr) (d : Nat) : Lm := if i = 0 then { m with A0 := A, c0 := c, D0 := D, d0 := d } else { m with A1 := A, c1 := c, D1 := D, d1 := d }
def setEnO (w : World) (b o : Nat) (e : En) (A : Option Addr) (c : Nat) (B : Option Addr) (d : Nat) : World := (((((((w.setCell ⟨b, o, none⟩ (.int .i64 e.life)).setCell ⟨b, o + 1, none⟩ (.int .i64 e.peer)).setCell ⟨b, o + 2, none⟩ (.int .i64 e.phase)).setCell ⟨b, o + 3, none⟩ (.int .i64 e.base)).setCell ⟨b, o + 4, none⟩ (.slice A e.out.length c)).setCell ⟨b, o + 5, none⟩ (.int .i64 e.want)).setCell ⟨b, o + 6, none⟩ (.slice B e.inn.length d))
theorem setEnO_frame {S : Nat → Prop} {w0 w : World} {b o : Nat} {e : En} {A B : Option Addr} {c d : Nat} (h : Frame S w0 w) (hb : S b ∨ w0.heap.size ≤ b) : Frame S w0 (setEnO w b o e A c B d) :=
 ((((((h.setCell hb _).setCell hb _).setCell hb _).setCell hb _).setCell hb _).setCell hb _).setCell hb _
theorem setEnO_chain {w : World} {b o : Nat} {u0 u1 u2 u3 u4 u5 u6 : Value} (x0 x1 x2 x3 x4 x5 : Value) (h : w.cell? ⟨b, o, none⟩ = some u0 ∧ w.cell? ⟨b, o + 1, none⟩ = some u1 ∧ w.cell? ⟨b, o + 2, none⟩ = some u2 ∧ w.cell? ⟨b, o + 3, none⟩ = some u3 ∧ w.cell? ⟨b, o + 4, none⟩ = some u4 ∧ w.cell? ⟨b, o + 5, none⟩ = some u5 ∧ w.cell? ⟨b, o + 6, none⟩ = some u6) :
  (w.setCell ⟨b, o, none⟩ x0).cell? ⟨b, o + 1, none⟩ = some u1 ∧ ((w.setCell ⟨b, o, none⟩ x0).setCell ⟨b, o + 1, none⟩ x1).cell? ⟨b, o + 2, none⟩ = some u2 ∧ (((w.setCell ⟨b, o, none⟩ x0).setCell ⟨b, o + 1, none⟩ x1).setCell ⟨b, o + 2, none⟩ x2).cell? ⟨b, o + 3, none⟩ = some u3 ∧
  ((((w.setCell ⟨b, o, none⟩ x0).setCell ⟨b, o + 1, none⟩ x1).setCell ⟨b, o + 2, none⟩ x2).setCell ⟨b, o + 3, none⟩ x3).cell? ⟨b, o + 4, none⟩ = some u4 ∧ (((((w.setCell ⟨b, o, none⟩ x0).setCell ⟨b, o + 1, none⟩ x1).setCell ⟨b, o + 2, none⟩ x2).setCell ⟨b, o + 3, none⟩ x3).setCell ⟨b, o + 4, none⟩ x4).cell? ⟨b, o + 5, none⟩ = some u5 ∧
  ((((((w.setCell ⟨b, o, none⟩ x0).setCell ⟨b, o + 1, none⟩ x1).setCell ⟨b, o + 2, none⟩ x2).setCell ⟨b, o + 3, none⟩ x3).setCell ⟨b, o + 4, none⟩ x4).setCell ⟨b, o + 5, none⟩ x5).cell? ⟨b, o + 6, none⟩ = some u6 := by
 obtain ⟨h0, h1, h2, h3, h4, h5, h6⟩ := h; have ne : ∀ i j : Nat, i ≠ j → (⟨b, o + i, none⟩ : Addr) ≠ ⟨b, o + j, none⟩ := fun i j hij e => by injection e with _ e2 _; omega
 have n0 : ∀ j : Nat, j ≠ 0 → (⟨b, o, none⟩ : Addr) ≠ ⟨b, o + j, none⟩ := fun j hj e => by injection e with _ e2 _; omega
 refine ⟨?_, ?_, ?_, ?_, ?_, ?_⟩
 ·rw [World.cell?_setCell_other _ _ _ _ (n0 1 (by omega))]; exact h1
 ·rw [World.cell?_setCell_other _ _ _ _ (ne 1 2 (by omega)), World.cell?_setCell_other _ _ _ _ (n0 2 (by omega))]; exact h2
 ·rw [World.cell?_setCell_other _ _ _ _ (ne 2 3 (by omega)), World.cell?_setCell_other _ _ _ _ (ne 1 3 (by omega)), World.cell?_setCell_other _ _ _ _ (n0 3 (by omega))]; exact h3
 ·rw [World.cell?_setCell_other _ _ _ _ (ne 3 4 (by omega)), World.cell?_setCell_other _ _ _ _ (ne 2 4 (by omega)), World.cell?_setCell_other _ _ _ _ (ne 1 4 (by omega)), World.cell?_setCell_other _ _ _ _ (n0 4 (by omega))]; exact h4
 ·rw [World.cell?_setCell_other _ _ _ _ (ne 4 5 (by omega)), World.cell?_setCell_other _ _ _ _ (ne 3 5 (by omega)), World.cell?_setCell_other _ _ _ _ (ne 2 5 (by omega)), World.cell?_setCell_other _ _ _ _ (ne 1 5 (by omega)), World.cell?_setCell_other _ _ _ _ (n0 5 (by omega))]; exact h5
 ·rw [World.cell?_setCell_other _ _ _ _ (ne 5 6 (by omega)), World.cell?_setCell_other _ _ _ _ (ne 4 6 (by omega)), World.cell?_setCell_other _ _ _ _ (ne 3 6 (by omega)), World.cell?_setCell_other _ _ _ _ (ne 2 6 (by omega)), World.cell?_setCell_other _ _ _ _ (ne 1 6 (by omega)), World.cell?_setCell_other _ _ _ _ (n0 6 (by omega))]; exact h6
structure Lr (w : World) (B : Nat) (l : Lp) (m : Lm) : Prop where
 e0 : EnT w l.e0 m.A0 m.c0 m.D0
 e1 : EnT w l.e1 m.A1 m.c1 m.D1
 wire : w.ownsRow B 116 8 (.slice m.W l.wire.length m.cw) l.wire.length (tps l.wire)
 tal : w.ownsRow B 120 6 (.slice m.T m.zs.length m.ct) m.zs.length (tzs m.zs)
 tz : m.zs.map Tz.v = l.tales
 txt : Rows w B (txs m.zs)
section
variable {w w' w6 : World} {B bl : Nat} {l l' : Lp} {m m' : Lm} {S : Nat → Prop}
theorem Lr.lo (r : Lr w B l m) (hb : Blk w bl (.cells (loB l m) 110)) (hB : B ≤ bl) : Lo w B bl l m := ⟨hb, r.e0, r.e1, r.wire, r.tal, r.tz, r.txt, hB⟩
theorem Lo.rest (h : Lo w B bl l m) (hF : Frame (fun b => b = bl) w w') : Lr w' B l m := by
 have h7 : ∀ b cur, Blk w b (.cells cur 71) → ¬ b = bl := fun b cur hb e => blk_ne hb h.box (by decide) e; have h8 : ∀ b cur, Blk w b (.cells cur 73) → ¬ b = bl := fun b cur hb e => blk_ne hb h.box (by decide) e; exact ⟨h.e0.frame hF h7 h8, h.e1.frame hF h7 h8, own_frame h.wire hF (fun g hg e => own_ne h.wire h.box (by decide) (by rw [hg, e])), own_frame h.tal hF (fun g hg e => own_ne h.tal h.box (by decide) (by rw [hg, e])), h.tz,
  h.txt.frame hF (fun x hx g hg e => own_ne (h.txt.own x hx) h.box (by decide) (by rw [hg, e]))⟩
theorem Ls.box (hF : Frame (fun b => b = bl) w w') (hLB : ∀ b, LB bl l' m' b → LB bl l m b) : Ls bl l m w l' m' w' := ⟨hF.mono fun _ _ e => .inl e, fun b hb => .inl (hLB b hb)⟩
theorem setEnO_blk0 {e : En} {A : Option Addr} {c : Nat} {D : Option Addr} {d : Nat} (h : Blk w bl (.cells (loB l m) 110)) : Blk (setEnO w bl 0 e A c D d) bl (.cells (loB (l.setEnd 0 e) (m.setE 0 A c D d)) 110) := by
 unfold loB at h; have q := ((((((h.set 0 (.int .i64 e.life)).set 1 (.int .i64 e.peer)).set 2 (.int .i64 e.phase)).set 3 (.int .i64 e.base)).set 4 (.slice A e.out.length c)).set 5 (.int .i64 e.want)).set 6 (.slice D e.inn.length d); simp only [List.setIfInBounds_toArray, List.set_cons_succ, List.set_cons_zero] at q; exact q
theorem setEnO_blk1 {e : En} {A : Option Addr} {c : Nat} {D : Option Addr} {d : Nat} (h : Blk w bl (.cells (loB l m) 110)) : Blk (setEnO w bl 7 e A c D d) bl (.cells (loB (l.setEnd 1 e) (m.setE 1 A c D d)) 110) := by
 unfold loB at h; have q := ((((((h.set 7 (.int .i64 e.life)).set 8 (.int .i64 e.peer)).set 9 (.int .i64 e.phase)).set 10 (.int .i64 e.base)).set 11 (.slice A e.out.length c)).set 12 (.int .i64 e.want)).set 13 (.slice D e.inn.length d); simp only [List.setIfInBounds_toArray, List.set_cons_succ, List.set_cons_zero] at q; exact q
theorem Lo.setEnd (h : Lo w B bl l m) {i : Int} (hi : i = 0 ∨ i = 1) {e : En} {A : Option Addr} {c : Nat} {D : Option Addr} (d : Nat) (he : EnT w e A c D) :
  Lo (setEnO w bl (7 * i.toNat) e A c D d) B bl (l.setEnd i e) (m.setE i A c D d) ∧ Ls bl l m w (l.setEnd i e) (m.setE i A c D d) (setEnO w bl (7 * i.toNat) e A c D d) := by
 have hF : Frame (fun b => b = bl) w (setEnO w bl (7 * i.toNat) e A c D d) := setEnO_frame (Frame.refl (fun b => b = bl) w) (.inl rfl); have r := h.rest hF; have he' : EnT (setEnO w bl (7 * i.toNat) e A c D d) e A c D := he.frame hF (fun b cur hb e => blk_ne hb h.box (by decide) e) (fun b cur hb e => blk_ne hb h.box (by decide) e); rcases hi with rfl | rfl
 ·have hb : Blk (setEnO w bl 0 e A c D d) bl (.cells (loB (l.setEnd 0 e) (m.setE 0 A c D d)) 110) := setEnO_blk0 h.box; exact ⟨Lr.lo ⟨he', r.e1, r.wire, r.tal, r.tz, r.txt⟩ hb h.lo, Ls.box hF fun _ h => h⟩
 ·have hb : Blk (setEnO w bl 7 e A c D d) bl (.cells (loB (l.setEnd 1 e) (m.setE 1 A c D d)) 110) := setEnO_blk1 h.box; exact ⟨Lr.lo ⟨r.e0, he', r.wire, r.tal, r.tz, r.txt⟩ hb h.lo, Ls.box hF fun _ h => h⟩
theorem Lo.setNow (h : Lo w B bl l m) {i : Int} (hi : i = 0 ∨ i = 1) (n : Int) :
  Lo (w.setCell ⟨bl, 16 + i.toNat, none⟩ (.int .i64 n)) B bl (l.setNow i n) m ∧ Ls bl l m w (l.setNow i n) m (w.setCell ⟨bl, 16 + i.toNat, none⟩ (.int .i64 n)) := by
 have hF : Frame (fun b => b = bl) w (w.setCell ⟨bl, 16 + i.toNat, none⟩ (.int .i64 n)) := (Frame.refl (fun b => b = bl) w).setCell (p := ⟨bl, 16 + i.toNat, none⟩) (.inl rfl) _; have r := h.rest hF; rcases hi with rfl | rfl
 ·have hb : Blk (w.setCell ⟨bl, 16 + (0 : Int).toNat, none⟩ (.int .i64 n)) bl (.cells (loB (l.setNow 0 n) m) 110) := h.box.set 16 (.int .i64 n); exact ⟨Lr.lo ⟨r.e0, r.e1, r.wire, r.tal, r.tz, r.txt⟩ hb h.lo, Ls.box hF fun _ h => h⟩
 ·have hb : Blk (w.setCell ⟨bl, 16 + (1 : Int).toNat, none⟩ (.int .i64 n)) bl (.cells (loB (l.setNow 1 n) m) 110) := h.box.set 17 (.int .i64 n); exact ⟨Lr.lo ⟨r.e0, r.e1, r.wire, r.tal, r.tz, r.txt⟩ hb h.lo, Ls.box hF fun _ h => h⟩
theorem Lo.setFree (h : Lo w B bl l m) (v : Bool) : Lo (w.setCell ⟨bl, 18, none⟩ (.bool v)) B bl { l with free := v } m ∧ Ls bl l m w { l with free := v } m (w.setCell ⟨bl, 18, none⟩ (.bool v)) := by
 have hF : Frame (fun b => b = bl) w (w.setCell ⟨bl, 18, none⟩ (.bool v)) := (Frame.refl (fun b => b = bl) w).setCell (p := ⟨bl, 18, none⟩) (.inl rfl) _; have r := h.rest hF; have hb : Blk (w.setCell ⟨bl, 18, none⟩ (.bool v)) bl (.cells (loB { l with free := v } m) 110) := h.box.set 18 (.bool v); exact ⟨Lr.lo ⟨r.e0, r.e1, r.wire, r.tal, r.tz, r.txt⟩ hb h.lo, Ls.box hF fun _ h => h⟩
theorem Lo.setWire (h : Lo w B bl l m) {W' : Option Addr} {c' : Nat} {wire' : List Tp} (hF : Frame (fun b => (Value.slice m.W l.wire.length m.cw).ownBlock = some b) w w6) (ho : w6.ownsRow B 116 8 (.slice W' wire'.length c') wire'.length (tps wire'))
  (hl : ∀ g, (Value.slice W' wire'.length c').ownBlock = some g → (Value.slice m.W l.wire.length m.cw).ownBlock = some g ∨ w.heap.size ≤ g) :
  Lo (w6.setCell ⟨bl, 14, none⟩ (.slice W' wire'.length c')) B bl { l with wire := wire' } { m with W := W', cw := c' } ∧
   Ls bl l m w { l with wire := wire' } { m with W := W', cw := c' } (w6.setCell ⟨bl, 14, none⟩ (.slice W' wire'.length c')) := by
 have hs := hF.size; have h7 : ∀ b cur, Blk w b (.cells cur 71) → ¬ (Value.slice m.W l.wire.length m.cw).ownBlock = some b := fun b cur hb => own_ne h.wire hb (by decide); have h8 : ∀ b cur, Blk w b (.cells cur 73) → ¬ (Value.slice m.W l.wire.length m.cw).ownBlock = some b := fun b cur hb => own_ne h.wire hb (by decide); have hbox := h.box.frame hF (own_ne h.wire h.box (by decide)); have h6 : Lo w6 B bl { l with wire := wire' } { m with W := W', cw := c' } → True := fun _ => trivial; have hF6 : Frame (fun b => b = bl) w6 (w6.setCell ⟨bl, 14, none⟩ (.slice W' wire'.length c')) := (Frame.refl (fun b => b = bl) w6).setCell (p := ⟨bl, 14, none⟩) (.inl rfl) _; have f7 : ∀ b cur, Blk w6 b (.cells cur 71) → ¬ b = bl := fun b cur hb e => blk_ne hb hbox (by decide) e; have f8 : ∀ b cur, Blk w6 b (.cells cur 73) → ¬ b = bl := fun b cur hb e => blk_ne hb hbox (by decide) e; have ht6 := own_frame h.tal hF (own_own h.tal h.wire (by decide)); have hx6 := h.txt.frame hF (fun x hx => own_own (h.txt.own x hx) h.wire (by decide)); refine ⟨⟨hbox.set 14 _, (h.e0.frame hF h7 h8).frame hF6 f7 f8, (h.e1.frame hF h7 h8).frame hF6 f7 f8, own_frame ho hF6 (fun g hg e => own_ne ho hbox (by decide) (by rw [hg, e])), own_frame ht6 hF6 (fun g hg e => own_ne ht6 hbox (by decide) (by rw [hg, e])), h.tz,
  hx6.frame hF6 (fun x hx g hg e => own_ne (hx6.own x hx) hbox (by decide) (by rw [hg, e])), h.lo⟩, ?_, ?_⟩
 ·exact (hF.mono fun b _ e => .inr (.inl e)).trans hF6 (fun b _ e => .inl e)
 ·intro b hb; rcases hb with hb | hb | hb | hb
  ·exact .inl (.inl hb)
  ·rcases hl b hb with h1 | h1
   ·exact .inl (.inr (.inl h1))
   ·exact .inr h1
  ·exact .inl (.inr (.inr (.inl hb)))
  ·exact .inl (.inr (.inr (.inr hb)))
theorem Lo.addTale (h : Lo w B bl l m) {T' : Option Addr} {c' : Nat} {v : Ta} (hv : v.sent = [] ∧ v.lost = [] ∧ v.taken = []) (hF : Frame (fun b => (Value.slice m.T m.zs.length m.ct).ownBlock = some b) w w6)
  (ho : w6.ownsRow B 120 6 (.slice T' (m.zs.length + 1) c') (m.zs.length + 1) (tzs m.zs ++ tzC ⟨v, none, 0, none, 0, none, 0⟩))
  (hl : ∀ g, (Value.slice T' (m.zs.length + 1) c').ownBlock = some g → (Value.slice m.T m.zs.length m.ct).ownBlock = some g ∨ w.heap.size ≤ g) :
  Lo (w6.setCell ⟨bl, 15, none⟩ (.slice T' (m.zs.length + 1) c')) B bl { l with tales := l.tales ++ [v] } { m with T := T', ct := c', zs := m.zs ++ [⟨v, none, 0, none, 0, none, 0⟩] } ∧
   Ls bl l m w { l with tales := l.tales ++ [v] } { m with T := T', ct := c', zs := m.zs ++ [⟨v, none, 0, none, 0, none, 0⟩] } (w6.setCell ⟨bl, 15, none⟩ (.slice T' (m.zs.length + 1) c')) := by
 obtain ⟨v1, v2, v3⟩ := hv; have hs := hF.size; have h7 : ∀ b cur, Blk w b (.cells cur 71) → ¬ (Value.slice m.T m.zs.length m.ct).ownBlock = some b := fun b cur hb => own_ne h.tal hb (by decide); have h8 : ∀ b cur, Blk w b (.cells cur 73) → ¬ (Value.slice m.T m.zs.length m.ct).ownBlock = some b := fun b cur hb => own_ne h.tal hb (by decide); have hbox := h.box.frame hF (own_ne h.tal h.box (by decide)); have hF6 : Frame (fun b => b = bl) w6 (w6.setCell ⟨bl, 15, none⟩ (.slice T' (m.zs.length + 1) c')) := (Frame.refl (fun b => b = bl) w6).setCell (p := ⟨bl, 15, none⟩) (.inl rfl) _; have f7 : ∀ b cur, Blk w6 b (.cells cur 71) → ¬ b = bl := fun b cur hb e => blk_ne hb hbox (by decide) e; have f8 : ∀ b cur, Blk w6 b (.cells cur 73) → ¬ b = bl := fun b cur hb e => blk_ne hb hbox (by decide) e; have ht6 := own_frame h.wire hF (own_own h.wire h.tal (by decide)); have hx6 := h.txt.frame hF (fun x hx => own_own (h.txt.own x hx) h.tal (by decide)); have hzl : (m.zs ++ [(⟨v, none, 0, none, 0, none, 0⟩ : Tz)]).length = m.zs.length + 1 := by simp
 have hzc : tzs (m.zs ++ [(⟨v, none, 0, none, 0, none, 0⟩ : Tz)]) = tzs m.zs ++ tzC ⟨v, none, 0, none, 0, none, 0⟩ := tzs_snoc _ _; have htx : txs (m.zs ++ [(⟨v, none, 0, none, 0, none, 0⟩ : Tz)]) = txs m.zs ++ tx ⟨v, none, 0, none, 0, none, 0⟩ := by simp [txs]
 have hnl : ∀ y ∈ tx ⟨v, none, 0, none, 0, none, 0⟩, y = ((.slice none 0 0, []) : Value × List ByteArray) := by
  intro y hy; simp only [tx, v1, v2, v3, List.length_nil, List.mem_cons, List.not_mem_nil, or_false, or_self] at hy; exact hy
 have hb := hbox.set 15 (.slice T' (m.zs.length + 1) c'); refine ⟨⟨?_, (h.e0.frame hF h7 h8).frame hF6 f7 f8, (h.e1.frame hF h7 h8).frame hF6 f7 f8, own_frame ht6 hF6 (fun g hg e => own_ne ht6 hbox (by decide) (by rw [hg, e])), ?_, ?_, ?_, h.lo⟩, ?_, ?_⟩
 ·unfold loB at hb ⊢; simp only [hzl]; exact hb
 ·simp only [hzl, hzc]; exact own_frame ho hF6 (fun g hg e => own_ne ho hbox (by decide) (by rw [hg, e]))
 ·simp [h.tz]
 ·simp only [htx]; exact (hx6.frame hF6 (fun x hx g hg e => own_ne (hx6.own x hx) hbox (by decide) (by rw [hg, e]))).app hnl
 ·exact (hF.mono fun b _ e => .inr (.inr (.inl e))).trans hF6 (fun b _ e => .inl e)
 ·intro b hb; rcases hb with hb | hb | hb | ⟨x, hx, hb⟩
  ·exact .inl (.inl hb)
  ·exact .inl (.inr (.inl hb))
  ·simp only [hzl] at hb; rcases hl b hb with h1 | h1
   ·exact .inl (.inr (.inr (.inl h1)))
   ·exact .inr h1
  ·simp only [htx, List.mem_append] at hx; rcases hx with hx | hx
   ·exact .inl (.inr (.inr (.inr ⟨x, hx, hb⟩)))
   ·rw [hnl x hx] at hb; cases hb
theorem tx_len : ∀ z, (tx z).length = 3 := fun _ => rfl
theorem Lo.setText (h : Lo w B bl l m) {k j g : Nat} {z z' : Tz} {x : Value × List ByteArray} {v' : Value} {t' : List ByteArray} (hk : m.zs[k]? = some z) (hj : j < 3) (hT : m.T = some ⟨g, 0, none⟩) (hx : (tx z)[j]? = some x) (h1 : tx z' = (tx z).set j (v', t')) (h2 : tzC z' = (tzC z).set (3 + j) v')
  (hF : Frame (fun b => x.1.ownBlock = some b) w w6) (ho : w6.ownsRow B 9 1 v' t'.length (strs t')) (hl : ∀ g, v'.ownBlock = some g → x.1.ownBlock = some g ∨ w.heap.size ≤ g) :
  Lo (w6.setCell ⟨g, k * 6 + (3 + j), none⟩ v') B bl { l with tales := l.tales.set k z'.v } { m with zs := m.zs.set k z' } ∧
   Ls bl l m w { l with tales := l.tales.set k z'.v } { m with zs := m.zs.set k z' } (w6.setCell ⟨g, k * 6 + (3 + j), none⟩ v') := by
 have hs := hF.size; have hkl := (List.getElem?_eq_some_iff.1 hk).1; have hxi : (txs m.zs)[k * 3 + j]? = some x := by
  unfold txs; rw [flatg_get tx_len m.zs k j hj, hk]; exact hx
 have hxm := List.mem_of_getElem? hxi; have hxo := h.txt.own x hxm; have h7 : ∀ b cur, Blk w b (.cells cur 71) → ¬ x.1.ownBlock = some b := fun b cur hb => own_ne hxo hb (by decide); have h8 : ∀ b cur, Blk w b (.cells cur 73) → ¬ x.1.ownBlock = some b := fun b cur hb => own_ne hxo hb (by decide); have hbox := h.box.frame hF (own_ne hxo h.box (by decide)); have hw6 := own_frame h.wire hF (own_own h.wire hxo (by decide)); have ht6 := own_frame h.tal hF (own_own h.tal hxo (by decide)); have hx6 : Rows w6 B ((txs m.zs).set (k * 3 + j) (v', t')) := h.txt.set hxi hF ho hl; rw [hT] at ht6; obtain ⟨g2, cur, hg2, _, hgb⟩ := own_some ht6 (by omega); have eg : g2 = g := by injection hg2 with hg2; injection hg2 with hg2; exact hg2.symm
 subst eg; have hF6 : Frame (fun b => b = g2) w6 (w6.setCell ⟨g2, k * 6 + (3 + j), none⟩ v') := (Frame.refl (fun b => b = g2) w6).setCell (p := ⟨g2, k * 6 + (3 + j), none⟩) (.inl rfl) _; have f7 : ∀ b cur, Blk w6 b (.cells cur 71) → ¬ b = g2 := fun b cur hb e => blk_ne hb hgb (by decide) e; have f8 : ∀ b cur, Blk w6 b (.cells cur 73) → ¬ b = g2 := fun b cur hb e => blk_ne hb hgb (by decide) e; have hzs : tzs (m.zs.set k z') = (tzs m.zs).set (k * 6 + (3 + j)) v' := (flatg_set tzC_len m.zs k (3 + j) z z' v' (by omega) hk h2).symm; have htxs : txs (m.zs.set k z') = (txs m.zs).set (k * 3 + j) (v', t') := (flatg_set tx_len m.zs k j z z' (v', t') hj hk h1).symm; have hlen : (m.zs.set k z').length = m.zs.length := List.length_set ..; refine ⟨⟨?_, (h.e0.frame hF h7 h8).frame hF6 f7 f8, (h.e1.frame hF h7 h8).frame hF6 f7 f8, own_frame hw6 hF6 (fun g hg e => own_ne hw6 hgb (by decide) (by rw [hg, e])), ?_, ?_, ?_, h.lo⟩, ?_, ?_⟩
 ·have hb := hbox.frame hF6 (fun e => blk_ne hbox hgb (by decide) e); unfold loB at hb ⊢; simp only [hlen]; exact hb
 ·simp only [hzs, hlen, hT]; exact own_set ht6 (by rw [tzs_len]; omega) v'
 ·rw [← h.tz]; simp [List.map_set]
 ·simp only [htxs]; exact hx6.frame hF6 (fun y hy g hg e => own_ne (hx6.own y hy) hgb (by decide) (by rw [hg, e]))
 ·exact (hF.mono fun b _ e => .inr (.inr (.inr ⟨x, hxm, e⟩))).trans hF6 (fun b _ e => .inr (.inr (.inl (by rw [hT, e]; rfl))))
 ·intro b hb; rcases hb with hb | hb | hb | ⟨y, hy, hb⟩
  ·exact .inl (.inl hb)
  ·exact .inl (.inr (.inl hb))
  ·simp only [hlen] at hb; exact .inl (.inr (.inr (.inl hb)))
  ·simp only [htxs] at hy; rcases List.mem_or_eq_of_mem_set hy with hy | hy
   ·exact .inl (.inr (.inr (.inr ⟨y, hy, hb⟩)))
   ·rw [hy] at hb; rcases hl b hb with e1 | e1
    ·exact .inl (.inr (.inr (.inr ⟨x, hxm, e1⟩)))
    ·exact .inr e1
end
theorem setAt_eq {α : Type} {f : α → α} : ∀ {l : List α} {k : Nat} {x : α}, l[k]? = some x → setAt f k l = l.set k (f x)
 | [], k, x, h => by simp at h
 | y :: l, 0, x, h => by
  have e : y = x := by simpa using h
  subst e; rfl
 | y :: l, k + 1, x, h => by
  rw [setAt, List.set_cons_succ, setAt_eq (by simpa using h)]
end Go.Proofs.Ytejabnoidhlfaaa
