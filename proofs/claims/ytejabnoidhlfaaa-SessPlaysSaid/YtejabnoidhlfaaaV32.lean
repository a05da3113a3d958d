/- Contracts and lemmas that the claim uses. -/
import Derived.Test.YtejabnoidhlfaaaV31
set_option maxRecDepth 100000
set_option maxHeartbeats 16000000
namespace Go.Proofs.Ytejabnoidhlfaaa
open Go.RowKit Go.Maps
def lvB (l : Lp) (m : Lm) : Array Value := #[.int .i64 l.e0.life, .int .i64 l.e0.peer, .int .i64 l.e0.phase, .int .i64 l.e0.base, .slice m.A0 l.e0.out.length m.c0, .int .i64 l.e0.want, .slice m.D0 l.e0.inn.length m.d0,
 .int .i64 l.e1.life, .int .i64 l.e1.peer, .int .i64 l.e1.phase, .int .i64 l.e1.base, .slice m.A1 l.e1.out.length m.c1, .int .i64 l.e1.want, .slice m.D1 l.e1.inn.length m.d1]
def lvV (eb : Nat) (l : Lp) (m : Lm) : Value := .agg #[.slice (some ⟨eb, 0, none⟩) 2 2, .slice m.W l.wire.length m.cw, .slice m.T m.zs.length m.ct]
def lvX (eb : Nat) (l : Lp) (m : Lm) : Array Value := #[.slice (some ⟨eb, 0, none⟩) 2 2, .slice m.W l.wire.length m.cw, .slice m.T m.zs.length m.ct]
structure Lv (w : World) (B bl : Nat) (l : Lp) (m : Lm) : Prop where
 box : Blk w bl (.cells (lvB l m) 26)
 e0 : EnT w l.e0 m.A0 m.c0 m.D0
 e1 : EnT w l.e1 m.A1 m.c1 m.D1
 wire : w.ownsRow B 116 8 (.slice m.W l.wire.length m.cw) l.wire.length (tps l.wire)
 tal : w.ownsRow B 120 6 (.slice m.T m.zs.length m.ct) m.zs.length (tzs m.zs)
 tz : m.zs.map Tz.v = l.tales
 txt : Rows w B (txs m.zs)
 lo : B ≤ bl
 dn : (m.D0 = none → m.d0 = 0) ∧ (m.D1 = none → m.d1 = 0)
def LV (bl : Nat) (l : Lp) (m : Lm) (b : Nat) : Prop := b = bl ∨ (Value.slice m.W l.wire.length m.cw).ownBlock = some b ∨ (Value.slice m.T m.zs.length m.ct).ownBlock = some b ∨ ∃ x ∈ txs m.zs, x.1.ownBlock = some b
structure Lw (bl : Nat) (l : Lp) (m : Lm) (w : World) (l' : Lp) (m' : Lm) (w' : World) : Prop where
 fr : Frame (LV bl l m) w w'
 new : ∀ b, LV bl l' m' b → LV bl l m b ∨ w.heap.size ≤ b
section
variable {w w' w'' : World} {B bl : Nat} {l l' l'' : Lp} {m m' m'' : Lm} {S : Nat → Prop}
theorem Lw.trans (h : Lw bl l m w l' m' w') (k : Lw bl l' m' w' l'' m'' w'') : Lw bl l m w l'' m'' w'' := by
 have hs := h.fr.size; refine ⟨h.fr.trans k.fr fun b hb hT => ?_, fun b hb => ?_⟩
 ·rcases h.new b hT with h1 | h1
  ·exact h1
  ·omega
 ·rcases k.new b hb with h1 | h1
  ·exact h.new b h1
  ·exact .inr (by omega)
theorem Lv.lb (h : Lv w B bl l m) {b : Nat} (hb : LV bl l m b) : B ≤ b ∧ b < w.heap.size := by
 rcases hb with rfl | hb | hb | ⟨x, hx, hb⟩
 ·exact ⟨h.lo, h.box.lt⟩
 ·exact h.wire.lt b hb
 ·exact h.tal.lt b hb
 ·exact (h.txt.own x hx).lt b hb
theorem Lv.ne (h : Lv w B bl l m) {b : Nat} {cs : Array Value} {t : TypeId} (hb : Blk w b (.cells cs t)) (h1 : t ≠ 26) (h2 : 116 ≠ t) (h3 : 120 ≠ t) (h4 : 9 ≠ t) : ¬ LV bl l m b := by
 intro e; rcases e with e | e | e | ⟨x, hx, e⟩
 ·exact blk_ne hb h.box h1 e
 ·exact own_ne h.wire hb h2 e
 ·exact own_ne h.tal hb h3 e
 ·exact own_ne (h.txt.own x hx) hb h4 e
theorem Lw.below (k : Lw bl l m w l' m' w') (h : Lv w B bl l m) : Below B w w' := k.fr.below (fun b hb => (h.lb hb).1) (by have := h.lo; have := h.box.lt; omega)
theorem Lv.frame (h : Lv w B bl l m) (hF : Frame S w w') (hS : ∀ b, LV bl l m b → ¬ S b) (h1 : ∀ b cur, Blk w b (.cells cur 71) → ¬ S b) (h2 : ∀ b cur, Blk w b (.cells cur 73) → ¬ S b) : Lv w' B bl l m :=
 ⟨h.box.frame hF (hS _ (.inl rfl)), h.e0.frame hF h1 h2, h.e1.frame hF h1 h2, own_frame h.wire hF (fun g hg => hS g (.inr (.inl hg))), own_frame h.tal hF (fun g hg => hS g (.inr (.inr (.inl hg)))), h.tz,
  h.txt.frame hF (fun x hx g hg => hS g (.inr (.inr (.inr ⟨x, hx, hg⟩)))), h.lo, h.dn⟩
theorem Lv.below (h : Lv w B bl l m) (hB : Below w.heap.size w w') : Lv w' B bl l m := h.frame (S := fun _ => False) (Frame.of_all hB) (fun _ _ h => h) (fun _ _ _ h => h) (fun _ _ _ h => h)
theorem Lv.drew (h : Lv w B bl l m) : Lv w.drew B bl l m := h.below (Below.refl _ w).drew
theorem Lw.of_below (hB : Below w.heap.size w w') : Lw bl l m w l m w' := ⟨Frame.of_all hB, fun _ h => .inl h⟩
theorem EnT.lw {e : En} {A : Option Addr} {c : Nat} {D : Option Addr} (h : EnT w e A c D) (hl : Lv w B bl l m) (k : Lw bl l m w l' m' w') : EnT w' e A c D :=
 h.frame k.fr (fun _ _ hb => hl.ne hb (by decide) (by decide) (by decide) (by decide)) (fun _ _ hb => hl.ne hb (by decide) (by decide) (by decide) (by decide))
end
structure Lu (w : World) (B : Nat) (l : Lp) (m : Lm) : Prop where
 e0 : EnT w l.e0 m.A0 m.c0 m.D0
 e1 : EnT w l.e1 m.A1 m.c1 m.D1
 wire : w.ownsRow B 116 8 (.slice m.W l.wire.length m.cw) l.wire.length (tps l.wire)
 tal : w.ownsRow B 120 6 (.slice m.T m.zs.length m.ct) m.zs.length (tzs m.zs)
 tz : m.zs.map Tz.v = l.tales
 txt : Rows w B (txs m.zs)
section
variable {w w' w6 : World} {B bl : Nat} {l l' : Lp} {m m' : Lm} {S : Nat → Prop}
theorem Lu.lo (r : Lu w B l m) (hb : Blk w bl (.cells (lvB l m) 26)) (hB : B ≤ bl) (hd : (m.D0 = none → m.d0 = 0) ∧ (m.D1 = none → m.d1 = 0)) : Lv w B bl l m := ⟨hb, r.e0, r.e1, r.wire, r.tal, r.tz, r.txt, hB, hd⟩
theorem Lv.rest (h : Lv w B bl l m) (hF : Frame (fun b => b = bl) w w') : Lu w' B l m := by
 have h7 : ∀ b cur, Blk w b (.cells cur 71) → ¬ b = bl := fun b cur hb e => blk_ne hb h.box (by decide) e; have h8 : ∀ b cur, Blk w b (.cells cur 73) → ¬ b = bl := fun b cur hb e => blk_ne hb h.box (by decide) e; exact ⟨h.e0.frame hF h7 h8, h.e1.frame hF h7 h8, own_frame h.wire hF (fun g hg e => own_ne h.wire h.box (by decide) (by rw [hg, e])), own_frame h.tal hF (fun g hg e => own_ne h.tal h.box (by decide) (by rw [hg, e])), h.tz,
  h.txt.frame hF (fun x hx g hg e => own_ne (h.txt.own x hx) h.box (by decide) (by rw [hg, e]))⟩
theorem Lw.box (hF : Frame (fun b => b = bl) w w') (hLB : ∀ b, LV bl l' m' b → LV bl l m b) : Lw bl l m w l' m' w' := ⟨hF.mono fun _ _ e => .inl e, fun b hb => .inl (hLB b hb)⟩
theorem setEnV_blk0 {e : En} {A : Option Addr} {c : Nat} {D : Option Addr} {d : Nat} (h : Blk w bl (.cells (lvB l m) 26)) : Blk (setEnO w bl 0 e A c D d) bl (.cells (lvB (l.setEnd 0 e) (m.setE 0 A c D d)) 26) := by
 unfold lvB at h; have q := ((((((h.set 0 (.int .i64 e.life)).set 1 (.int .i64 e.peer)).set 2 (.int .i64 e.phase)).set 3 (.int .i64 e.base)).set 4 (.slice A e.out.length c)).set 5 (.int .i64 e.want)).set 6 (.slice D e.inn.length d); simp only [List.setIfInBounds_toArray, List.set_cons_succ, List.set_cons_zero] at q; exact q
theorem setEnV_blk1 {e : En} {A : Option Addr} {c : Nat} {D : Option Addr} {d : Nat} (h : Blk w bl (.cells (lvB l m) 26)) : Blk (setEnO w bl 7 e A c D d) bl (.cells (lvB (l.setEnd 1 e) (m.setE 1 A c D d)) 26) := by
 unfold lvB at h; have q := ((((((h.set 7 (.int .i64 e.life)).set 8 (.int .i64 e.peer)).set 9 (.int .i64 e.phase)).set 10 (.int .i64 e.base)).set 11 (.slice A e.out.length c)).set 12 (.int .i64 e.want)).set 13 (.slice D e.inn.length d); simp only [List.setIfInBounds_toArray, List.set_cons_succ, List.set_cons_zero] at q; exact q
theorem Lv.setEnd (h : Lv w B bl l m) {i : Int} (hi : i = 0 ∨ i = 1) {e : En} {A : Option Addr} {c : Nat} {D : Option Addr} (d : Nat) (he : EnT w e A c D) (hdn : D = none → d = 0) :
  Lv (setEnO w bl (7 * i.toNat) e A c D d) B bl (l.setEnd i e) (m.setE i A c D d) ∧ Lw bl l m w (l.setEnd i e) (m.setE i A c D d) (setEnO w bl (7 * i.toNat) e A c D d) := by
 have hF : Frame (fun b => b = bl) w (setEnO w bl (7 * i.toNat) e A c D d) := setEnO_frame (Frame.refl (fun b => b = bl) w) (.inl rfl); have r := h.rest hF; have he' : EnT (setEnO w bl (7 * i.toNat) e A c D d) e A c D := he.frame hF (fun b cur hb e => blk_ne hb h.box (by decide) e) (fun b cur hb e => blk_ne hb h.box (by decide) e); rcases hi with rfl | rfl
 ·have hb : Blk (setEnO w bl 0 e A c D d) bl (.cells (lvB (l.setEnd 0 e) (m.setE 0 A c D d)) 26) := setEnV_blk0 h.box; exact ⟨Lu.lo ⟨he', r.e1, r.wire, r.tal, r.tz, r.txt⟩ hb h.lo ⟨hdn, h.dn.2⟩, Lw.box hF fun _ h => h⟩
 ·have hb : Blk (setEnO w bl 7 e A c D d) bl (.cells (lvB (l.setEnd 1 e) (m.setE 1 A c D d)) 26) := setEnV_blk1 h.box; exact ⟨Lu.lo ⟨r.e0, he', r.wire, r.tal, r.tz, r.txt⟩ hb h.lo ⟨h.dn.1, hdn⟩, Lw.box hF fun _ h => h⟩
theorem Lv.setWire (h : Lv w B bl l m) {W' : Option Addr} {c' : Nat} {wire' : List Tp} (hF : Frame (fun b => (Value.slice m.W l.wire.length m.cw).ownBlock = some b) w w6) (ho : w6.ownsRow B 116 8 (.slice W' wire'.length c') wire'.length (tps wire'))
  (hl : ∀ g, (Value.slice W' wire'.length c').ownBlock = some g → (Value.slice m.W l.wire.length m.cw).ownBlock = some g ∨ w.heap.size ≤ g) :
  Lv w6 B bl { l with wire := wire' } { m with W := W', cw := c' } ∧ Lw bl l m w { l with wire := wire' } { m with W := W', cw := c' } w6 := by
 have h7 : ∀ b cur, Blk w b (.cells cur 71) → ¬ (Value.slice m.W l.wire.length m.cw).ownBlock = some b := fun b cur hb => own_ne h.wire hb (by decide); have h8 : ∀ b cur, Blk w b (.cells cur 73) → ¬ (Value.slice m.W l.wire.length m.cw).ownBlock = some b := fun b cur hb => own_ne h.wire hb (by decide); refine ⟨⟨h.box.frame hF (own_ne h.wire h.box (by decide)), h.e0.frame hF h7 h8, h.e1.frame hF h7 h8, ho, own_frame h.tal hF (own_own h.tal h.wire (by decide)), h.tz, h.txt.frame hF (fun x hx => own_own (h.txt.own x hx) h.wire (by decide)), h.lo, h.dn⟩, hF.mono fun b _ e => .inr (.inl e), ?_⟩; intro b hb; rcases hb with hb | hb | hb | hb
 ·exact .inl (.inl hb)
 ·rcases hl b hb with h1 | h1
  ·exact .inl (.inr (.inl h1))
  ·exact .inr h1
 ·exact .inl (.inr (.inr (.inl hb)))
 ·exact .inl (.inr (.inr (.inr hb)))
theorem Lv.addTale (h : Lv w B bl l m) {T' : Option Addr} {c' : Nat} {v : Ta} (hv : v.sent = [] ∧ v.lost = [] ∧ v.taken = []) (hF : Frame (fun b => (Value.slice m.T m.zs.length m.ct).ownBlock = some b) w w6)
  (ho : w6.ownsRow B 120 6 (.slice T' (m.zs.length + 1) c') (m.zs.length + 1) (tzs m.zs ++ tzC ⟨v, none, 0, none, 0, none, 0⟩))
  (hl : ∀ g, (Value.slice T' (m.zs.length + 1) c').ownBlock = some g → (Value.slice m.T m.zs.length m.ct).ownBlock = some g ∨ w.heap.size ≤ g) :
  Lv w6 B bl { l with tales := l.tales ++ [v] } { m with T := T', ct := c', zs := m.zs ++ [⟨v, none, 0, none, 0, none, 0⟩] } ∧ Lw bl l m w { l with tales := l.tales ++ [v] } { m with T := T', ct := c', zs := m.zs ++ [⟨v, none, 0, none, 0, none, 0⟩] } w6 := by
 obtain ⟨v1, v2, v3⟩ := hv; have h7 : ∀ b cur, Blk w b (.cells cur 71) → ¬ (Value.slice m.T m.zs.length m.ct).ownBlock = some b := fun b cur hb => own_ne h.tal hb (by decide); have h8 : ∀ b cur, Blk w b (.cells cur 73) → ¬ (Value.slice m.T m.zs.length m.ct).ownBlock = some b := fun b cur hb => own_ne h.tal hb (by decide); have hx6 := h.txt.frame hF (fun x hx => own_own (h.txt.own x hx) h.tal (by decide)); have hzl : (m.zs ++ [(⟨v, none, 0, none, 0, none, 0⟩ : Tz)]).length = m.zs.length + 1 := by simp
 have hzc : tzs (m.zs ++ [(⟨v, none, 0, none, 0, none, 0⟩ : Tz)]) = tzs m.zs ++ tzC ⟨v, none, 0, none, 0, none, 0⟩ := tzs_snoc _ _; have htx : txs (m.zs ++ [(⟨v, none, 0, none, 0, none, 0⟩ : Tz)]) = txs m.zs ++ tx ⟨v, none, 0, none, 0, none, 0⟩ := by simp [txs]
 have hnl : ∀ y ∈ tx ⟨v, none, 0, none, 0, none, 0⟩, y = ((.slice none 0 0, []) : Value × List ByteArray) := by
  intro y hy; simp only [tx, v1, v2, v3, List.length_nil, List.mem_cons, List.not_mem_nil, or_false, or_self] at hy; exact hy
 refine ⟨⟨h.box.frame hF (own_ne h.tal h.box (by decide)), h.e0.frame hF h7 h8, h.e1.frame hF h7 h8, own_frame h.wire hF (own_own h.wire h.tal (by decide)), ?_, ?_, ?_, h.lo, h.dn⟩, hF.mono fun b _ e => .inr (.inr (.inl e)), ?_⟩
 ·simp only [hzl, hzc]; exact ho
 ·simp [h.tz]
 ·simp only [htx]; exact hx6.app hnl
 ·intro b hb; rcases hb with hb | hb | hb | ⟨x, hx, hb⟩
  ·exact .inl (.inl hb)
  ·exact .inl (.inr (.inl hb))
  ·simp only [hzl] at hb; rcases hl b hb with h1 | h1
   ·exact .inl (.inr (.inr (.inl h1)))
   ·exact .inr h1
  ·simp only [htx, List.mem_append] at hx; rcases hx with hx | hx
   ·exact .inl (.inr (.inr (.inr ⟨x, hx, hb⟩)))
   ·rw [hnl x hx] at hb; cases hb
theorem Lv.setText (h : Lv w B bl l m) {k j g : Nat} {z z' : Tz} {x : Value × List ByteArray} {v' : Value} {t' : List ByteArray} (hk : m.zs[k]? = some z) (hj : j < 3) (hT : m.T = some ⟨g, 0, none⟩) (hx : (tx z)[j]? = some x) (h1 : tx z' = (tx z).set j (v', t')) (h2 : tzC z' = (tzC z).set (3 + j) v')
  (hF : Frame (fun b => x.1.ownBlock = some b) w w6) (ho : w6.ownsRow B 9 1 v' t'.length (strs t')) (hl : ∀ g, v'.ownBlock = some g → x.1.ownBlock = some g ∨ w.heap.size ≤ g) :
  Lv (w6.setCell ⟨g, k * 6 + (3 + j), none⟩ v') B bl { l with tales := l.tales.set k z'.v } { m with zs := m.zs.set k z' } ∧
   Lw bl l m w { l with tales := l.tales.set k z'.v } { m with zs := m.zs.set k z' } (w6.setCell ⟨g, k * 6 + (3 + j), none⟩ v') := by
 have hs := hF.size; have hkl := (List.getElem?_eq_some_iff.1 hk).1; have hxi : (txs m.zs)[k * 3 + j]? = some x := by
  unfold txs; rw [flatg_get tx_len m.zs k j hj, hk]; exact hx
 have hxm := List.mem_of_getElem? hxi; have hxo := h.txt.own x hxm; have h7 : ∀ b cur, Blk w b (.cells cur 71) → ¬ x.1.ownBlock = some b := fun b cur hb => own_ne hxo hb (by decide); have h8 : ∀ b cur, Blk w b (.cells cur 73) → ¬ x.1.ownBlock = some b := fun b cur hb => own_ne hxo hb (by decide); have hbox := h.box.frame hF (own_ne hxo h.box (by decide)); have hw6 := own_frame h.wire hF (own_own h.wire hxo (by decide)); have ht6 := own_frame h.tal hF (own_own h.tal hxo (by decide)); have hx6 : Rows w6 B ((txs m.zs).set (k * 3 + j) (v', t')) := h.txt.set hxi hF ho hl; rw [hT] at ht6; obtain ⟨g2, cur, hg2, _, hgb⟩ := own_some ht6 (by omega); have eg : g2 = g := by injection hg2 with hg2; injection hg2 with hg2; exact hg2.symm
 subst eg; have hF6 : Frame (fun b => b = g2) w6 (w6.setCell ⟨g2, k * 6 + (3 + j), none⟩ v') := (Frame.refl (fun b => b = g2) w6).setCell (p := ⟨g2, k * 6 + (3 + j), none⟩) (.inl rfl) _; have f7 : ∀ b cur, Blk w6 b (.cells cur 71) → ¬ b = g2 := fun b cur hb e => blk_ne hb hgb (by decide) e; have f8 : ∀ b cur, Blk w6 b (.cells cur 73) → ¬ b = g2 := fun b cur hb e => blk_ne hb hgb (by decide) e; have hzs : tzs (m.zs.set k z') = (tzs m.zs).set (k * 6 + (3 + j)) v' := (flatg_set tzC_len m.zs k (3 + j) z z' v' (by omega) hk h2).symm; have htxs : txs (m.zs.set k z') = (txs m.zs).set (k * 3 + j) (v', t') := (flatg_set tx_len m.zs k j z z' (v', t') hj hk h1).symm; have hlen : (m.zs.set k z').length = m.zs.length := List.length_set ..; refine ⟨⟨?_, (h.e0.frame hF h7 h8).frame hF6 f7 f8, (h.e1.frame hF h7 h8).frame hF6 f7 f8, own_frame hw6 hF6 (fun g hg e => own_ne hw6 hgb (by decide) (by rw [hg, e])), ?_, ?_, ?_, h.lo, h.dn⟩, ?_, ?_⟩
 ·have hb := hbox.frame hF6 (fun e => blk_ne hbox hgb (by decide) e); unfold lvB at hb ⊢; exact hb
 ·simp only [hzs, hlen, hT]; exact own_set ht6 (by rw [tzs_len]; omega) v'
 ·rw [← h.tz]; simp [List.map_set]
 ·simp only [htxs]; exact hx6.frame hF6 (fun y hy g hg e => own_ne (hx6.own y hy) hgb (by decide) (by rw [hg, e]))
 ·exact (hF.mono fun b _ e => .inr (.inr (.inr ⟨x, hxm, e⟩))).trans hF6 (fun b _ e => .inr (.inr (.inl (by rw [hT, e]; rfl))))
 ·intro b hb; rcases hb with hb | hb | hb | ⟨y, hy, hb⟩
  ·exact .inl (.inl hb)
  ·exact .inl (.inr (.inl hb))
  ·simp only [hlen] at hb; exact .inl (.inr (.inr (.inl hb)))
  ·simp only [htxs] at hy; rcases List.mem_or_eq_of_mem_set hy with hy | hy
   ·exact .inl (.inr (.inr (.inr ⟨y, hy, hb⟩)))
   ·rw [hy] at hb; rcases hl b hb with e1 | e1
    ·exact .inl (.inr (.inr (.inr ⟨x, hxm, e1⟩)))
    ·exact .inr e1
end
section
variable {w w' w6 : World} {B bl : Nat} {l l' : Lp} {m m' : Lm} {S : Nat → Prop}
theorem Lv.end_ (h : Lv w B bl l m) {i : Int} (hi : i = 0 ∨ i = 1) : EnT w (l.end_ i) (m.A i) (m.c i) (m.D i) := by
 rcases hi with rfl | rfl
 ·exact h.e0
 ·exact h.e1
theorem Lv.endc (h : Lv w B bl l m) {i : Int} (hi : i = 0 ∨ i = 1) :
  w.cell? ⟨bl, 7 * i.toNat, none⟩ = some (.int .i64 (l.end_ i).life) ∧ w.cell? ⟨bl, 7 * i.toNat + 1, none⟩ = some (.int .i64 (l.end_ i).peer) ∧ w.cell? ⟨bl, 7 * i.toNat + 2, none⟩ = some (.int .i64 (l.end_ i).phase) ∧
  w.cell? ⟨bl, 7 * i.toNat + 3, none⟩ = some (.int .i64 (l.end_ i).base) ∧ w.cell? ⟨bl, 7 * i.toNat + 4, none⟩ = some (.slice (m.A i) (l.end_ i).out.length (m.c i)) ∧ w.cell? ⟨bl, 7 * i.toNat + 5, none⟩ = some (.int .i64 (l.end_ i).want) ∧
  w.cell? ⟨bl, 7 * i.toNat + 6, none⟩ = some (.slice (m.D i) (l.end_ i).inn.length (m.d i)) := by
 rcases hi with rfl | rfl
 ·exact ⟨h.box.cell 0 rfl, h.box.cell 1 rfl, h.box.cell 2 rfl, h.box.cell 3 rfl, h.box.cell 4 rfl, h.box.cell 5 rfl, h.box.cell 6 rfl⟩
 ·exact ⟨h.box.cell 7 rfl, h.box.cell 8 rfl, h.box.cell 9 rfl, h.box.cell 10 rfl, h.box.cell 11 rfl, h.box.cell 12 rfl, h.box.cell 13 rfl⟩
theorem Lv.tale (h : Lv w B bl l m) {k : Nat} {t : Ta} (ht : l.tales[k]? = some t) : ∃ z g, m.zs[k]? = some z ∧ z.v = t ∧ m.T = some ⟨g, 0, none⟩ ∧ k < m.zs.length ∧ g < w.heap.size ∧ (∃ cur, Blk w g (.cells cur 120)) ∧
  w.cell? ⟨g, k * 6 + 0, none⟩ = some (.int .i64 z.v.end_) ∧ w.cell? ⟨g, k * 6 + 1, none⟩ = some (.int .i64 z.v.life) ∧ w.cell? ⟨g, k * 6 + 2, none⟩ = some (.int .i64 z.v.peer) ∧ w.cell? ⟨g, k * 6 + 3, none⟩ = some (.slice z.S z.v.sent.length z.cs) ∧ w.cell? ⟨g, k * 6 + 4, none⟩ = some (.slice z.L z.v.lost.length z.cl) ∧ w.cell? ⟨g, k * 6 + 5, none⟩ = some (.slice z.K z.v.taken.length z.ck) ∧
  (∀ j, w.frozen? ⟨g, j, none⟩ = false) := by
 rw [← h.tz, List.getElem?_map] at ht; cases hz : m.zs[k]? with
 | none => rw [hz] at ht; cases ht
 | some z =>
  rw [hz] at ht; have hk := (List.getElem?_eq_some_iff.1 hz).1; obtain ⟨g, cur, hT, _, hb⟩ := own_some h.tal (by omega); have hcell : ∀ j v, (tzC z)[j]? = some v → j < 6 → w.cell? ⟨g, k * 6 + j, none⟩ = some v := fun j v hv hj => by
   have h1 : (tzs m.zs)[k * 6 + j]? = some v := by
    unfold tzs; rw [flat_get tzC_len m.zs k j hj, hz]; exact hv
   rcases h.tal.2 with ⟨_, h0⟩ | ⟨g2, cap, cur2, hv2, _, hh, _, _, _, h4⟩
   ·omega
   ·injection hv2 with e1 _ _; rw [hT] at e1; injection e1 with e1; injection e1 with e1; subst e1; refine Blk.cell hh (k * 6 + j) ?_; rw [← h4, List.getElem?_take] at h1; split at h1
    ·rw [← Array.getElem?_toList]; exact h1
    ·cases h1
  exact ⟨z, g, rfl, by simpa using ht, hT, hk, hb.lt, ⟨cur, hb⟩, hcell 0 _ rfl (by omega), hcell 1 _ rfl (by omega), hcell 2 _ rfl (by omega), hcell 3 _ rfl (by omega), hcell 4 _ rfl (by omega), hcell 5 _ rfl (by omega), fun j => hb.free j⟩
end
theorem ix55 {b : Nat} {i : Int} (hi : i = 0 ∨ i = 1) (w : World) : (Instr.indexAt 55 (.slice (some ⟨b, 0, none⟩) 2 2) (.int .i64 i)).run Try.prog w = .ok (.pointer (some ⟨b, 7 * i.toNat, none⟩)) w := by
 obtain ⟨q, hq, hqe⟩ : ∃ q, Try.prog.info? 26 = some q ∧ q.size = 7 := by
  have hs := sz26; cases hx : Try.prog.info? 26 with
  | none => rw [hx] at hs; cases hs
  | some i => rw [hx] at hs; exact ⟨i, rfl, by simpa using hs⟩
 rcases hi with rfl | rfl
 ·simp [Instr.indexAt, run_underlying Try.underlying55, asIntOf, sizeOf, typeInfo, hq, Addr.add]
 ·simp [Instr.indexAt, run_underlying Try.underlying55, asIntOf, sizeOf, typeInfo, hq, hqe, Addr.add]
def keyB (e : En) (i : Int) (t : Ta) : Bool := (t.end_ == i) && ((t.life == e.life) && (t.peer == e.peer))
def TaleR (e : En) (i : Int) (ts : List Ta) (z : Int) : Prop := (z = -1 ∧ ∀ t ∈ ts, keyB e i t = false) ∨ ∃ (k : Nat) (t : Ta), z = (k : Int) ∧ ts[k]? = some t ∧ keyB e i t = true ∧ ∀ j u, j < k → ts[j]? = some u → keyB e i u = false
theorem tale86_any (B eb : Nat) (l : Lp) (m : Lm) (i : Int) (hi : i = 0 ∨ i = 1) (w : World) (h : Lv w B eb l m) (hz : m.zs.length ≤ 1000000) : Calls Try.prog 86 #[lvV eb l m, .int .i64 i] w fun r w' => ∃ z, r = .returned (.int .i64 z) ∧ TaleR (l.end_ i) i l.tales z ∧ Below w.heap.size w w' := by
 have HL := Lib.hid h; have HI := Lib.hid hi; have hix := ix55 (b := eb) hi; have htl : l.tales.length = m.zs.length := by rw [← h.tz, List.length_map]
 have HTL := Lib.hid htl; clear h hi htl; unfold lvV; go_enter Try.func86, Try.ntmps86
 obtain ⟨V, hV⟩ : ∃ V, w.alloc (.cells (lvX eb l m) 59) = V := ⟨_, rfl⟩; have HBW : Hid (Below w.heap.size w V) := by rw [← hV]; exact (Below.refl _ w).alloc (Nat.le_refl _) _
 have HKV : Hid (Blk V w.heap.size (.cells (lvX eb l m) 59)) := by rw [← hV]; exact Blk.new _ _
 have HLV := Lib.hid (HL.out.below ((Below.refl _ w).alloc (Nat.le_refl _) (.cells (lvX eb l m) 59))); rw [hV] at HLV; obtain ⟨e0, e1, e2, e3, e4, e5, e6⟩ := HLV.out.endc HI.out; have hel := HLV.out.box.lt; have q9 := HKV.out; have x0 := q9.cell 0 (v := .slice (some ⟨eb, 0, none⟩) 2 2) rfl; have x2 := q9.cell 2 (v := .slice m.T m.zs.length m.ct) rfl; have xl := q9.lt; clear q9; obtain ⟨E, hE⟩ : ∃ E, l.end_ i = E := ⟨_, rfl⟩; rw [hE] at e0 e1 e2 e3 e4 e5 e6 ⊢; unfold lvX at hV; go_upto_region 2 with fail
 obtain ⟨U, hU⟩ : ∃ U, V.alloc (.cells #[.int .i64 E.life, .int .i64 E.peer, .int .i64 E.phase, .int .i64 E.base, .slice (m.A i) E.out.length (m.c i), .int .i64 E.want, .slice (m.D i) E.inn.length (m.d i)] 26) = U := ⟨_, rfl⟩; have hbu : Below V.heap.size V U := by rw [← hU]; exact (Below.refl _ V).alloc (Nat.le_refl _) _
 have HBU : Hid (Below w.heap.size w U) := below_in HBW.out hbu; have HKU := Lib.hid (HKV.out.below hbu HKV.out.lt); have HLU := Lib.hid (HLV.out.below hbu); have HKE : Hid (Blk U V.heap.size (.cells (enB E (m.A i) (m.c i) (m.D i) (m.d i)) 26)) := by rw [← hU]; exact Blk.new _ _
 rw [hU]; clear hU hbu x0 x2 xl e0 e1 e2 e3 e4 e5 e6 hel hV hix; go_wp2_with fail
 go_loopg [6] m.zs.length (fun g iv wr => ∃ k : Nat, k + g = m.zs.length ∧ iv = Value.int .i64 (k : Int) ∧ Below U.heap.size U wr ∧ ∀ j u, j < k → l.tales[j]? = some u → keyB E i u = false)
 case atStart => exact ⟨0, Nat.zero_add _, rfl, Below.refl _ _, fun j u hj => absurd hj (Nat.not_lt_zero _)⟩
 case round =>
  obtain ⟨k, hk, rfl, hB, hno⟩ := hrel; have HK := Lib.hid hk; have HBr := Lib.hid hB; have HNO := Lib.hid hno; have HLr := Lib.hid (HLU.out.below hB); have q9 := HKU.out.below hB HKU.out.lt; have x2 := q9.cell 2 (v := .slice m.T m.zs.length m.ct) rfl; have xl := q9.lt; clear q9; have q9 := HKE.out.below hB HKE.out.lt; have y0 := q9.cell 0 (v := .int .i64 E.life) rfl; have y1 := q9.cell 1 (v := .int .i64 E.peer) rfl; have yl := q9.lt; have HBV : Hid (Below w.heap.size w (wr.alloc (.cells #[] 120)) ∧ Below w.heap.size w wr) := ⟨(HBU.out.trans (hB.mono HBU.out.size)).alloc (Nat.le_trans HBU.out.size hB.size) _, HBU.out.trans (hB.mono HBU.out.size)⟩; clear q9 hk hB hno; by_cases hlt : (k : Int) < (m.zs.length : Int)
  ·obtain ⟨t, ht⟩ : ∃ t, l.tales[k]? = some t := ⟨_, List.getElem?_eq_getElem (by have := HTL.out; omega)⟩; obtain ⟨z, g, hzk, hzv, hT, hkl, hgl, _, c0, c1, c2, c3, c4, c5, _⟩ := HLr.out.tale ht; have hixk : ∀ w', (Instr.indexAt 57 (.slice m.T m.zs.length m.ct) (.int .i64 (k : Int))).run Try.prog w' = .ok (.pointer (some ⟨g, k * 6, none⟩)) w' := by rw [hT]; exact ix57 hkl
   rw [hzv] at c0 c1 c2 c3 c4 c5; rw [Nat.add_zero] at c0; have hw1 : IntKind.i64.wrap ((k : Int) + 1) = (k : Int) + 1 := wrap_ok ⟨by omega, by omega⟩; have HTK := Lib.hid ht; clear hzk hzv hT hkl ht; obtain ⟨b0, q0⟩ : ∃ b, (t.end_ == i) = b := ⟨_, rfl⟩; obtain ⟨b1, q1⟩ : ∃ b, (t.life == E.life) = b := ⟨_, rfl⟩; obtain ⟨b2, q2⟩ : ∃ b, (t.peer == E.peer) = b := ⟨_, rfl⟩; have HKB : Hid (keyB E i t = (b0 && (b1 && b2))) := by show _ = _; unfold keyB; rw [q0, q1, q2]
   cases b0 with
   | false =>
    go_wp2_with fail
    go_roundg (m.zs.length - (k + 1))
    case measure => have := HK.out; omega
    case rel =>
     refine ⟨k + 1, by have := HK.out; omega, rfl, below_in HBr.out ((Below.refl _ wr).alloc (Nat.le_refl _) _), fun j u hj hu => ?_⟩; by_cases e9 : j = k
     ·subst e9; rw [HTK.out] at hu; injection hu with hu; rw [← hu]; exact HKB.out
     ·exact HNO.out j u (by omega) hu
   | true =>
    cases b1 with
    | false =>
     go_wp2_with fail
     go_roundg (m.zs.length - (k + 1))
     case measure => have := HK.out; omega
     case rel =>
      refine ⟨k + 1, by have := HK.out; omega, rfl, below_in HBr.out ((Below.refl _ wr).alloc (Nat.le_refl _) _), fun j u hj hu => ?_⟩; by_cases e9 : j = k
      ·subst e9; rw [HTK.out] at hu; injection hu with hu; rw [← hu]; exact HKB.out
      ·exact HNO.out j u (by omega) hu
    | true =>
     cases b2 with
     | false =>
      go_wp2_with fail
      go_roundg (m.zs.length - (k + 1))
      case measure => have := HK.out; omega
      case rel =>
       refine ⟨k + 1, by have := HK.out; omega, rfl, below_in HBr.out ((Below.refl _ wr).alloc (Nat.le_refl _) _), fun j u hj hu => ?_⟩; by_cases e9 : j = k
       ·subst e9; rw [HTK.out] at hu; injection hu with hu; rw [← hu]; exact HKB.out
       ·exact HNO.out j u (by omega) hu
     | true =>
      go_wp2; go_ret; exact ⟨(k : Int), rfl, .inr ⟨k, t, rfl, HTK.out, HKB.out, HNO.out⟩, HBV.out.2.alloc (Nat.le_trans HBU.out.size HBr.out.size) _⟩
  ·obtain rfl : k = m.zs.length := by have := HK.out; omega
   go_wp2; go_ret; refine ⟨-1, rfl, .inl ⟨rfl, fun t ht => ?_⟩, HBV.out.2⟩; obtain ⟨j, hj⟩ := List.getElem?_of_mem ht; have hjl := (List.getElem?_eq_some_iff.1 hj).1; exact HNO.out j t (by have := HTL.out; omega) hj
end Go.Proofs.Ytejabnoidhlfaaa
