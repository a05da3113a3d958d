/- Contracts and lemmas that the claim uses. -/
import Derived.Test.YtejabnoidhlfaaaV43
set_option maxRecDepth 100000
set_option maxHeartbeats 16000000
namespace Go.Proofs.Ytejabnoidhlfaaa
theorem keyB_iff {e : En} {i : Int} {t : Ta} : keyB e i t = true ↔ t.end_ = i ∧ t.life = e.life ∧ t.peer = e.peer := by
 unfold keyB; simp only [Bool.and_eq_true, beq_iff_eq]
theorem taleIx_at {e : En} {i : Int} {ts : List Ta} (ho : Ord ts) {k : Nat} {t : Ta} (hk : ts[k]? = some t) (hb : keyB e i t = true) : taleIx e i ts = (k : Int) := by
 have h : TaleR e i ts (k : Int) := by
  refine .inr ⟨k, t, rfl, hk, hb, fun j u hj hu => ?_⟩; cases hq : keyB e i u with
  | false => rfl
  | true =>
   obtain ⟨a1, a2, a3⟩ := keyB_iff.1 hb; obtain ⟨b1, b2, b3⟩ := keyB_iff.1 hq; have hkl := (List.getElem?_eq_some_iff.1 hk).1; have hjl : j < ts.length := by omega
   have h1 := List.pairwise_iff_getElem.1 ho j k hjl hkl hj; have e1 : ts[j] = u := (List.getElem?_eq_some_iff.1 hu).2; have e2 : ts[k] = t := (List.getElem?_eq_some_iff.1 hk).2; rw [e1, e2] at h1; have := h1 (by rw [b1, a1]) (by rw [b2, a2]); omega
 exact h.ix.symm
theorem range_take (l : List Ou) (f : Nat) (hf : f ≤ l.length) : (List.range f).map (fun j => (l.getD j ⟨emptyT, false⟩).t) = (l.take f).map (·.t) := by
 apply List.ext_getElem?; intro j; rw [List.getElem?_map, List.getElem?_map, List.getElem?_take]; by_cases hj : j < f
 ·rw [if_pos hj, List.getElem?_range hj, List.getElem?_eq_getElem (by omega : j < l.length)]; simp only [Option.map_some, List.getD_eq_getElem?_getD, List.getElem?_eq_getElem (by omega : j < l.length), Option.getD_some]
 ·rw [if_neg hj, List.getElem?_eq_none (by simp; omega)]; rfl
theorem textsA_from {e : En} (hb : 0 ≤ e.base) (n : Nat) : textsA (fromA e n) = ((e.out.take (flyN e)).drop n).map (·.t) := by
 unfold textsA; have h1 : (fromA e n).filter (fun p => p.kind == 2 && decide (0 ≤ p.num)) = fromA e n := by
  rw [List.filter_eq_self]; intro p hp; unfold fromA at hp; obtain ⟨j, _, rfl⟩ := List.mem_map.1 hp; have h2 : (0 : Int) ≤ e.base + (j : Int) := by omega
  show ((2 : Int) == 2 && decide (0 ≤ e.base + (j : Int))) = true; rw [decide_eq_true h2]; rfl
 rw [h1]; unfold fromA; rw [List.map_map, List.map_drop, List.map_drop, ← range_take e.out (flyN e) (fly_le e).1]; rfl
theorem setAt_id {α : Type} {f : α → α} : ∀ (l : List α) (k : Nat), (∀ x, f x = x) → setAt f k l = l
 | [], k, h => by simp [setAt]
 | x :: l, 0, h => by simp [setAt, h]
 | x :: l, k + 1, h => by simp [setAt, setAt_id l k h]
theorem sends_same {l : Lp} (hn : NowOk l) (ho : Ord l.tales) {i : Int} (hi : i = 0 ∨ i = 1) {t : ByteArray} (hg : goodB (l.end_ i) = true) (hs : (sendA (l.end_ i) t).2.2 = 0) : SameL (becomesA l i (sendA (l.end_ i) t).1) (onTale (l.setEnd i (sendA (l.end_ i) t).1) i (fun v => { v with sent := v.sent ++ textsA (sendA (l.end_ i) t).2.1 })) := by
 obtain ⟨E, hE⟩ : ∃ E, l.end_ i = E := ⟨_, rfl⟩; rw [hE] at hg hs ⊢; have hG := good_iff.1 hg; have h1 := (send_ok hg hs).1; have hP : (sendA E t).2.1 = fromA (sendA E t).1 (flyN E) := by
  unfold sendA at hs ⊢; rw [hg] at hs ⊢; simp only [Bool.true_eq_false, if_false] at hs ⊢; split at hs
  ·simp at hs
  ·rename_i hc; rw [if_neg hc]
 obtain ⟨e, he⟩ : ∃ e, (sendA E t).1 = e := ⟨_, rfl⟩; rw [hP]; rw [he] at h1 ⊢; have hph : e.phase = E.phase := by rw [h1]
 have hpe : e.peer = E.peer := by rw [h1]
 have hli : e.life = E.life := by rw [h1]
 have hba : e.base = E.base := by rw [h1]
 have hend : (l.setEnd i e).end_ i = e := by rw [end_setEnd hi hi, if_pos rfl]
 obtain ⟨n3, n4⟩ := hn i hi; rw [hE] at n3 n4; have htx := textsA_from (e := e) (by rw [hba]; exact hG.base) (flyN E); by_cases hp : e.phase = 3
 ·obtain ⟨k, v, hk, hv, a1, a2, a3, a4⟩ := n4 (by rw [← hph]; exact hp); have hix : taleIx e i l.tales = (k : Int) := taleIx_at ho hv (keyB_iff.2 ⟨a1, by rw [a2, hli], by rw [a3, hpe]⟩); have hs2 : sameS (l.end_ i) e := by rw [hE]; exact ⟨by rw [← hph]; exact hp, hpe.symm, hli.symm⟩
  rw [becomes_same hi hp hs2]; unfold onTale; simp only [hend, tales_setEnd, hix]; rw [if_pos (by omega), Int.toNat_natCast]; have hnow : (l.now i).toNat = k := by rw [hk]; rfl
  have hse : sentA e v = { v with sent := v.sent ++ textsA (fromA e (flyN E)) } := by
   unfold sentA; rw [htx]; have h9 : v.sent.length - e.base.toNat = flyN E := by have := hG.base; rw [hba]; omega
   rw [h9]
  refine ⟨rfl, rfl, rfl, ?_, rfl⟩; show setAt (sentA e) (l.now i).toNat l.tales = _; rw [hnow, setAt_eq hv, setAt_eq hv, hse]
 ·have hf0 : flyN e = 0 := by unfold flyN; rw [if_neg hp]
  have ht0 : textsA (fromA e (flyN E)) = [] := by rw [htx, hf0]; simp
  have h2 : becomesA l i e = (l.setEnd i e).setNow i (-1) := by unfold becomesA; rw [if_pos hp]
  rw [h2, ht0]; have h3 : onTale (l.setEnd i e) i (fun v => { v with sent := v.sent ++ [] }) = l.setEnd i e := by
   unfold onTale; simp only [List.append_nil]; split
   ·rw [setAt_id _ _ (fun x => rfl)]
   ·rfl
  rw [h3]; unfold Lp.setNow; split <;> exact ⟨rfl, rfl, rfl, rfl, rfl⟩
def lostOf (ts : List Ta) (i a b : Int) : List ByteArray := match tale ts i a b with
 | some t => t.lost
 | none => []
def Got (l : Lp) (j a b m : Int) : Prop := (tale l.tales j a b).isSome = true ∧ ((l.end_ j).life = a → (l.end_ j).peer = b → m < ((takenOf l.tales j a b).length : Int) ∨ hasN (l.end_ j).inn m = true)
structure Wc (l : Lp) (i : Int) (p : Pk) : Prop where
 tale : (tale l.tales (1 - i) p.frm p.to).isSome = true
 ack : p.ack ≤ ((takenOf l.tales (1 - i) p.frm p.to).length : Int)
 held : ∀ k : Nat, 1 ≤ k → k ≤ 3 → p.held / 2 ^ (k - 1) % 2 = 1 → Got l (1 - i) p.frm p.to (p.ack + k)
 txt : p.kind = 2 → (sentOf l.tales (1 - i) p.frm p.to)[p.num.toNat]? = some p.t
structure Cur (l : Lp) (i : Int) (e : En) : Prop where
 sent : (sentOf l.tales i e.life e.peer).drop e.base.toNat = (e.out.take (flyN e)).map (·.t)
 taken : ((takenOf l.tales i e.life e.peer).length : Int) = e.want
 lost : lostOf l.tales i e.life e.peer = []
 base : e.base ≤ ((takenOf l.tales (1 - i) e.peer e.life).length : Int)
 held : ∀ (k : Nat) (x : Ou), e.out[k]? = some x → x.h = true → Got l (1 - i) e.peer e.life (e.base + k)
 inn : ∀ x ∈ e.inn, (sentOf l.tales (1 - i) e.peer e.life)[x.n.toNat]? = some x.t
structure Saf (l : Lp) : Prop where
 ok : LineOk l
 now : NowOk l
 ord : Ord l.tales
 ends : ∀ t ∈ l.tales, t.end_ = 0 ∨ t.end_ = 1
 key : ∀ i, (i = 0 ∨ i = 1) → ∀ a b t, tale l.tales i a b = some t → a ≤ (l.end_ i).life ∧ 1 ≤ b ∧ b ≤ (l.end_ (1 - i)).life ∧ (a = (l.end_ i).life → b ≤ (l.end_ i).peer ∧ (b = (l.end_ i).peer → (l.end_ i).phase = 3))
 pre : ∀ i, (i = 0 ∨ i = 1) → ∀ a b, takenOf l.tales i a b <+: sentOf l.tales (1 - i) b a
 cur : ∀ i, (i = 0 ∨ i = 1) → (l.end_ i).phase = 3 → Cur l i (l.end_ i)
 told : ∀ i, (i = 0 ∨ i = 1) → ∀ b t, tale l.tales i (l.end_ i).life b = some t → b ≠ (l.end_ i).peer → t.lost.length ≤ t.sent.length ∧ t.sent.length ≤ t.lost.length + (takenOf l.tales (1 - i) b (l.end_ i).life).length
 wire : ∀ x ∈ l.wire, x.p.kind ≠ 1 → Wc l x.to x.p
theorem other_i {i : Int} (hi : i = 0 ∨ i = 1) : 1 - i = 0 ∨ 1 - i = 1 := by omega
theorem other_ne {i : Int} : 1 - (1 - i) = i := by omega
theorem two_i {i j : Int} (hi : i = 0 ∨ i = 1) (hj : j = 0 ∨ j = 1) : j = i ∨ j = 1 - i := by omega
theorem pre_get {a b : List ByteArray} (h : a <+: b) {k : Nat} {x : ByteArray} (hk : a[k]? = some x) : b[k]? = some x := by
 obtain ⟨c, rfl⟩ := h; rw [List.getElem?_append_left (List.getElem?_eq_some_iff.1 hk).1]; exact hk
theorem sentOf_some {ts : List Ta} {i a b : Int} {t : Ta} (h : tale ts i a b = some t) : sentOf ts i a b = t.sent := by unfold sentOf; rw [h]
theorem takenOf_some {ts : List Ta} {i a b : Int} {t : Ta} (h : tale ts i a b = some t) : takenOf ts i a b = t.taken := by unfold takenOf; rw [h]
theorem lostOf_some {ts : List Ta} {i a b : Int} {t : Ta} (h : tale ts i a b = some t) : lostOf ts i a b = t.lost := by unfold lostOf; rw [h]
theorem sentOf_none {ts : List Ta} {i a b : Int} (h : tale ts i a b = none) : sentOf ts i a b = [] := by unfold sentOf; rw [h]
theorem takenOf_none {ts : List Ta} {i a b : Int} (h : tale ts i a b = none) : takenOf ts i a b = [] := by unfold takenOf; rw [h]
def Ext (l l' : Lp) : Prop := ∀ i a b t, tale l.tales i a b = some t → ∃ t', tale l'.tales i a b = some t' ∧ t.sent <+: t'.sent ∧ t.taken <+: t'.taken
theorem Ext.sent {l l' : Lp} (h : Ext l l') (i a b : Int) : sentOf l.tales i a b <+: sentOf l'.tales i a b := by
 cases ht : tale l.tales i a b with
 | none => rw [sentOf_none ht]; exact List.nil_prefix
 | some t =>
  obtain ⟨t', h1, h2, _⟩ := h i a b t ht; rw [sentOf_some ht, sentOf_some h1]; exact h2
theorem Ext.taken {l l' : Lp} (h : Ext l l') (i a b : Int) : takenOf l.tales i a b <+: takenOf l'.tales i a b := by
 cases ht : tale l.tales i a b with
 | none => rw [takenOf_none ht]; exact List.nil_prefix
 | some t =>
  obtain ⟨t', h1, _, h2⟩ := h i a b t ht; rw [takenOf_some ht, takenOf_some h1]; exact h2
theorem Ext.is {l l' : Lp} (h : Ext l l') {i a b : Int} (hs : (tale l.tales i a b).isSome = true) : (tale l'.tales i a b).isSome = true := by
 obtain ⟨t, ht⟩ := Option.isSome_iff_exists.1 hs; obtain ⟨t', h1, _⟩ := h i a b t ht; rw [h1]; rfl
theorem Wc.ext {l l' : Lp} {i : Int} {p : Pk} (h : Wc l i p) (he : Ext l l') (hg : ∀ m, Got l (1 - i) p.frm p.to m → Got l' (1 - i) p.frm p.to m) : Wc l' i p :=
 ⟨he.is h.tale, by have := h.ack; have := (he.taken (1 - i) p.frm p.to).length_le; omega, fun k h1 h2 h3 => hg _ (h.held k h1 h2 h3), fun hk => pre_get (he.sent _ _ _) (h.txt hk)⟩
theorem Saf.chg {l l' : Lp} (h : Saf l) {i : Int} (hi : i = 0 ∨ i = 1) (hoth : l'.end_ (1 - i) = l.end_ (1 - i)) (hw : l'.wire = l.wire) (hso : ∀ a b, tale l'.tales (1 - i) a b = tale l.tales (1 - i) a b) (he : Ext l l') (hg : ∀ a b m, Got l i a b m → Got l' i a b m)
  (hok : LineOk l') (hnow : NowOk l') (hord : Ord l'.tales) (hends : ∀ t ∈ l'.tales, t.end_ = 0 ∨ t.end_ = 1) (hli : (l.end_ i).life ≤ (l'.end_ i).life)
  (hkey : ∀ a b t, tale l'.tales i a b = some t → a ≤ (l'.end_ i).life ∧ 1 ≤ b ∧ b ≤ (l'.end_ (1 - i)).life ∧ (a = (l'.end_ i).life → b ≤ (l'.end_ i).peer ∧ (b = (l'.end_ i).peer → (l'.end_ i).phase = 3)))
  (hpre : ∀ a b, takenOf l'.tales i a b <+: sentOf l'.tales (1 - i) b a) (hcur : (l'.end_ i).phase = 3 → Cur l' i (l'.end_ i))
  (htold : ∀ b t, tale l'.tales i (l'.end_ i).life b = some t → b ≠ (l'.end_ i).peer → t.lost.length ≤ t.sent.length ∧ t.sent.length ≤ t.lost.length + (takenOf l'.tales (1 - i) b (l'.end_ i).life).length) : Saf l' := by
 have hGo : ∀ a b m, Got l (1 - i) a b m → Got l' (1 - i) a b m := fun a b m hg => by
  have ht : takenOf l'.tales (1 - i) a b = takenOf l.tales (1 - i) a b := by unfold takenOf; rw [hso]
  unfold Got; rw [hso, hoth, ht]; exact hg
 have hGa : ∀ j, (j = 0 ∨ j = 1) → ∀ a b m, Got l j a b m → Got l' j a b m := fun j hj => by
  rcases two_i hi hj with rfl | rfl
  ·exact hg
  ·exact hGo
 refine ⟨hok, hnow, hord, hends, fun j hj a b t ht => ?_, fun j hj a b => ?_, fun j hj hp => ?_, fun j hj b t ht hb => ?_, fun x hx hk => ?_⟩
 ·rcases two_i hi hj with rfl | rfl
  ·exact hkey a b t ht
  ·rw [hso] at ht; rw [hoth, other_ne]; have := h.key (1 - i) (other_i hi) a b t ht; rw [other_ne] at this; exact ⟨this.1, this.2.1, by omega, this.2.2.2⟩
 ·rcases two_i hi hj with rfl | rfl
  ·exact hpre a b
  ·have h1 : takenOf l'.tales (1 - i) a b = takenOf l.tales (1 - i) a b := by unfold takenOf; rw [hso]
   rw [h1]; exact (h.pre (1 - i) (other_i hi) a b).trans (he.sent _ _ _)
 ·rcases two_i hi hj with rfl | rfl
  ·exact hcur hp
  ·rw [hoth] at hp ⊢; have hc := h.cur (1 - i) (other_i hi) hp; have h1 : sentOf l'.tales (1 - i) (l.end_ (1 - i)).life (l.end_ (1 - i)).peer = sentOf l.tales (1 - i) (l.end_ (1 - i)).life (l.end_ (1 - i)).peer := by unfold sentOf; rw [hso]
   have h2 : takenOf l'.tales (1 - i) (l.end_ (1 - i)).life (l.end_ (1 - i)).peer = takenOf l.tales (1 - i) (l.end_ (1 - i)).life (l.end_ (1 - i)).peer := by unfold takenOf; rw [hso]
   have h3 : lostOf l'.tales (1 - i) (l.end_ (1 - i)).life (l.end_ (1 - i)).peer = lostOf l.tales (1 - i) (l.end_ (1 - i)).life (l.end_ (1 - i)).peer := by unfold lostOf; rw [hso]
   refine ⟨by rw [h1]; exact hc.sent, by rw [h2]; exact hc.taken, by rw [h3]; exact hc.lost, ?_, fun k x hx hh => hGa _ (other_i (other_i hi)) _ _ _ (hc.held k x hx hh), fun x hx => pre_get (he.sent _ _ _) (hc.inn x hx)⟩; have h4 := (he.taken (1 - (1 - i)) (l.end_ (1 - i)).peer (l.end_ (1 - i)).life).length_le; have h5 := hc.base; omega
 ·rcases two_i hi hj with rfl | rfl
  ·exact htold b t ht hb
  ·rw [hoth] at ht hb ⊢; rw [hso] at ht; have h1 := h.told (1 - i) (other_i hi) b t ht hb; have h4 := (he.taken (1 - (1 - i)) b (l.end_ (1 - i)).life).length_le; exact ⟨h1.1, by omega⟩
 ·rw [hw] at hx; have h1 : x.to = 0 ∨ x.to = 1 := by
   rcases (h.ok.wire x hx).2 with h | h
   ·exact .inl h.1
   ·exact .inr h.1
  exact (h.wire x hx hk).ext he (hGa _ (other_i h1) _ _)
theorem Wc.wires {l : Lp} {i : Int} {p : Pk} (h : Wc l i p) (ws : List Tp) (fr : Bool) : Wc { l with wire := ws, free := fr } i p := ⟨h.tale, h.ack, h.held, h.txt⟩
theorem Cur.wires {l : Lp} {i : Int} {e : En} (h : Cur l i e) (ws : List Tp) (fr : Bool) : Cur { l with wire := ws, free := fr } i e := ⟨h.sent, h.taken, h.lost, h.base, h.held, h.inn⟩
theorem Saf.wires {l : Lp} (h : Saf l) {ws : List Tp} {fr : Bool} (hw : ∀ x ∈ ws, x ∈ l.wire ∨ (TripOk l.e0.life l.e1.life x ∧ (x.p.kind ≠ 1 → Wc l x.to x.p))) : Saf { l with wire := ws, free := fr } :=
 ⟨⟨h.ok.g0, h.ok.g1, h.ok.p0, h.ok.p1, fun x hx => by
   rcases hw x hx with h1 | h1
   ·exact h.ok.wire x h1
   ·exact h1.1⟩, h.now, h.ord, h.ends, h.key, h.pre, fun i hi hp => (h.cur i hi hp).wires ws fr, h.told, fun x hx hk => by
   rcases hw x hx with h1 | h1
   ·exact (h.wire x h1 hk).wires ws fr
   ·exact (h1.2 hk).wires ws fr⟩
theorem Saf.way {l : Lp} (h : Saf l) {i : Int} (hi : i = 0 ∨ i = 1) {ps : List Pk} (hp : ∀ q ∈ ps, properB q = true ∧ q.frm = (l.end_ i).life ∧ (q.kind ≠ 1 → Wc l (1 - i) q)) : Saf (wayA l i ps) := by
 rw [way_eq]; have hk := way_ok h.ok hi (ps := ps) (fun q hq => ⟨(hp q hq).1, (hp q hq).2.1⟩); rw [way_eq] at hk; refine h.wires (fr := l.free) fun x hx => ?_; rcases List.mem_append.1 hx with h1 | h1
 ·exact .inl h1
 ·refine .inr ⟨hk.wire x hx, ?_⟩; obtain ⟨q, hq, rfl⟩ := List.mem_map.1 h1; exact (hp q (List.mem_of_mem_take hq)).2.2
theorem Saf.nowT {l : Lp} (h : Saf l) {i : Int} (hi : i = 0 ∨ i = 1) (hp : (l.end_ i).phase = 3) : ∃ (k : Nat) (t : Ta), l.now i = (k : Int) ∧ l.tales[k]? = some t ∧ t.end_ = i ∧ t.life = (l.end_ i).life ∧ t.peer = (l.end_ i).peer ∧ (t.sent.length : Int) = (l.end_ i).base + flyN (l.end_ i) ∧ tale l.tales i (l.end_ i).life (l.end_ i).peer = some t := by
 obtain ⟨k, t, h1, h2, h3, h4, h5, h6⟩ := (h.now i hi).2 hp; exact ⟨k, t, h1, h2, h3, h4, h5, h6, tale_at h.ord h2 h3 h4 h5⟩
theorem Saf.report {l : Lp} (h : Saf l) {i : Int} (hi : i = 0 ∨ i = 1) (hp : (l.end_ i).phase = 3) (kind num : Int) (t : ByteArray) (ht : kind = 2 → (sentOf l.tales i (l.end_ i).life (l.end_ i).peer)[num.toNat]? = some t) :
  Wc l (1 - i) ⟨kind, (l.end_ i).life, (l.end_ i).peer, num, t, (l.end_ i).want, bitsA (l.end_ i)⟩ := by
 obtain ⟨k, v, _, _, _, _, _, _, hv⟩ := h.nowT hi hp; have hc := h.cur i hi hp; have hs : (tale l.tales i (l.end_ i).life (l.end_ i).peer).isSome = true := by rw [hv]; rfl
 refine ⟨?_, ?_, fun k h1 h2 h3 => ?_, fun hk => ?_⟩
 ·rw [other_ne]; exact hs
 ·rw [other_ne]; exact Int.le_of_eq hc.taken.symm
 ·rw [other_ne]; refine ⟨hs, fun _ _ => .inr ?_⟩; simp only at h3; unfold bitsA at h3; have hk : k = 1 ∨ k = 2 ∨ k = 3 := by omega
  show hasN (l.end_ i).inn ((l.end_ i).want + (k : Int)) = true; rcases hk with rfl | rfl | rfl
  ·by_cases hb : hasN (l.end_ i).inn ((l.end_ i).want + 1) = true
   ·exact hb
   ·rw [if_neg hb] at h3; split at h3 <;> split at h3 <;> simp at h3
  ·by_cases hb : hasN (l.end_ i).inn ((l.end_ i).want + 2) = true
   ·exact hb
   ·rw [if_neg hb] at h3; split at h3 <;> split at h3 <;> simp at h3
  ·by_cases hb : hasN (l.end_ i).inn ((l.end_ i).want + 3) = true
   ·exact hb
   ·rw [if_neg hb] at h3; split at h3 <;> split at h3 <;> simp at h3
 ·rw [other_ne]; exact ht hk
theorem Saf.data {l : Lp} (h : Saf l) {i : Int} (hi : i = 0 ∨ i = 1) (hp : (l.end_ i).phase = 3) {j : Nat} (hj : j < flyN (l.end_ i)) : Wc l (1 - i) (dataA (l.end_ i) j) := by
 refine h.report hi hp 2 _ _ (fun _ => ?_); have hc := (h.cur i hi hp).sent; have hG := good_iff.1 (h.ok.good i); have hb := hG.base; have hl := (fly_le (l.end_ i)).1; have h1 : ((sentOf l.tales i (l.end_ i).life (l.end_ i).peer).drop (l.end_ i).base.toNat)[j]? = some ((l.end_ i).out.getD j ⟨emptyT, false⟩).t := by
  rw [hc, List.getElem?_map, List.getElem?_take, if_pos hj, List.getElem?_eq_getElem (by omega), List.getD_eq_getElem?_getD, List.getElem?_eq_getElem (by omega)]; rfl
 rw [List.getElem?_drop] at h1; rw [show ((l.end_ i).base + (j : Int)).toNat = (l.end_ i).base.toNat + j by omega]; exact h1
theorem Saf.from_ {l : Lp} (h : Saf l) {i : Int} (hi : i = 0 ∨ i = 1) {n : Nat} {q : Pk} (hq : q ∈ fromA (l.end_ i) n) : properB q = true ∧ q.frm = (l.end_ i).life ∧ (q.kind ≠ 1 → Wc l (1 - i) q) := by
 obtain ⟨j, _, hj, rfl⟩ := fromA_mem hq; have hG := good_iff.1 (h.ok.good i); have hp : (l.end_ i).phase = 3 := by
  by_cases hp : (l.end_ i).phase = 3
  ·exact hp
  ·unfold flyN at hj; rw [if_neg hp] at hj; omega
 exact ⟨data_proper hG hp hj, rfl, fun _ => h.data hi hp hj⟩
end Go.Proofs.Ytejabnoidhlfaaa
