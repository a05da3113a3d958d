/- Contracts and lemmas that the claim uses. -/
import Derived.Test.YtejabnoidhlfaaaV44
set_option maxRecDepth 100000
set_option maxHeartbeats 16000000
namespace Go.Proofs.Ytejabnoidhlfaaa
theorem LineOk.of {l l' : Lp} (h : LineOk l) {i : Int} (hi : i = 0 ∨ i = 1) (ho : l'.end_ (1 - i) = l.end_ (1 - i)) (hw : l'.wire = l.wire) (hg : goodB (l'.end_ i) = true) (hl : (l.end_ i).life ≤ (l'.end_ i).life) (hp : (l'.end_ i).peer ≤ (l.end_ (1 - i)).life) : LineOk l' := by
 rcases hi with rfl | rfl
 ·have e1 : l'.e1 = l.e1 := ho; have hg' : goodB l'.e0 = true := hg; have hl' : l.e0.life ≤ l'.e0.life := hl; have hp' : l'.e0.peer ≤ l.e1.life := hp; exact ⟨hg', by rw [e1]; exact h.g1, by rw [e1]; exact hp', by rw [e1]; have := h.p1; omega, fun x hx => by rw [hw] at hx; rw [e1]; exact (h.wire x hx).mono hl' (Int.le_refl _)⟩
 ·have e1 : l'.e0 = l.e0 := ho; have hg' : goodB l'.e1 = true := hg; have hl' : l.e1.life ≤ l'.e1.life := hl; have hp' : l'.e1.peer ≤ l.e0.life := hp; exact ⟨by rw [e1]; exact h.g0, hg', by rw [e1]; have := h.p0; omega, by rw [e1]; exact hp', fun x hx => by rw [hw] at hx; rw [e1]; exact (h.wire x hx).mono (Int.le_refl _) hl'⟩
theorem NowOk.of {l l' : Lp} (h : NowOk l) {i : Int} (hi : i = 0 ∨ i = 1) (ho : l'.end_ (1 - i) = l.end_ (1 - i)) (hn : l'.now (1 - i) = l.now (1 - i)) (hk : ∀ (k : Nat) (t : Ta), l.tales[k]? = some t → t.end_ = 1 - i → l'.tales[k]? = some t) (hat : NowAt l' i) : NowOk l' := by
 intro j hj; rcases two_i hi hj with rfl | rfl
 ·exact hat
 ·have h1 := h (1 - i) hj; refine ⟨fun hp => by rw [ho] at hp; rw [hn]; exact h1.1 hp, fun hp => ?_⟩; rw [ho] at hp ⊢; rw [hn]; obtain ⟨k, t, a1, a2, a3, a4⟩ := h1.2 hp; exact ⟨k, t, a1, hk k t a2 a3, a3, a4⟩
theorem end_same {l : Lp} {i : Int} (hi : i = 0 ∨ i = 1) (e : En) : (l.setEnd i e).end_ i = e := by rw [end_setEnd hi hi, if_pos rfl]
theorem end_other {l : Lp} {i : Int} (hi : i = 0 ∨ i = 1) (e : En) : (l.setEnd i e).end_ (1 - i) = l.end_ (1 - i) := by rw [end_setEnd hi (other_i hi), if_neg (by omega)]
theorem wire_setEnd {l : Lp} {i : Int} {e : En} : (l.setEnd i e).wire = l.wire := by unfold Lp.setEnd; split <;> rfl
theorem wire_setNow {l : Lp} {i : Int} {n : Int} : (l.setNow i n).wire = l.wire := by unfold Lp.setNow; split <;> rfl
theorem Saf.same {l : Lp} (h : Saf l) {i : Int} (hi : i = 0 ∨ i = 1) {e e' : En} (hE : l.end_ i = e) (hg : goodB e' = true) (hl : e'.life = e.life) (hpr : e'.peer = e.peer) (hp' : e'.phase = 3) {k : Nat} {t : Ta} (hn : l.now i = (k : Int)) (hk : l.tales[k]? = some t)
  (hv : tale l.tales i e.life e.peer = some t) {f : Ta → Ta} (hft : ∀ v, (f v).end_ = v.end_ ∧ (f v).life = v.life ∧ (f v).peer = v.peer) {S T : List ByteArray} (fs : (f t).sent = t.sent ++ S) (ftk : (f t).taken = t.taken ++ T) (fl : (f t).lost = t.lost)
  (cs : (t.sent ++ S).drop e'.base.toNat = (e'.out.take (flyN e')).map (·.t)) (cn : ((t.sent ++ S).length : Int) = e'.base + flyN e') (ct : ((t.taken ++ T).length : Int) = e'.want) (cb : e'.base ≤ ((takenOf l.tales (1 - i) e.peer e.life).length : Int))
  (ch : ∀ (k : Nat) (x : Ou), e'.out[k]? = some x → x.h = true → Got l (1 - i) e.peer e.life (e'.base + k)) (ci : ∀ x ∈ e'.inn, (sentOf l.tales (1 - i) e.peer e.life)[x.n.toNat]? = some x.t)
  (cg : ∀ m, hasN e.inn m = true → m < ((t.taken ++ T).length : Int) ∨ hasN e'.inn m = true) (cp : t.taken ++ T <+: sentOf l.tales (1 - i) e.peer e.life) : Saf { l.setEnd i e' with tales := setAt f k l.tales } := by
 obtain ⟨l', hl'⟩ : ∃ l', ({ l.setEnd i e' with tales := setAt f k l.tales } : Lp) = l' := ⟨_, rfl⟩; have te : l'.end_ i = e' := by rw [← hl', end_tales, end_same hi]
 have to_ : l'.end_ (1 - i) = l.end_ (1 - i) := by rw [← hl', end_tales, end_other hi]
 have tw' : l'.wire = l.wire := by rw [← hl']; exact wire_setEnd
 have tn : ∀ j, l'.now j = l.now j := fun j => by rw [← hl', now_tales, now_setEnd]
 have tt : l'.tales = setAt f k l.tales := by rw [← hl']
 obtain ⟨_, k1, k2, k3⟩ := tale_key hv; have hT : ∀ j a b, tale l'.tales j a b = if isKey j a b t = true then some (f t) else tale l.tales j a b := fun j a b => by rw [tt]; exact tale_set h.ord hk (hft t) j a b
 have hTi : tale l'.tales i e.life e.peer = some (f t) := by rw [hT, if_pos (isKey_iff.2 ⟨k1, k2, k3⟩)]
 have hTo : ∀ a b, tale l'.tales (1 - i) a b = tale l.tales (1 - i) a b := fun a b => by
  rw [hT, if_neg]; intro hq; have := (isKey_iff.1 hq).1; omega
 have hso : ∀ a b, sentOf l'.tales (1 - i) a b = sentOf l.tales (1 - i) a b := fun a b => by unfold sentOf; rw [hTo]
 have hto : ∀ a b, takenOf l'.tales (1 - i) a b = takenOf l.tales (1 - i) a b := fun a b => by unfold takenOf; rw [hTo]
 have hext : Ext l l' := fun j a b v hj => by
  rw [hT]; by_cases hq : isKey j a b t = true
  ·obtain ⟨q1, q2, q3⟩ := isKey_iff.1 hq; have hjv : tale l.tales j a b = some t := by rw [← q1, k1, ← q2, k2, ← q3, k3]; exact hv
   rw [hj] at hjv; injection hjv with e1; rw [if_pos hq, e1]; exact ⟨_, rfl, by rw [fs]; exact List.prefix_append _ _, by rw [ftk]; exact List.prefix_append _ _⟩
  ·rw [if_neg hq]; exact ⟨v, hj, List.prefix_refl _, List.prefix_refl _⟩
 have hcur0 := h.cur i hi (by rw [hE]; exact (by
  have := h.key i hi e.life e.peer t hv; rw [hE] at this; exact (this.2.2.2 rfl).2 rfl))
 rw [hE] at hcur0; have hlost : lostOf l.tales i e.life e.peer = t.lost := lostOf_some hv; have hpo : e.peer ≤ (l.end_ (1 - i)).life := by have := h.ok.peer hi; rw [hE] at this; exact this
 have hgo : ∀ a b m, Got l (1 - i) a b m → Got l' (1 - i) a b m := fun a b m hg => by
  unfold Got; rw [hTo, to_, hto]; exact hg
 rw [hl']; refine h.chg hi to_ tw' hTo hext (fun a b m hgt => ⟨hext.is hgt.1, fun q1 q2 => ?_⟩) (h.ok.of hi to_ tw' (by rw [te]; exact hg) (by rw [te, hE, hl]; exact Int.le_refl _) (by rw [te, hpr]; exact hpo)) (h.now.of hi to_ (tn _) (fun k' t' q1 q2 => ?_) ⟨fun hq => absurd (by rw [te]; exact hp') hq, fun _ => ?_⟩) (by rw [tt]; exact ord_set h.ord hft) (fun v hv' => ?_) (by rw [te, hE, hl]; exact Int.le_refl _) (fun a b v hq => ?_) (fun a b => ?_) (fun _ => ?_) (fun b v hq hb => ?_)
 ·rw [te] at q1 q2 ⊢; rw [hl] at q1; rw [hpr] at q2; subst q1 q2; rw [takenOf_some hTi, ftk]; have h2 := hgt.2 (by rw [hE]) (by rw [hE]); rw [hE, takenOf_some hv] at h2; rcases h2 with h2 | h2
  ·left; rw [List.length_append]; omega
  ·exact cg m h2
 ·rw [tt, setAt_get, if_neg, q1]; intro e1; rw [e1, hk] at q1; injection q1 with e2; rw [← e2, k1] at q2; omega
 ·rw [te, tn]; refine ⟨k, f t, hn, ?_, by rw [(hft t).1]; exact k1, by rw [(hft t).2.1, hl]; exact k2, by rw [(hft t).2.2, hpr]; exact k3, by rw [fs]; exact cn⟩; rw [tt, setAt_get, if_pos rfl, hk]; rfl
 ·rw [tt] at hv'; rcases setAt_mem hv' with h1 | ⟨x, hx, rfl⟩
  ·exact h.ends v h1
  ·rw [(hft x).1]; exact h.ends x hx
 ·rw [te, to_]; have hsome : ∃ v0, tale l.tales i a b = some v0 := by
   rw [hT] at hq; by_cases hq2 : isKey i a b t = true
   ·obtain ⟨_, q2, q3⟩ := isKey_iff.1 hq2; exact ⟨t, by rw [← q2, ← q3, k2, k3]; exact hv⟩
   ·rw [if_neg hq2] at hq; exact ⟨v, hq⟩
  obtain ⟨v0, hv0⟩ := hsome; have := h.key i hi a b v0 hv0; rw [hE] at this; rw [hl, hpr]; exact ⟨this.1, this.2.1, this.2.2.1, fun h1 => ⟨(this.2.2.2 h1).1, fun _ => hp'⟩⟩
 ·rw [hso]; by_cases hq : isKey i a b t = true
  ·obtain ⟨_, q2, q3⟩ := isKey_iff.1 hq; rw [← q2, ← q3, k2, k3, takenOf_some hTi, ftk]; exact cp
  ·have : takenOf l'.tales i a b = takenOf l.tales i a b := by unfold takenOf; rw [hT, if_neg hq]
   rw [this]; exact h.pre i hi a b
 ·rw [te]; refine ⟨?_, ?_, ?_, ?_, fun k x hx hh => ?_, fun x hx => ?_⟩
  ·rw [hl, hpr, sentOf_some hTi, fs]; exact cs
  ·rw [hl, hpr, takenOf_some hTi, ftk]; exact ct
  ·rw [hl, hpr, lostOf_some hTi, fl, ← hlost]; exact hcur0.lost
  ·rw [hl, hpr, hto]; exact cb
  ·rw [hl, hpr]; exact hgo _ _ _ (ch k x hx hh)
  ·rw [hl, hpr, hso]; exact ci x hx
 ·rw [te] at hb hq ⊢; rw [hl] at hq ⊢; rw [hpr] at hb; rw [hT, if_neg (fun hq2 => hb (by have := (isKey_iff.1 hq2).2.2; omega))] at hq; rw [hto]; have := h.told i hi b v (by rw [hE]; exact hq) (by rw [hE]; exact hb); rw [hE] at this; exact this
theorem Saf.closed {l l' : Lp} (h : Saf l) {i : Int} (hi : i = 0 ∨ i = 1) {e e' : En} (hE : l.end_ i = e) (te : l'.end_ i = e') (to_ : l'.end_ (1 - i) = l.end_ (1 - i)) (tw' : l'.wire = l.wire) (tn : l'.now i = -1) (tno : l'.now (1 - i) = l.now (1 - i))
  (hg : goodB e' = true) (hp' : e'.phase ≠ 3) (hl : e.life ≤ e'.life) (hpr : e'.peer ≤ (l.end_ (1 - i)).life)
  (hT : ∀ j a b v, tale l'.tales j a b = some v → ∃ v0, tale l.tales j a b = some v0 ∧ v.sent = v0.sent ∧ v.taken = v0.taken) (hT' : ∀ j a b v0, tale l.tales j a b = some v0 → ∃ v, tale l'.tales j a b = some v ∧ v.sent = v0.sent ∧ v.taken = v0.taken)
  (hTo : ∀ a b, tale l'.tales (1 - i) a b = tale l.tales (1 - i) a b) (hord : Ord l'.tales) (hends : ∀ v ∈ l'.tales, v.end_ = 0 ∨ v.end_ = 1) (hk : ∀ (k : Nat) (t : Ta), l.tales[k]? = some t → t.end_ = 1 - i → l'.tales[k]? = some t)
  (hnone : ∀ b v0, tale l.tales i e'.life b = some v0 → b < e'.peer ∨ b ≤ e'.peer ∧ b ≠ e'.peer)
  (htold : ∀ b v, tale l'.tales i e'.life b = some v → v.lost.length ≤ v.sent.length ∧ v.sent.length ≤ v.lost.length + (takenOf l.tales (1 - i) b e'.life).length) : Saf l' := by
 have hext : Ext l l' := fun j a b v hj => by
  obtain ⟨v', h1, h2, h3⟩ := hT' j a b v hj; exact ⟨v', h1, by rw [h2]; exact List.prefix_refl _, by rw [h3]; exact List.prefix_refl _⟩
 have htk : ∀ j a b, takenOf l'.tales j a b = takenOf l.tales j a b := fun j a b => by
  cases h1 : tale l.tales j a b with
  | none =>
   cases h2 : tale l'.tales j a b with
   | none => rw [takenOf_none h1, takenOf_none h2]
   | some v => obtain ⟨v0, h3, _⟩ := hT j a b v h2; rw [h1] at h3; cases h3
  | some v0 =>
   obtain ⟨v, h2, _, h3⟩ := hT' j a b v0 h1; rw [takenOf_some h1, takenOf_some h2, h3]
 refine h.chg hi to_ tw' hTo hext (fun a b m hgt => ⟨hext.is hgt.1, fun q1 q2 => ?_⟩) (h.ok.of hi to_ tw' (by rw [te]; exact hg) (by rw [te, hE]; exact hl) (by rw [te]; exact hpr)) (h.now.of hi to_ tno hk ⟨fun _ => tn, fun hq => absurd (by rw [te] at hq; exact hq) hp'⟩) hord hends (by rw [te, hE]; exact hl) (fun a b v hq => ?_) (fun a b => ?_) (fun hq => absurd (by rw [te] at hq; exact hq) hp') (fun b v hq _ => ?_)
 ·rw [te] at q1 q2; obtain ⟨v0, hv0⟩ := Option.isSome_iff_exists.1 hgt.1; rw [← q1] at hv0; have := hnone b v0 hv0; omega
 ·rw [te, to_]; obtain ⟨v0, hv0, _⟩ := hT i a b v hq; have h1 := h.key i hi a b v0 hv0; rw [hE] at h1; refine ⟨by omega, h1.2.1, h1.2.2.1, fun h2 => ?_⟩; rw [h2] at hv0; have := hnone b v0 hv0; exact ⟨by omega, fun h3 => by omega⟩
 ·rw [htk]; exact (h.pre i hi a b).trans (hext.sent _ _ _)
 ·rw [te] at hq ⊢; rw [htk]; exact htold b v hq
theorem Saf.open_ {l : Lp} (h : Saf l) {i : Int} (hi : i = 0 ∨ i = 1) (hp : (l.end_ i).phase = 2) : Saf (becomesA l i { l.end_ i with phase := 3 }) := by
 obtain ⟨e, hE⟩ : ∃ e, l.end_ i = e := ⟨_, rfl⟩; have hG := good_iff.1 (h.ok.good i); rw [hE] at hp hG ⊢; have hp3 : e.phase ≠ 3 := by omega
 obtain ⟨c1, c2, c3, c4⟩ := hG.cl hp3; obtain ⟨e', he'⟩ : ∃ e', ({ e with phase := 3 } : En) = e' := ⟨_, rfl⟩; have d1 : e'.life = e.life := by rw [← he']
 have d2 : e'.peer = e.peer := by rw [← he']
 have d3 : e'.phase = 3 := by rw [← he']
 have d4 : e'.base = 0 := by rw [← he']; exact c1
 have d5 : e'.want = 0 := by rw [← he']; exact c2
 have d6 : e'.inn = [] := by rw [← he']; exact c3
 have d7 : e'.out = e.out := by rw [← he']
 have hns : ¬ sameS (l.end_ i) e' := fun hs => by have := hs.1; rw [hE] at this; omega
 have hg' : goodB e' = true := by rw [← he']; exact good_iff.2 (opened_good hG hp)
 obtain ⟨n, hn⟩ : ∃ n, sentA e' ⟨i, e'.life, e'.peer, [], [], []⟩ = n := ⟨_, rfl⟩; have n1 : n.end_ = i := by rw [← hn]; rfl
 have n2 : n.life = e.life := by rw [← hn, ← d1]; rfl
 have n3 : n.peer = e.peer := by rw [← hn, ← d2]; rfl
 have n4 : n.sent = (e'.out.take (flyN e')).map (·.t) := by
  rw [← hn]; show [] ++ ((e'.out.take (flyN e')).drop (0 - e'.base.toNat)).map (·.t) = _; rw [d4]; rfl
 have n5 : n.lost = [] ∧ n.taken = [] := by rw [← hn]; exact ⟨rfl, rfl⟩
 rw [he', becomes_new hi d3 hns, hn]; obtain ⟨l', hl'⟩ : ∃ l', ({ (l.setEnd i e').setNow i (l.tales.length : Int) with tales := l.tales ++ [n] } : Lp) = l' := ⟨_, rfl⟩; have te : l'.end_ i = e' := by rw [← hl', end_tales, end_setNow, end_same hi]
 have to_ : l'.end_ (1 - i) = l.end_ (1 - i) := by rw [← hl', end_tales, end_setNow, end_other hi]
 have tw' : l'.wire = l.wire := by rw [← hl']; show ((l.setEnd i e').setNow i (l.tales.length : Int)).wire = _; rw [wire_setNow, wire_setEnd]
 have tn : l'.now i = (l.tales.length : Int) := by rw [← hl', now_tales, now_setNow hi hi, if_pos rfl]
 have tno : l'.now (1 - i) = l.now (1 - i) := by rw [← hl', now_tales, now_setNow hi (other_i hi), if_neg (by omega), now_setEnd]
 have tt : l'.tales = l.tales ++ [n] := by rw [← hl']
 have hlow : ∀ b v, tale l.tales i e.life b = some v → b < e.peer := fun b v hv => by
  have h1 := h.key i hi _ _ _ hv; rw [hE] at h1; have h2 := h1.2.2.2 rfl; by_cases h3 : b = e.peer
  ·exact absurd (h2.2 h3) hp3
  ·omega
 have hnone : tale l.tales i e.life e.peer = none := by
  cases hv : tale l.tales i e.life e.peer with
  | none => rfl
  | some v => have := hlow _ _ hv; omega
 have hT : ∀ j a b, tale l'.tales j a b = if isKey j a b n = true then some n else tale l.tales j a b := fun j a b => by rw [tt]; exact tale_app (by rw [n1, n2, n3]; exact hnone) j a b
 have hTi : tale l'.tales i e.life e.peer = some n := by rw [hT, if_pos (isKey_iff.2 ⟨n1, n2, n3⟩)]
 have hTn : ∀ j a b, isKey j a b n = true → tale l.tales j a b = none := fun j a b hq => by
  obtain ⟨q1, q2, q3⟩ := isKey_iff.1 hq; rw [← q1, ← q2, ← q3, n1, n2, n3]; exact hnone
 have hTo : ∀ a b, tale l'.tales (1 - i) a b = tale l.tales (1 - i) a b := fun a b => by
  rw [hT, if_neg]; intro hq; have := (isKey_iff.1 hq).1; omega
 have hext : Ext l l' := fun j a b v hj => by
  rw [hT]; by_cases hq : isKey j a b n = true
  ·rw [hTn j a b hq] at hj; cases hj
  ·rw [if_neg hq]; exact ⟨v, hj, List.prefix_refl _, List.prefix_refl _⟩
 have htk : ∀ a b, takenOf l'.tales i a b = takenOf l.tales i a b := fun a b => by
  by_cases hq : isKey i a b n = true
  ·rw [takenOf_none (hTn i a b hq)]; unfold takenOf; rw [hT, if_pos hq]; exact n5.2
  ·unfold takenOf; rw [hT, if_neg hq]
 have hpo : e.peer ≤ (l.end_ (1 - i)).life := by have := h.ok.peer hi; rw [hE] at this; exact this
 have hpos : 1 ≤ e.peer := by rcases c4 with c4 | c4 <;> omega
 have hord' : Ord l'.tales := by
  rw [tt]; refine ord_app h.ord (fun v hv a1 a2 => ?_); rw [n1] at a1; rw [n2] at a2; rw [n3]; exact hlow v.peer v (by rw [← a1, ← a2]; exact tale_of_mem h.ord hv)
 rw [hl']; refine h.chg hi to_ tw' hTo hext (fun a b m hgt => ⟨hext.is hgt.1, fun q1 q2 => ?_⟩) (h.ok.of hi to_ tw' (by rw [te]; exact hg') (by rw [te, hE, d1]; exact Int.le_refl _) (by rw [te, d2]; exact hpo)) (h.now.of hi to_ tno (fun k' t' q1 q2 => ?_) ⟨fun hq => absurd (by rw [te]; exact d3) hq, fun _ => ?_⟩) hord' (fun v hv' => ?_) (by rw [te, hE, d1]; exact Int.le_refl _) (fun a b v hq => ?_) (fun a b => ?_) (fun _ => ?_) (fun b v hq hb => ?_)
 ·rw [te] at q1 q2; obtain ⟨v0, hv0⟩ := Option.isSome_iff_exists.1 hgt.1; rw [← q1, ← q2, d1, d2, hnone] at hv0; cases hv0
 ·rw [tt, List.getElem?_append_left (List.getElem?_eq_some_iff.1 q1).1]; exact q1
 ·rw [te, tn]; refine ⟨l.tales.length, n, rfl, by rw [tt]; exact List.getElem?_concat_length, n1, by rw [n2, d1], by rw [n3, d2], ?_⟩; rw [n4, d4, List.length_map, List.length_take]; have := (fly_le e').1; omega
 ·rw [tt] at hv'; rcases List.mem_append.1 hv' with h1 | h1
  ·exact h.ends v h1
  ·simp at h1; rw [h1, n1]; exact hi
 ·rw [te, to_, d1, d2]; rw [hT] at hq; by_cases hq2 : isKey i a b n = true
  ·obtain ⟨_, q2, q3⟩ := isKey_iff.1 hq2; exact ⟨by omega, by omega, by omega, fun _ => ⟨by omega, fun _ => d3⟩⟩
  ·rw [if_neg hq2] at hq; have h1 := h.key i hi a b v hq; rw [hE] at h1; exact ⟨h1.1, h1.2.1, h1.2.2.1, fun h2 => ⟨(h1.2.2.2 h2).1, fun _ => d3⟩⟩
 ·rw [htk]; exact (h.pre i hi a b).trans (hext.sent _ _ _)
 ·rw [te]; refine ⟨?_, ?_, ?_, ?_, fun k x hx hh => ?_, fun x hx => ?_⟩
  ·rw [d1, d2, d4, sentOf_some hTi, n4]; rfl
  ·rw [d1, d2, d5, takenOf_some hTi, n5.2]; rfl
  ·rw [d1, d2, lostOf_some hTi, n5.1]
  ·rw [d4]; omega
  ·rw [d7] at hx; rw [hG.no_held hp3 hx] at hh; cases hh
  ·rw [d6] at hx; cases hx
 ·rw [te] at hb hq ⊢; rw [d1] at hq ⊢; rw [d2] at hb; rw [hT, if_neg (fun hq2 => hb (by have := (isKey_iff.1 hq2).2.2; omega))] at hq; have h1 : takenOf l'.tales (1 - i) b e.life = takenOf l.tales (1 - i) b e.life := by unfold takenOf; rw [hTo]
  rw [h1]; have := h.told i hi b v (by rw [hE]; exact hq) (by rw [hE]; exact hb); rw [hE] at this; exact this
end Go.Proofs.Ytejabnoidhlfaaa
