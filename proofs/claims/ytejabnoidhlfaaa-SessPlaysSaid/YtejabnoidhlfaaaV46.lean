/- Contracts and lemmas that the claim uses. -/
import Derived.Test.YtejabnoidhlfaaaV45
set_option maxRecDepth 100000
set_option maxHeartbeats 16000000
namespace Go.Proofs.Ytejabnoidhlfaaa
theorem markA_texts (held : Int) (n : Nat) : ∀ (l : List Ou) (i : Nat), (markA held n i l).map (·.t) = l.map (·.t)
 | [], i => rfl
 | x :: l, i => by rw [markA, List.map_cons, List.map_cons, markA_texts held n l (i + 1)]
def moreA (e : En) (n : Nat) : List ByteArray := ((e.out.take (flyN e)).drop (n - e.base.toNat)).map (·.t)
theorem sentA_more (e : En) (t : Ta) : sentA e t = { t with sent := t.sent ++ moreA e t.sent.length } := rfl
theorem Saf.outs {l : Lp} (h : Saf l) {i : Int} (hi : i = 0 ∨ i = 1) {e e' : En} (hE : l.end_ i = e) (hp : e.phase = 3) (hg : goodB e' = true) (hl : e'.life = e.life) (hpr : e'.peer = e.peer) (hp' : e'.phase = 3) (hw : e'.want = e.want) (hin : e'.inn = e.inn)
  (b1 : e.base ≤ e'.base) (b2 : e'.base ≤ e.base + flyN e) (b3 : e.base + flyN e ≤ e'.base + flyN e') (cb : e'.base ≤ ((takenOf l.tales (1 - i) e.peer e.life).length : Int))
  (hx : ((e'.out.take (flyN e')).map (·.t)).take ((e.base + flyN e - e'.base).toNat) = ((e.out.take (flyN e)).map (·.t)).drop (e'.base - e.base).toNat)
  (ch : ∀ (k : Nat) (x : Ou), e'.out[k]? = some x → x.h = true → Got l (1 - i) e.peer e.life (e'.base + k)) : Saf (becomesA l i e') := by
 obtain ⟨k, t, a1, a2, a3, a4, a5, a6, a7⟩ := h.nowT hi (by rw [hE]; exact hp); have hc := h.cur i hi (by rw [hE]; exact hp); rw [hE] at a4 a5 a6 a7 hc; have hG := good_iff.1 (h.ok.good i); rw [hE] at hG; have hb := hG.base; have hs : sameS (l.end_ i) e' := by rw [hE]; exact ⟨hp, hpr.symm, hl.symm⟩
 have hse := hc.sent; rw [sentOf_some a7] at hse; have htk := hc.taken; rw [takenOf_some a7] at htk; rw [becomes_same hi hp' hs, a1, Int.toNat_natCast]; have hf' := (fly_le e').1; have hml : (moreA e' t.sent.length).length = flyN e' - (t.sent.length - e'.base.toNat) := by
  unfold moreA; rw [List.length_map, List.length_drop, List.length_take]; omega
 have hd : t.sent.drop e'.base.toNat = ((e'.out.take (flyN e')).map (·.t)).take (t.sent.length - e'.base.toNat) := by
  have e1 : t.sent.drop e'.base.toNat = (t.sent.drop e.base.toNat).drop (e'.base - e.base).toNat := by rw [List.drop_drop]; congr 1; omega
  rw [e1, hse, ← hx]; congr 1; omega
 refine h.same hi hE hg hl hpr hp' a1 a2 a7 (f := sentA e') (fun v => ⟨rfl, rfl, rfl⟩) (S := moreA e' t.sent.length) (T := []) rfl (by rw [List.append_nil]; rfl) rfl ?_ ?_ ?_ cb ch (by rw [hin]; exact hc.inn) (fun m hm => by rw [hin]; exact .inr hm) ?_
 ·rw [List.drop_append_of_le_length (by omega), hd]; unfold moreA; rw [List.map_drop, List.take_append_drop]
 ·rw [List.length_append, hml]; omega
 ·rw [List.append_nil, hw]; exact htk
 ·rw [List.append_nil, ← takenOf_some a7]; exact h.pre i hi _ _
theorem Saf.send {l : Lp} (h : Saf l) {i : Int} (hi : i = 0 ∨ i = 1) {t : ByteArray} (hs : (sendA (l.end_ i) t).2.2 = 0) : Saf (becomesA l i (sendA (l.end_ i) t).1) := by
 obtain ⟨e, hE⟩ : ∃ e, l.end_ i = e := ⟨_, rfl⟩; have hg := h.ok.good i; rw [hE] at hs hg ⊢; have hG := good_iff.1 hg; obtain ⟨s1, s2, _⟩ := send_ok hg hs; obtain ⟨e', he'⟩ : ∃ e', (sendA e t).1 = e' := ⟨_, rfl⟩; rw [he'] at s1 s2 ⊢; have d1 : e'.life = e.life := by rw [s1]
 have d2 : e'.peer = e.peer := by rw [s1]
 have d3 : e'.phase = e.phase := by rw [s1]
 have d4 : e'.base = e.base := by rw [s1]
 have d5 : e'.want = e.want := by rw [s1]
 have d6 : e'.inn = e.inn := by rw [s1]
 have d7 : e'.out = e.out ++ [⟨t, false⟩] := by rw [s1]
 have hfl := (fly_le e).1; by_cases hp : e.phase = 3
 ·have hff : flyN e ≤ flyN e' := by
   unfold flyN; rw [if_pos hp, if_pos (by rw [d3]; exact hp), d7, List.length_append]; omega
  have hc := h.cur i hi (by rw [hE]; exact hp); rw [hE] at hc; refine h.outs hi hE hp s2 d1 d2 (by rw [d3]; exact hp) d5 d6 (by omega) (by omega) (by omega) (by rw [d4]; exact hc.base) ?_ (fun k x hx hh => ?_)
  ·rw [d4, show (e.base - e.base).toNat = 0 by omega, List.drop_zero, show (e.base + (flyN e : Int) - e.base).toNat = flyN e by omega, ← List.map_take, List.take_take, show min (flyN e) (flyN e') = flyN e by omega, d7, List.take_append_of_le_length hfl]
  ·rw [d4]; rw [d7] at hx; by_cases hk : k < e.out.length
   ·rw [List.getElem?_append_left hk] at hx; exact hc.held k x hx hh
   ·rw [List.getElem?_append_right (by omega)] at hx; have := (List.getElem?_eq_some_iff.1 hx).1; simp at this; rw [show k - e.out.length = 0 by omega] at hx; simp at hx; rw [← hx] at hh; cases hh
 ·have hp' : e'.phase ≠ 3 := by rw [d3]; exact hp
  rw [becomes_closed hp']; obtain ⟨l', hl'⟩ : ∃ l', (l.setEnd i e').setNow i (-1) = l' := ⟨_, rfl⟩; have tt : l'.tales = l.tales := by rw [← hl', tales_setNow, tales_setEnd]
  have hkey : ∀ b v0, tale l.tales i e.life b = some v0 → b < e.peer := fun b v0 hv => by
   have h1 := h.key i hi _ _ _ hv; rw [hE] at h1; have h2 := h1.2.2.2 rfl; by_cases h3 : b = e.peer
   ·exact absurd (h2.2 h3) hp
   ·omega
  rw [hl']; refine h.closed hi hE (e' := e') (by rw [← hl', end_setNow, end_same hi]) (by rw [← hl', end_setNow, end_other hi]) (by rw [← hl', wire_setNow, wire_setEnd]) (by rw [← hl', now_setNow hi hi, if_pos rfl]) (by rw [← hl', now_setNow hi (other_i hi), if_neg (by omega), now_setEnd]) s2 hp' (by omega) (by rw [d2]; have := h.ok.peer hi; rw [hE] at this; exact this)
   (fun j a b v hv => ⟨v, by rw [tt] at hv; exact hv, rfl, rfl⟩) (fun j a b v hv => ⟨v, by rw [tt]; exact hv, rfl, rfl⟩) (fun a b => by rw [tt]) (by rw [tt]; exact h.ord) (by rw [tt]; exact h.ends) (fun k v hk _ => by rw [tt]; exact hk) (fun b v0 hv => ?_) (fun b v hv => ?_)
  ·rw [d1] at hv; have := hkey b v0 hv; omega
  ·rw [tt, d1] at hv; have h1 := hkey b v hv; have h2 := h.told i hi b v (by rw [hE]; exact hv) (by rw [hE]; omega); rw [hE] at h2; rw [d1]; exact h2
theorem Saf.again {l : Lp} (h : Saf l) {i : Int} (hi : i = 0 ∨ i = 1) (hs : (againA (l.end_ i)).2 = 0) : Saf (becomesA l i (againA (l.end_ i)).1) := by
 obtain ⟨e, hE⟩ : ∃ e, l.end_ i = e := ⟨_, rfl⟩; have hg := h.ok.good i; rw [hE] at hs hg ⊢; obtain ⟨s1, s2⟩ := again_ok hg hs; obtain ⟨e', he'⟩ : ∃ e', (againA e).1 = e' := ⟨_, rfl⟩; rw [he'] at s1 s2 ⊢; have d1 : e'.life = e.life + 1 := by rw [s1]
 have d2 : e'.peer = 0 := by rw [s1]
 have hp' : e'.phase ≠ 3 := by rw [s1]; show ¬ (1 : Int) = 3; omega
 rw [becomes_closed hp']; obtain ⟨l', hl'⟩ : ∃ l', (l.setEnd i e').setNow i (-1) = l' := ⟨_, rfl⟩; have tt : l'.tales = l.tales := by rw [← hl', tales_setNow, tales_setEnd]
 have hno : ∀ b v0, tale l.tales i e'.life b = some v0 → False := fun b v0 hv => by
  have h1 := h.key i hi _ _ _ hv; rw [hE] at h1; omega
 rw [hl']; refine h.closed hi hE (e' := e') (by rw [← hl', end_setNow, end_same hi]) (by rw [← hl', end_setNow, end_other hi]) (by rw [← hl', wire_setNow, wire_setEnd]) (by rw [← hl', now_setNow hi hi, if_pos rfl]) (by rw [← hl', now_setNow hi (other_i hi), if_neg (by omega), now_setEnd]) s2 hp' (by omega) (by rw [d2]; have := (good_iff.1 (h.ok.good (1 - i))).life.1; omega)
  (fun j a b v hv => ⟨v, by rw [tt] at hv; exact hv, rfl, rfl⟩) (fun j a b v hv => ⟨v, by rw [tt]; exact hv, rfl, rfl⟩) (fun a b => by rw [tt]) (by rw [tt]; exact h.ord) (by rw [tt]; exact h.ends) (fun k v hk _ => by rw [tt]; exact hk) (fun b v0 hv => (hno b v0 hv).elim) (fun b v hv => ?_)
 rw [tt] at hv; exact (hno b v hv).elim
def overL (l : Lp) (i frm : Int) : Lp :=
 let r := overA (l.end_ i) frm
 let l1 := if 0 ≤ l.now i then { l with tales := setAt (fun t => { t with lost := t.lost ++ r.2 }) (l.now i).toNat l.tales } else l
 (l1.setEnd i r.1).setNow i (-1)
theorem Saf.over {l : Lp} (h : Saf l) {i : Int} (hi : i = 0 ∨ i = 1) {frm : Int} (h1 : (l.end_ i).peer < frm) (h2 : frm ≤ (l.end_ (1 - i)).life) (h3 : 1 ≤ frm) (h4 : frm ≤ most) : Saf (overL l i frm) := by
 obtain ⟨e, hE⟩ : ∃ e, l.end_ i = e := ⟨_, rfl⟩; have hg := h.ok.good i; rw [hE] at h1 hg; have hG := good_iff.1 hg; obtain ⟨r, hr⟩ : ∃ r, overA e frm = r := ⟨_, rfl⟩; have d1 : r.1.life = e.life := by rw [← hr]; rfl
 have d2 : r.1.peer = frm := by rw [← hr]; rfl
 have d3 : r.1.phase ≠ 3 := by rw [← hr]; show ¬ (2 : Int) = 3; omega
 have d4 : r.2 = (e.out.take (flyN e)).map (·.t) := by rw [← hr]; rfl
 have hg' : goodB r.1 = true := by rw [← hr]; exact good_iff.2 (over_good hG h3 h4)
 have hlow : ∀ b v0, tale l.tales i r.1.life b = some v0 → b < r.1.peer ∨ b ≤ r.1.peer ∧ b ≠ r.1.peer := fun b v0 hv => by
  rw [d1] at hv; have h5 := h.key i hi _ _ _ hv; rw [hE] at h5; have := (h5.2.2.2 rfl).1; omega
 unfold overL; simp only [hE, hr]; by_cases hp : e.phase = 3
 ·obtain ⟨k, t, a1, a2, a3, a4, a5, a6, a7⟩ := h.nowT hi (by rw [hE]; exact hp); have hc := h.cur i hi (by rw [hE]; exact hp); rw [hE] at a4 a5 a6 a7 hc; rw [if_pos (by omega), a1, Int.toNat_natCast]; obtain ⟨f, hf⟩ : ∃ f : Ta → Ta, (fun t => { t with lost := t.lost ++ r.2 } : Ta → Ta) = f := ⟨_, rfl⟩; have hft : ∀ v, (f v).end_ = v.end_ ∧ (f v).life = v.life ∧ (f v).peer = v.peer := fun v => by rw [← hf]; exact ⟨rfl, rfl, rfl⟩
  have hfs : ∀ v, (f v).sent = v.sent ∧ (f v).taken = v.taken ∧ (f v).lost = v.lost ++ r.2 := fun v => by rw [← hf]; exact ⟨rfl, rfl, rfl⟩
  rw [hf]; obtain ⟨l', hl'⟩ : ∃ l', (({ l with tales := setAt f k l.tales } : Lp).setEnd i r.1).setNow i (-1) = l' := ⟨_, rfl⟩; have tt : l'.tales = setAt f k l.tales := by rw [← hl', tales_setNow, tales_setEnd]
  have hT : ∀ j a b, tale l'.tales j a b = if isKey j a b t = true then some (f t) else tale l.tales j a b := fun j a b => by rw [tt]; exact tale_set h.ord a2 (hft t) j a b
  have hTt : ∀ j a b, isKey j a b t = true → tale l.tales j a b = some t := fun j a b hq => by
   obtain ⟨q1, q2, q3⟩ := isKey_iff.1 hq; rw [← q1, ← q2, ← q3, a3, a4, a5]; exact a7
  rw [hl']; refine h.closed hi hE (e' := r.1) (by rw [← hl', end_setNow, end_same hi]) (by rw [← hl', end_setNow, end_other hi]; rfl) (by rw [← hl', wire_setNow, wire_setEnd]) (by rw [← hl', now_setNow hi hi, if_pos rfl]) (by rw [← hl', now_setNow hi (other_i hi), if_neg (by omega), now_setEnd]; rfl) hg' d3 (by omega) (by rw [d2]; exact h2)
   (fun j a b v hv => ?_) (fun j a b v hv => ?_) (fun a b => ?_) (by rw [tt]; exact ord_set h.ord hft) (fun v hv => ?_) (fun k' t' q1 q2 => ?_) hlow (fun b v hv => ?_)
  ·rw [hT] at hv; by_cases hq : isKey j a b t = true
   ·rw [if_pos hq] at hv; injection hv with hv; exact ⟨t, hTt j a b hq, by rw [← hv]; exact (hfs t).1, by rw [← hv]; exact (hfs t).2.1⟩
   ·rw [if_neg hq] at hv; exact ⟨v, hv, rfl, rfl⟩
  ·rw [hT]; by_cases hq : isKey j a b t = true
   ·rw [hTt j a b hq] at hv; injection hv with hv; rw [if_pos hq]; exact ⟨_, rfl, by rw [← hv]; exact (hfs t).1, by rw [← hv]; exact (hfs t).2.1⟩
   ·rw [if_neg hq]; exact ⟨v, hv, rfl, rfl⟩
  ·rw [hT, if_neg]; intro hq; have := (isKey_iff.1 hq).1; omega
  ·rw [tt] at hv; rcases setAt_mem hv with q | ⟨x, hx, rfl⟩
   ·exact h.ends v q
   ·rw [(hft x).1]; exact h.ends x hx
  ·rw [tt, setAt_get, if_neg, q1]; intro e1; rw [e1, a2] at q1; injection q1 with e2; rw [← e2, a3] at q2; omega
  ·rw [d1] at hv ⊢; rw [hT] at hv; by_cases hq : isKey i e.life b t = true
   ·rw [if_pos hq] at hv; injection hv with hv; obtain ⟨_, _, q3⟩ := isKey_iff.1 hq; rw [← hv, (hfs t).1, (hfs t).2.2, d4]; have hl0 : t.lost = [] := by rw [← lostOf_some a7]; exact hc.lost
    have hb := hc.base; have hb0 := hG.base; rw [← a5, q3] at hb; have := (fly_le e).1; rw [hl0, List.nil_append, List.length_map, List.length_take]; omega
   ·rw [if_neg hq] at hv; have h7 := h.told i hi b v (by rw [hE]; exact hv) (by
     rw [hE]; intro e1; exact hq (isKey_iff.2 ⟨a3, a4, by rw [a5, e1]⟩))
    rw [hE] at h7; exact h7
 ·have hn := (h.now i hi).1 (by rw [hE]; exact hp); rw [if_neg (by rw [hn]; omega)]; obtain ⟨l', hl'⟩ : ∃ l', (l.setEnd i r.1).setNow i (-1) = l' := ⟨_, rfl⟩; have tt : l'.tales = l.tales := by rw [← hl', tales_setNow, tales_setEnd]
  rw [hl']; refine h.closed hi hE (e' := r.1) (by rw [← hl', end_setNow, end_same hi]) (by rw [← hl', end_setNow, end_other hi]) (by rw [← hl', wire_setNow, wire_setEnd]) (by rw [← hl', now_setNow hi hi, if_pos rfl]) (by rw [← hl', now_setNow hi (other_i hi), if_neg (by omega), now_setEnd]) hg' d3 (by omega) (by rw [d2]; exact h2)
   (fun j a b v hv => ⟨v, by rw [tt] at hv; exact hv, rfl, rfl⟩) (fun j a b v hv => ⟨v, by rw [tt]; exact hv, rfl, rfl⟩) (fun a b => by rw [tt]) (by rw [tt]; exact h.ord) (by rw [tt]; exact h.ends) (fun k v hk _ => by rw [tt]; exact hk) hlow (fun b v hv => ?_)
  rw [tt, d1] at hv; rw [d1]; have h5 := h.key i hi _ _ _ hv; rw [hE] at h5; have h6 := h5.2.2.2 rfl; have h7 := h.told i hi b v (by rw [hE]; exact hv) (by rw [hE]; intro e1; exact hp (h6.2 e1)); rw [hE] at h7; exact h7
theorem Saf.acked {l : Lp} (h : Saf l) {i : Int} (hi : i = 0 ∨ i = 1) {p : Pk} (hp : (l.end_ i).phase = 3) (h1 : p.frm = (l.end_ i).peer) (h2 : p.to = (l.end_ i).life) (hc0 : Wc l i p) {n : Nat} (hn : n ≤ flyN (l.end_ i)) : Saf (becomesA l i (ackedA (l.end_ i) p n)) := by
 obtain ⟨e, hE⟩ : ∃ e, l.end_ i = e := ⟨_, rfl⟩; have hg := h.ok.good i; rw [hE] at hg hp h1 h2 hn ⊢; have hG := good_iff.1 hg; have hc := h.cur i hi (by rw [hE]; exact hp); rw [hE] at hc; have hg' := good_iff.2 (acked_good hG hp p hn); have hfl := (fly_le e).1; have hwa := hc0.ack; rw [h1, h2] at hwa; have hhe := hc0.held; rw [h1, h2] at hhe; unfold ackedA at hg' ⊢; split
 ·rename_i hno; exact h.outs hi hE hp hg rfl rfl hp rfl rfl (Int.le_refl _) (by omega) (Int.le_refl _) hc.base (by rw [show (e.base - e.base).toNat = 0 by omega, List.drop_zero, show (e.base + (flyN e : Int) - e.base).toNat = flyN e by omega, ← List.map_take, List.take_take, Nat.min_self]) hc.held
 ·rename_i hno; rw [if_neg hno] at hg'; simp only at hg' ⊢; obtain ⟨g, hgg⟩ : ∃ g, (p.ack - e.base).toNat = g := ⟨_, rfl⟩; rw [hgg] at hg' ⊢; obtain ⟨e', he'⟩ : ∃ e', ({ e with out := markA p.held (n - g) 0 (e.out.drop g), base := p.ack } : En) = e' := ⟨_, rfl⟩; rw [he'] at hg' ⊢; have d3 : e'.phase = 3 := by rw [← he']; exact hp
  have d4 : e'.base = p.ack := by rw [← he']
  have d7 : e'.out = markA p.held (n - g) 0 (e.out.drop g) := by rw [← he']
  have hlen : e'.out.length = e.out.length - g := by rw [d7, markA_len, List.length_drop]
  have hf1 : flyN e = min e.out.length 4 := by unfold flyN; rw [if_pos hp]
  have hf2 : flyN e' = min (e.out.length - g) 4 := by unfold flyN; rw [if_pos d3, hlen]
  refine h.outs hi hE hp hg' (by rw [← he']) (by rw [← he']) d3 (by rw [← he']) (by rw [← he']) (by omega) (by omega) (by omega) (by rw [d4]; exact hwa) ?_ (fun k x hx hh => ?_)
  ·rw [d4, hgg, show (e.base + (flyN e : Int) - p.ack).toNat = flyN e - g by omega, List.map_take, d7, markA_texts, List.take_take, show min (flyN e - g) (flyN e') = flyN e - g by omega, List.map_drop, List.map_take, List.take_drop]; congr 1; rw [show g + (flyN e - g) = flyN e by omega]
  ·rw [d4]; rw [d7, markA_get, Option.map_eq_some_iff] at hx; obtain ⟨y, hy, rfl⟩ := hx; simp only [Nat.zero_add] at hh; by_cases hk : k = 0
   ·rw [if_pos hk] at hh; cases hh
   ·rw [if_neg hk] at hh; simp only [Bool.or_eq_true, Bool.and_eq_true, decide_eq_true_eq] at hh; rcases hh with hh | hh
    ·rw [List.getElem?_drop] at hy; have := hc.held (g + k) y hy hh; rw [show e.base + ((g + k : Nat) : Int) = p.ack + (k : Int) by omega] at this; exact this
    ·exact hhe k (by omega) hh.1.2 hh.2
theorem pre_snoc {a b : List ByteArray} (h : a <+: b) {x : ByteArray} (hx : b[a.length]? = some x) : a ++ [x] <+: b := by
 obtain ⟨c, rfl⟩ := h; rw [List.getElem?_append_right (Nat.le_refl _), Nat.sub_self] at hx; cases c with
 | nil => simp at hx
 | cons y c =>
  simp at hx; rw [hx]; exact ⟨c, by simp⟩
theorem takeIn_pre {S : List ByteArray} : ∀ (f : Nat) (l : List Im) (want : Int) (T : List ByteArray), 0 ≤ want → (T.length : Int) = want → T <+: S → (∀ x ∈ l, S[x.n.toNat]? = some x.t) →
  T ++ (takeIn f want l).2.2 <+: S ∧ ((T ++ (takeIn f want l).2.2).length : Int) = (takeIn f want l).1 ∧ (∀ x ∈ (takeIn f want l).2.1, x ∈ l) ∧ (∀ x ∈ l, x.n < (takeIn f want l).1 ∨ x ∈ (takeIn f want l).2.1)
 | 0, l, want, T, h0, h1, h2, h3 => by
  have : takeIn 0 want l = (want, l, []) := by cases l <;> rfl
  rw [this, List.append_nil]; exact ⟨h2, h1, fun x hx => hx, fun x hx => .inr hx⟩
 | f + 1, [], want, T, h0, h1, h2, h3 => by
  have : takeIn (f + 1) want [] = (want, [], []) := rfl; rw [this, List.append_nil]; exact ⟨h2, h1, fun x hx => hx, fun x hx => .inr hx⟩
 | f + 1, y :: l, want, T, h0, h1, h2, h3 => by
  rw [takeIn]; split
  ·rename_i he; have hy := h3 y List.mem_cons_self; rw [he, ← h1, Int.toNat_natCast] at hy; have ih := takeIn_pre f l (want + 1) (T ++ [y.t]) (by omega) (by rw [List.length_append]; simp; omega) (pre_snoc h2 hy) (fun x hx => h3 x (List.mem_cons_of_mem _ hx)); rw [List.append_assoc] at ih; simp only; refine ⟨ih.1, ih.2.1, fun x hx => List.mem_cons_of_mem _ (ih.2.2.1 x hx), fun x hx => ?_⟩; rcases List.mem_cons.1 hx with rfl | hx
   ·left; have := ih.2.1; rw [List.length_append] at this; simp at this; omega
   ·exact ih.2.2.2 x hx
  ·rw [List.append_nil]; exact ⟨h2, h1, fun x hx => hx, fun x hx => .inr hx⟩
theorem hasN_mem {l : List Im} {k : Int} : hasN l k = true ↔ ∃ x ∈ l, x.n = k := by
 unfold hasN; rw [List.any_eq_true]; constructor
 ·rintro ⟨x, hx, h⟩; exact ⟨x, hx, by simpa using h⟩
 ·rintro ⟨x, hx, h⟩; exact ⟨x, hx, by simpa using h⟩
theorem Saf.came {l : Lp} (h : Saf l) {i : Int} (hi : i = 0 ∨ i = 1) {p : Pk} (hp : (l.end_ i).phase = 3) (h1 : p.frm = (l.end_ i).peer) (h2 : p.to = (l.end_ i).life) (hk : p.kind = 2) (hpr : properB p = true) (hc0 : Wc l i p) :
  Saf { l.setEnd i (cameA (l.end_ i) p).1 with tales := setAt (fun t => { t with taken := t.taken ++ (cameA (l.end_ i) p).2 }) (l.now i).toNat l.tales } := by
 obtain ⟨e, hE⟩ : ∃ e, l.end_ i = e := ⟨_, rfl⟩; have hg := h.ok.good i; obtain ⟨k, t, a1, a2, a3, a4, a5, a6, a7⟩ := h.nowT hi hp; have hc := h.cur i hi hp; rw [hE] at hg hp h1 h2 a4 a5 a6 a7 hc ⊢; have hG := good_iff.1 hg; have hpd := proper_data hpr hk; have hg' := good_iff.2 (came_good hG hp (p := p) hpd.1 hpd.2); obtain ⟨b1, b2, b3, b4, b5⟩ := came_base e p; have htx := hc0.txt hk; rw [h1, h2] at htx; have hts := hc.taken; rw [takenOf_some a7] at hts; have hse := hc.sent; rw [sentOf_some a7] at hse; have hw0 := hG.want.1; have hpre := h.pre i hi e.life e.peer; rw [takenOf_some a7] at hpre; have key : (t.taken ++ (cameA e p).2 <+: sentOf l.tales (1 - i) e.peer e.life) ∧ ((t.taken ++ (cameA e p).2).length : Int) = (cameA e p).1.want ∧ (∀ x ∈ (cameA e p).1.inn, (sentOf l.tales (1 - i) e.peer e.life)[x.n.toNat]? = some x.t) ∧ (∀ m, hasN e.inn m = true → m < ((t.taken ++ (cameA e p).2).length : Int) ∨ hasN (cameA e p).1.inn m = true) := by
  unfold cameA; split
  ·simp only [List.append_nil]; exact ⟨hpre, hts, hc.inn, fun m hm => .inr hm⟩
  ·rename_i hno; simp only; have hm : ∀ x ∈ putA ⟨p.num, p.t⟩ e.inn, (sentOf l.tales (1 - i) e.peer e.life)[x.n.toNat]? = some x.t := fun x hx => by
    rcases (putA_mem _ _ _).1 hx with rfl | hx
    ·exact htx
    ·exact hc.inn x hx
   obtain ⟨c1, c2, c3, c4⟩ := takeIn_pre (e.inn.length + 1) (putA ⟨p.num, p.t⟩ e.inn) e.want t.taken hw0 hts hpre hm; refine ⟨c1, c2, fun x hx => hm x (c3 x hx), fun m hm' => ?_⟩; obtain ⟨x, hx, rfl⟩ := hasN_mem.1 hm'; rcases c4 x ((putA_mem _ _ _).2 (.inr hx)) with h5 | h5
   ·left; rw [c2]; exact h5
   ·exact .inr (hasN_mem.2 ⟨x, h5, rfl⟩)
 obtain ⟨k1, k2, k3, k4⟩ := key; rw [a1, Int.toNat_natCast]; have hfl : flyN (cameA e p).1 = flyN e := by unfold flyN; rw [b3, b2]
 exact h.same hi hE hg' b5 b4 (by rw [b3]; exact hp) a1 a2 a7 (f := fun t => { t with taken := t.taken ++ (cameA e p).2 }) (fun v => ⟨rfl, rfl, rfl⟩) (S := []) (T := (cameA e p).2) (by rw [List.append_nil]) rfl rfl
  (by rw [List.append_nil, b1, b2, hfl]; exact hse) (by rw [List.append_nil, b1, hfl]; exact a6) k2 (by rw [b1]; exact hc.base) (by rw [b1, b2]; exact hc.held) k3 k4 k1
end Go.Proofs.Ytejabnoidhlfaaa
