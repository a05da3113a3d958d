/- Safe lines: packets and deeds. -/
import Derived.Test.YtejabnoidhlfaaaDoorS44
import Derived.Test.YtejabnoidhlfaaaDoorS40

/- Safe lines stay safe: messages that are sent, acknowledged, taken; lives and sessions that end. -/
namespace Go.Proofs.YtejabnoidhlfaaaDoor

theorem markA_texts (held : Int) (n : Nat) : ∀ (l : List Ou) (i : Nat), (markA held n i l).map (·.t) = l.map (·.t)
 | [], i => rfl
 | x :: l, i => by rw [markA, List.map_cons, List.map_cons, markA_texts held n l (i + 1)]
/-- What an end has sent more of. -/
def moreA (e : En) (n : Nat) : List ByteArray := ((e.out.take (flyN e)).drop (n - e.base.toNat)).map (·.t)
theorem sentA_more (e : En) (t : Ta) : sentA e t = { t with sent := t.sent ++ moreA e t.sent.length } := rfl
/-- A step within a session in which nothing is taken. -/
theorem Saf.outs {l : Lp} (h : Saf l) {i : Int} (hi : i = 0 ∨ i = 1) {e e' : En} (hE : l.end_ i = e) (hp : e.phase = 3) (hg : goodB e' = true) (hl : e'.life = e.life) (hpr : e'.peer = e.peer) (hp' : e'.phase = 3) (hw : e'.want = e.want) (hin : e'.inn = e.inn)
  (b1 : e.base ≤ e'.base) (b2 : e'.base ≤ e.base + flyN e) (b3 : e.base + flyN e ≤ e'.base + flyN e') (cb : e'.base ≤ ((takenOf l.tales (1 - i) e.peer e.life).length : Int))
  (hx : ((e'.out.take (flyN e')).map (·.t)).take ((e.base + flyN e - e'.base).toNat) = ((e.out.take (flyN e)).map (·.t)).drop (e'.base - e.base).toNat)
  (ch : ∀ (k : Nat) (x : Ou), e'.out[k]? = some x → x.h = true → Got l (1 - i) e.peer e.life (e'.base + k)) : Saf (becomesA l i e') := by
 obtain ⟨k, t, a1, a2, a3, a4, a5, a6, a7⟩ := h.nowT hi (by rw [hE]; exact hp)
 have hc := h.cur i hi (by rw [hE]; exact hp)
 rw [hE] at a4 a5 a6 a7 hc
 have hG := good_iff.1 (h.ok.good i)
 rw [hE] at hG
 have hb := hG.base
 have hs : sameS (l.end_ i) e' := by rw [hE]; exact ⟨hp, hpr.symm, hl.symm⟩
 have hse := hc.sent
 rw [sentOf_some a7] at hse
 have htk := hc.taken
 rw [takenOf_some a7] at htk
 rw [becomes_same hi hp' hs, a1, Int.toNat_natCast]
 have hf' := (fly_le e').1
 have hml : (moreA e' t.sent.length).length = flyN e' - (t.sent.length - e'.base.toNat) := by
  unfold moreA
  rw [List.length_map, List.length_drop, List.length_take]
  omega
 have hd : t.sent.drop e'.base.toNat = ((e'.out.take (flyN e')).map (·.t)).take (t.sent.length - e'.base.toNat) := by
  have e1 : t.sent.drop e'.base.toNat = (t.sent.drop e.base.toNat).drop (e'.base - e.base).toNat := by rw [List.drop_drop]; congr 1; omega
  rw [e1, hse, ← hx]
  congr 1
  omega
 refine h.same hi hE hg hl hpr hp' a1 a2 a7 (f := sentA e') (fun v => ⟨rfl, rfl, rfl⟩) (S := moreA e' t.sent.length) (T := []) rfl (by rw [List.append_nil]; rfl) rfl ?_ ?_ ?_ cb ch (by rw [hin]; exact hc.inn) (fun m hm => by rw [hin]; exact .inr hm) ?_
 ·rw [List.drop_append_of_le_length (by omega), hd]
  unfold moreA
  rw [List.map_drop, List.take_append_drop]
 ·rw [List.length_append, hml]
  omega
 ·rw [List.append_nil, hw]; exact htk
 ·rw [List.append_nil, ← takenOf_some a7]
  exact h.pre i hi _ _
/-- A message is sent. -/
theorem Saf.send {l : Lp} (h : Saf l) {i : Int} (hi : i = 0 ∨ i = 1) {t : ByteArray} (hs : (sendA (l.end_ i) t).2.2 = 0) : Saf (becomesA l i (sendA (l.end_ i) t).1) := by
 obtain ⟨e, hE⟩ : ∃ e, l.end_ i = e := ⟨_, rfl⟩
 have hg := h.ok.good i
 rw [hE] at hs hg ⊢
 have hG := good_iff.1 hg
 obtain ⟨s1, s2, _⟩ := send_ok hg hs
 obtain ⟨e', he'⟩ : ∃ e', (sendA e t).1 = e' := ⟨_, rfl⟩
 rw [he'] at s1 s2 ⊢
 have d1 : e'.life = e.life := by rw [s1]
 have d2 : e'.peer = e.peer := by rw [s1]
 have d3 : e'.phase = e.phase := by rw [s1]
 have d4 : e'.base = e.base := by rw [s1]
 have d5 : e'.want = e.want := by rw [s1]
 have d6 : e'.inn = e.inn := by rw [s1]
 have d7 : e'.out = e.out ++ [⟨t, false⟩] := by rw [s1]
 have hfl := (fly_le e).1
 by_cases hp : e.phase = 3
 ·have hff : flyN e ≤ flyN e' := by
   unfold flyN
   rw [if_pos hp, if_pos (by rw [d3]; exact hp), d7, List.length_append]
   omega
  have hc := h.cur i hi (by rw [hE]; exact hp)
  rw [hE] at hc
  refine h.outs hi hE hp s2 d1 d2 (by rw [d3]; exact hp) d5 d6 (by omega) (by omega) (by omega) (by rw [d4]; exact hc.base) ?_ (fun k x hx hh => ?_)
  ·rw [d4, show (e.base - e.base).toNat = 0 by omega, List.drop_zero, show (e.base + (flyN e : Int) - e.base).toNat = flyN e by omega, ← List.map_take, List.take_take, show min (flyN e) (flyN e') = flyN e by omega, d7, List.take_append_of_le_length hfl]
  ·rw [d4]
   rw [d7] at hx
   by_cases hk : k < e.out.length
   ·rw [List.getElem?_append_left hk] at hx
    exact hc.held k x hx hh
   ·rw [List.getElem?_append_right (by omega)] at hx
    have := (List.getElem?_eq_some_iff.1 hx).1
    simp at this
    rw [show k - e.out.length = 0 by omega] at hx
    simp at hx
    rw [← hx] at hh
    cases hh
 ·have hp' : e'.phase ≠ 3 := by rw [d3]; exact hp
  rw [becomes_closed hp']
  obtain ⟨l', hl'⟩ : ∃ l', (l.setEnd i e').setNow i (-1) = l' := ⟨_, rfl⟩
  have tt : l'.tales = l.tales := by rw [← hl', tales_setNow, tales_setEnd]
  have hkey : ∀ b v0, tale l.tales i e.life b = some v0 → b < e.peer := fun b v0 hv => by
   have h1 := h.key i hi _ _ _ hv
   rw [hE] at h1
   have h2 := h1.2.2.2 rfl
   by_cases h3 : b = e.peer
   ·exact absurd (h2.2 h3) hp
   ·omega
  rw [hl']
  refine h.closed hi hE (e' := e') (by rw [← hl', end_setNow, end_same hi]) (by rw [← hl', end_setNow, end_other hi]) (by rw [← hl', wire_setNow, wire_setEnd]) (by rw [← hl', now_setNow hi hi, if_pos rfl]) (by rw [← hl', now_setNow hi (other_i hi), if_neg (by omega), now_setEnd]) s2 hp' (by omega) (by rw [d2]; have := h.ok.peer hi; rw [hE] at this; exact this)
   (fun j a b v hv => ⟨v, by rw [tt] at hv; exact hv, rfl, rfl⟩) (fun j a b v hv => ⟨v, by rw [tt]; exact hv, rfl, rfl⟩) (fun a b => by rw [tt]) (by rw [tt]; exact h.ord) (by rw [tt]; exact h.ends) (fun k v hk _ => by rw [tt]; exact hk) (fun b v0 hv => ?_) (fun b v hv => ?_)
  ·rw [d1] at hv
   have := hkey b v0 hv
   omega
  ·rw [tt, d1] at hv
   have h1 := hkey b v hv
   have h2 := h.told i hi b v (by rw [hE]; exact hv) (by rw [hE]; omega)
   rw [hE] at h2
   rw [d1]
   exact h2
/-- The next life. -/
theorem Saf.again {l : Lp} (h : Saf l) {i : Int} (hi : i = 0 ∨ i = 1) (hs : (againA (l.end_ i)).2 = 0) : Saf (becomesA l i (againA (l.end_ i)).1) := by
 obtain ⟨e, hE⟩ : ∃ e, l.end_ i = e := ⟨_, rfl⟩
 have hg := h.ok.good i
 rw [hE] at hs hg ⊢
 obtain ⟨s1, s2⟩ := again_ok hg hs
 obtain ⟨e', he'⟩ : ∃ e', (againA e).1 = e' := ⟨_, rfl⟩
 rw [he'] at s1 s2 ⊢
 have d1 : e'.life = e.life + 1 := by rw [s1]
 have d2 : e'.peer = 0 := by rw [s1]
 have hp' : e'.phase ≠ 3 := by rw [s1]; show ¬ (1 : Int) = 3; omega
 rw [becomes_closed hp']
 obtain ⟨l', hl'⟩ : ∃ l', (l.setEnd i e').setNow i (-1) = l' := ⟨_, rfl⟩
 have tt : l'.tales = l.tales := by rw [← hl', tales_setNow, tales_setEnd]
 have hno : ∀ b v0, tale l.tales i e'.life b = some v0 → False := fun b v0 hv => by
  have h1 := h.key i hi _ _ _ hv
  rw [hE] at h1
  omega
 rw [hl']
 refine h.closed hi hE (e' := e') (by rw [← hl', end_setNow, end_same hi]) (by rw [← hl', end_setNow, end_other hi]) (by rw [← hl', wire_setNow, wire_setEnd]) (by rw [← hl', now_setNow hi hi, if_pos rfl]) (by rw [← hl', now_setNow hi (other_i hi), if_neg (by omega), now_setEnd]) s2 hp' (by omega) (by rw [d2]; have := (good_iff.1 (h.ok.good (1 - i))).life.1; omega)
  (fun j a b v hv => ⟨v, by rw [tt] at hv; exact hv, rfl, rfl⟩) (fun j a b v hv => ⟨v, by rw [tt]; exact hv, rfl, rfl⟩) (fun a b => by rw [tt]) (by rw [tt]; exact h.ord) (by rw [tt]; exact h.ends) (fun k v hk _ => by rw [tt]; exact hk) (fun b v0 hv => (hno b v0 hv).elim) (fun b v hv => ?_)
 rw [tt] at hv
 exact (hno b v hv).elim
/-- A session is over: what is lost is told, the end has met a later life. -/
def overL (l : Lp) (i frm : Int) : Lp :=
 let r := overA (l.end_ i) frm
 let l1 := if 0 ≤ l.now i then { l with tales := setAt (fun t => { t with lost := t.lost ++ r.2 }) (l.now i).toNat l.tales } else l
 (l1.setEnd i r.1).setNow i (-1)
theorem Saf.over {l : Lp} (h : Saf l) {i : Int} (hi : i = 0 ∨ i = 1) {frm : Int} (h1 : (l.end_ i).peer < frm) (h2 : frm ≤ (l.end_ (1 - i)).life) (h3 : 1 ≤ frm) (h4 : frm ≤ most) : Saf (overL l i frm) := by
 obtain ⟨e, hE⟩ : ∃ e, l.end_ i = e := ⟨_, rfl⟩
 have hg := h.ok.good i
 rw [hE] at h1 hg
 have hG := good_iff.1 hg
 obtain ⟨r, hr⟩ : ∃ r, overA e frm = r := ⟨_, rfl⟩
 have d1 : r.1.life = e.life := by rw [← hr]; rfl
 have d2 : r.1.peer = frm := by rw [← hr]; rfl
 have d3 : r.1.phase ≠ 3 := by rw [← hr]; show ¬ (2 : Int) = 3; omega
 have d4 : r.2 = (e.out.take (flyN e)).map (·.t) := by rw [← hr]; rfl
 have hg' : goodB r.1 = true := by rw [← hr]; exact good_iff.2 (over_good hG h3 h4)
 have hlow : ∀ b v0, tale l.tales i r.1.life b = some v0 → b < r.1.peer ∨ b ≤ r.1.peer ∧ b ≠ r.1.peer := fun b v0 hv => by
  rw [d1] at hv
  have h5 := h.key i hi _ _ _ hv
  rw [hE] at h5
  have := (h5.2.2.2 rfl).1
  omega
 unfold overL
 simp only [hE, hr]
 by_cases hp : e.phase = 3
 ·obtain ⟨k, t, a1, a2, a3, a4, a5, a6, a7⟩ := h.nowT hi (by rw [hE]; exact hp)
  have hc := h.cur i hi (by rw [hE]; exact hp)
  rw [hE] at a4 a5 a6 a7 hc
  rw [if_pos (by omega), a1, Int.toNat_natCast]
  obtain ⟨f, hf⟩ : ∃ f : Ta → Ta, (fun t => { t with lost := t.lost ++ r.2 } : Ta → Ta) = f := ⟨_, rfl⟩
  have hft : ∀ v, (f v).end_ = v.end_ ∧ (f v).life = v.life ∧ (f v).peer = v.peer := fun v => by rw [← hf]; exact ⟨rfl, rfl, rfl⟩
  have hfs : ∀ v, (f v).sent = v.sent ∧ (f v).taken = v.taken ∧ (f v).lost = v.lost ++ r.2 := fun v => by rw [← hf]; exact ⟨rfl, rfl, rfl⟩
  rw [hf]
  obtain ⟨l', hl'⟩ : ∃ l', (({ l with tales := setAt f k l.tales } : Lp).setEnd i r.1).setNow i (-1) = l' := ⟨_, rfl⟩
  have tt : l'.tales = setAt f k l.tales := by rw [← hl', tales_setNow, tales_setEnd]
  have hT : ∀ j a b, tale l'.tales j a b = if isKey j a b t = true then some (f t) else tale l.tales j a b := fun j a b => by rw [tt]; exact tale_set h.ord a2 (hft t) j a b
  have hTt : ∀ j a b, isKey j a b t = true → tale l.tales j a b = some t := fun j a b hq => by
   obtain ⟨q1, q2, q3⟩ := isKey_iff.1 hq
   rw [← q1, ← q2, ← q3, a3, a4, a5]; exact a7
  rw [hl']
  refine h.closed hi hE (e' := r.1) (by rw [← hl', end_setNow, end_same hi]) (by rw [← hl', end_setNow, end_other hi]; rfl) (by rw [← hl', wire_setNow, wire_setEnd]) (by rw [← hl', now_setNow hi hi, if_pos rfl]) (by rw [← hl', now_setNow hi (other_i hi), if_neg (by omega), now_setEnd]; rfl) hg' d3 (by omega) (by rw [d2]; exact h2)
   (fun j a b v hv => ?_) (fun j a b v hv => ?_) (fun a b => ?_) (by rw [tt]; exact ord_set h.ord hft) (fun v hv => ?_) (fun k' t' q1 q2 => ?_) hlow (fun b v hv => ?_)
  ·rw [hT] at hv
   by_cases hq : isKey j a b t = true
   ·rw [if_pos hq] at hv
    injection hv with hv
    exact ⟨t, hTt j a b hq, by rw [← hv]; exact (hfs t).1, by rw [← hv]; exact (hfs t).2.1⟩
   ·rw [if_neg hq] at hv
    exact ⟨v, hv, rfl, rfl⟩
  ·rw [hT]
   by_cases hq : isKey j a b t = true
   ·rw [hTt j a b hq] at hv
    injection hv with hv
    rw [if_pos hq]
    exact ⟨_, rfl, by rw [← hv]; exact (hfs t).1, by rw [← hv]; exact (hfs t).2.1⟩
   ·rw [if_neg hq]
    exact ⟨v, hv, rfl, rfl⟩
  ·rw [hT, if_neg]
   intro hq
   have := (isKey_iff.1 hq).1
   omega
  ·rw [tt] at hv
   rcases setAt_mem hv with q | ⟨x, hx, rfl⟩
   ·exact h.ends v q
   ·rw [(hft x).1]; exact h.ends x hx
  ·rw [tt, setAt_get, if_neg, q1]
   intro e1
   rw [e1, a2] at q1
   injection q1 with e2
   rw [← e2, a3] at q2
   omega
  ·rw [d1] at hv ⊢
   rw [hT] at hv
   by_cases hq : isKey i e.life b t = true
   ·rw [if_pos hq] at hv
    injection hv with hv
    obtain ⟨_, _, q3⟩ := isKey_iff.1 hq
    rw [← hv, (hfs t).1, (hfs t).2.2, d4]
    have hl0 : t.lost = [] := by rw [← lostOf_some a7]; exact hc.lost
    have hb := hc.base
    have hb0 := hG.base
    rw [← a5, q3] at hb
    have := (fly_le e).1
    rw [hl0, List.nil_append, List.length_map, List.length_take]
    omega
   ·rw [if_neg hq] at hv
    have h7 := h.told i hi b v (by rw [hE]; exact hv) (by
     rw [hE]
     intro e1
     exact hq (isKey_iff.2 ⟨a3, a4, by rw [a5, e1]⟩))
    rw [hE] at h7
    exact h7
 ·have hn := (h.now i hi).1 (by rw [hE]; exact hp)
  rw [if_neg (by rw [hn]; omega)]
  obtain ⟨l', hl'⟩ : ∃ l', (l.setEnd i r.1).setNow i (-1) = l' := ⟨_, rfl⟩
  have tt : l'.tales = l.tales := by rw [← hl', tales_setNow, tales_setEnd]
  rw [hl']
  refine h.closed hi hE (e' := r.1) (by rw [← hl', end_setNow, end_same hi]) (by rw [← hl', end_setNow, end_other hi]) (by rw [← hl', wire_setNow, wire_setEnd]) (by rw [← hl', now_setNow hi hi, if_pos rfl]) (by rw [← hl', now_setNow hi (other_i hi), if_neg (by omega), now_setEnd]) hg' d3 (by omega) (by rw [d2]; exact h2)
   (fun j a b v hv => ⟨v, by rw [tt] at hv; exact hv, rfl, rfl⟩) (fun j a b v hv => ⟨v, by rw [tt]; exact hv, rfl, rfl⟩) (fun a b => by rw [tt]) (by rw [tt]; exact h.ord) (by rw [tt]; exact h.ends) (fun k v hk _ => by rw [tt]; exact hk) hlow (fun b v hv => ?_)
  rw [tt, d1] at hv
  rw [d1]
  have h5 := h.key i hi _ _ _ hv
  rw [hE] at h5
  have h6 := h5.2.2.2 rfl
  have h7 := h.told i hi b v (by rw [hE]; exact hv) (by rw [hE]; intro e1; exact hp (h6.2 e1))
  rw [hE] at h7
  exact h7
/-- A packet acknowledges messages. -/
theorem Saf.acked {l : Lp} (h : Saf l) {i : Int} (hi : i = 0 ∨ i = 1) {p : Pk} (hp : (l.end_ i).phase = 3) (h1 : p.frm = (l.end_ i).peer) (h2 : p.to = (l.end_ i).life) (hc0 : Wc l i p) {n : Nat} (hn : n ≤ flyN (l.end_ i)) : Saf (becomesA l i (ackedA (l.end_ i) p n)) := by
 obtain ⟨e, hE⟩ : ∃ e, l.end_ i = e := ⟨_, rfl⟩
 have hg := h.ok.good i
 rw [hE] at hg hp h1 h2 hn ⊢
 have hG := good_iff.1 hg
 have hc := h.cur i hi (by rw [hE]; exact hp)
 rw [hE] at hc
 have hg' := good_iff.2 (acked_good hG hp p hn)
 have hfl := (fly_le e).1
 have hwa := hc0.ack
 rw [h1, h2] at hwa
 have hhe := hc0.held
 rw [h1, h2] at hhe
 unfold ackedA at hg' ⊢
 split
 ·rename_i hno
  exact h.outs hi hE hp hg rfl rfl hp rfl rfl (Int.le_refl _) (by omega) (Int.le_refl _) hc.base (by rw [show (e.base - e.base).toNat = 0 by omega, List.drop_zero, show (e.base + (flyN e : Int) - e.base).toNat = flyN e by omega, ← List.map_take, List.take_take, Nat.min_self]) hc.held
 ·rename_i hno
  rw [if_neg hno] at hg'
  simp only at hg' ⊢
  obtain ⟨g, hgg⟩ : ∃ g, (p.ack - e.base).toNat = g := ⟨_, rfl⟩
  rw [hgg] at hg' ⊢
  obtain ⟨e', he'⟩ : ∃ e', ({ e with out := markA p.held (n - g) 0 (e.out.drop g), base := p.ack } : En) = e' := ⟨_, rfl⟩
  rw [he'] at hg' ⊢
  have d3 : e'.phase = 3 := by rw [← he']; exact hp
  have d4 : e'.base = p.ack := by rw [← he']
  have d7 : e'.out = markA p.held (n - g) 0 (e.out.drop g) := by rw [← he']
  have hlen : e'.out.length = e.out.length - g := by rw [d7, markA_len, List.length_drop]
  have hf1 : flyN e = min e.out.length 4 := by unfold flyN; rw [if_pos hp]
  have hf2 : flyN e' = min (e.out.length - g) 4 := by unfold flyN; rw [if_pos d3, hlen]
  refine h.outs hi hE hp hg' (by rw [← he']) (by rw [← he']) d3 (by rw [← he']) (by rw [← he']) (by omega) (by omega) (by omega) (by rw [d4]; exact hwa) ?_ (fun k x hx hh => ?_)
  ·rw [d4, hgg, show (e.base + (flyN e : Int) - p.ack).toNat = flyN e - g by omega, List.map_take, d7, markA_texts, List.take_take, show min (flyN e - g) (flyN e') = flyN e - g by omega, List.map_drop, List.map_take, List.take_drop]
   congr 1
   rw [show g + (flyN e - g) = flyN e by omega]
  ·rw [d4]
   rw [d7, markA_get, Option.map_eq_some_iff] at hx
   obtain ⟨y, hy, rfl⟩ := hx
   simp only [Nat.zero_add] at hh
   by_cases hk : k = 0
   ·rw [if_pos hk] at hh; cases hh
   ·rw [if_neg hk] at hh
    simp only [Bool.or_eq_true, Bool.and_eq_true, decide_eq_true_eq] at hh
    rcases hh with hh | hh
    ·rw [List.getElem?_drop] at hy
     have := hc.held (g + k) y hy hh
     rw [show e.base + ((g + k : Nat) : Int) = p.ack + (k : Int) by omega] at this
     exact this
    ·exact hhe k (by omega) hh.1.2 hh.2
theorem pre_snoc {a b : List ByteArray} (h : a <+: b) {x : ByteArray} (hx : b[a.length]? = some x) : a ++ [x] <+: b := by
 obtain ⟨c, rfl⟩ := h
 rw [List.getElem?_append_right (Nat.le_refl _), Nat.sub_self] at hx
 cases c with
 | nil => simp at hx
 | cons y c =>
  simp at hx
  rw [hx]
  exact ⟨c, by simp⟩
/-- What is taken is the next of what was sent. -/
theorem takeIn_pre {S : List ByteArray} : ∀ (f : Nat) (l : List Im) (want : Int) (T : List ByteArray), 0 ≤ want → (T.length : Int) = want → T <+: S → (∀ x ∈ l, S[x.n.toNat]? = some x.t) →
  T ++ (takeIn f want l).2.2 <+: S ∧ ((T ++ (takeIn f want l).2.2).length : Int) = (takeIn f want l).1 ∧ (∀ x ∈ (takeIn f want l).2.1, x ∈ l) ∧ (∀ x ∈ l, x.n < (takeIn f want l).1 ∨ x ∈ (takeIn f want l).2.1)
 | 0, l, want, T, h0, h1, h2, h3 => by
  have : takeIn 0 want l = (want, l, []) := by cases l <;> rfl
  rw [this, List.append_nil]
  exact ⟨h2, h1, fun x hx => hx, fun x hx => .inr hx⟩
 | f + 1, [], want, T, h0, h1, h2, h3 => by
  have : takeIn (f + 1) want [] = (want, [], []) := rfl
  rw [this, List.append_nil]
  exact ⟨h2, h1, fun x hx => hx, fun x hx => .inr hx⟩
 | f + 1, y :: l, want, T, h0, h1, h2, h3 => by
  rw [takeIn]
  split
  ·rename_i he
   have hy := h3 y List.mem_cons_self
   rw [he, ← h1, Int.toNat_natCast] at hy
   have ih := takeIn_pre f l (want + 1) (T ++ [y.t]) (by omega) (by rw [List.length_append]; simp; omega) (pre_snoc h2 hy) (fun x hx => h3 x (List.mem_cons_of_mem _ hx))
   rw [List.append_assoc] at ih
   simp only
   refine ⟨ih.1, ih.2.1, fun x hx => List.mem_cons_of_mem _ (ih.2.2.1 x hx), fun x hx => ?_⟩
   rcases List.mem_cons.1 hx with rfl | hx
   ·left
    have := ih.2.1
    rw [List.length_append] at this
    simp at this
    omega
   ·exact ih.2.2.2 x hx
  ·rw [List.append_nil]
   exact ⟨h2, h1, fun x hx => hx, fun x hx => .inr hx⟩
theorem hasN_mem {l : List Im} {k : Int} : hasN l k = true ↔ ∃ x ∈ l, x.n = k := by
 unfold hasN
 rw [List.any_eq_true]
 constructor
 ·rintro ⟨x, hx, h⟩
  exact ⟨x, hx, by simpa using h⟩
 ·rintro ⟨x, hx, h⟩
  exact ⟨x, hx, by simpa using h⟩
/-- A message comes. -/
theorem Saf.came {l : Lp} (h : Saf l) {i : Int} (hi : i = 0 ∨ i = 1) {p : Pk} (hp : (l.end_ i).phase = 3) (h1 : p.frm = (l.end_ i).peer) (h2 : p.to = (l.end_ i).life) (hk : p.kind = 2) (hpr : properB p = true) (hc0 : Wc l i p) :
  Saf { l.setEnd i (cameA (l.end_ i) p).1 with tales := setAt (fun t => { t with taken := t.taken ++ (cameA (l.end_ i) p).2 }) (l.now i).toNat l.tales } := by
 obtain ⟨e, hE⟩ : ∃ e, l.end_ i = e := ⟨_, rfl⟩
 have hg := h.ok.good i
 obtain ⟨k, t, a1, a2, a3, a4, a5, a6, a7⟩ := h.nowT hi hp
 have hc := h.cur i hi hp
 rw [hE] at hg hp h1 h2 a4 a5 a6 a7 hc ⊢
 have hG := good_iff.1 hg
 have hpd := proper_data hpr hk
 have hg' := good_iff.2 (came_good hG hp (p := p) hpd.1 hpd.2)
 obtain ⟨b1, b2, b3, b4, b5⟩ := came_base e p
 have htx := hc0.txt hk
 rw [h1, h2] at htx
 have hts := hc.taken
 rw [takenOf_some a7] at hts
 have hse := hc.sent
 rw [sentOf_some a7] at hse
 have hw0 := hG.want.1
 have hpre := h.pre i hi e.life e.peer
 rw [takenOf_some a7] at hpre
 have key : (t.taken ++ (cameA e p).2 <+: sentOf l.tales (1 - i) e.peer e.life) ∧ ((t.taken ++ (cameA e p).2).length : Int) = (cameA e p).1.want ∧ (∀ x ∈ (cameA e p).1.inn, (sentOf l.tales (1 - i) e.peer e.life)[x.n.toNat]? = some x.t) ∧ (∀ m, hasN e.inn m = true → m < ((t.taken ++ (cameA e p).2).length : Int) ∨ hasN (cameA e p).1.inn m = true) := by
  unfold cameA
  split
  ·simp only [List.append_nil]
   exact ⟨hpre, hts, hc.inn, fun m hm => .inr hm⟩
  ·rename_i hno
   simp only
   have hm : ∀ x ∈ putA ⟨p.num, p.t⟩ e.inn, (sentOf l.tales (1 - i) e.peer e.life)[x.n.toNat]? = some x.t := fun x hx => by
    rcases (putA_mem _ _ _).1 hx with rfl | hx
    ·exact htx
    ·exact hc.inn x hx
   obtain ⟨c1, c2, c3, c4⟩ := takeIn_pre (e.inn.length + 1) (putA ⟨p.num, p.t⟩ e.inn) e.want t.taken hw0 hts hpre hm
   refine ⟨c1, c2, fun x hx => hm x (c3 x hx), fun m hm' => ?_⟩
   obtain ⟨x, hx, rfl⟩ := hasN_mem.1 hm'
   rcases c4 x ((putA_mem _ _ _).2 (.inr hx)) with h5 | h5
   ·left; rw [c2]; exact h5
   ·exact .inr (hasN_mem.2 ⟨x, h5, rfl⟩)
 obtain ⟨k1, k2, k3, k4⟩ := key
 rw [a1, Int.toNat_natCast]
 have hfl : flyN (cameA e p).1 = flyN e := by unfold flyN; rw [b3, b2]
 exact h.same hi hE hg' b5 b4 (by rw [b3]; exact hp) a1 a2 a7 (f := fun t => { t with taken := t.taken ++ (cameA e p).2 }) (fun v => ⟨rfl, rfl, rfl⟩) (S := []) (T := (cameA e p).2) (by rw [List.append_nil]) rfl rfl
  (by rw [List.append_nil, b1, b2, hfl]; exact hse) (by rw [List.append_nil, b1, hfl]; exact a6) k2 (by rw [b1]; exact hc.base) (by rw [b1, b2]; exact hc.held) k3 k4 k1
end Go.Proofs.YtejabnoidhlfaaaDoor

/- Safe lines stay safe: a packet is carried; deeds. -/
namespace Go.Proofs.YtejabnoidhlfaaaDoor

theorem setAt_same {α : Type} {f : α → α} : ∀ (l : List α) (k : Nat), (∀ x, l[k]? = some x → f x = x) → setAt f k l = l
 | [], k, h => by simp [setAt]
 | x :: l, 0, h => by rw [setAt, h x rfl]
 | x :: l, k + 1, h => by rw [setAt, setAt_same l k (fun y hy => h y (by simpa using hy))]
theorem setEnd_self {l : Lp} {i : Int} (hi : i = 0 ∨ i = 1) : l.setEnd i (l.end_ i) = l := by rcases hi with rfl | rfl <;> rfl
theorem setEnd_twice {l : Lp} {i : Int} (e e' : En) : (l.setEnd i e).setEnd i e' = l.setEnd i e' := by unfold Lp.setEnd; split <;> rfl
theorem setNow_self {l : Lp} {i : Int} (hi : i = 0 ∨ i = 1) {n : Int} (h : l.now i = n) : l.setNow i n = l := by
 subst h
 rcases hi with rfl | rfl <;> rfl
/-- Nothing more is sent. -/
theorem becomes_quiet {l : Lp} (hn : NowOk l) {i : Int} (hi : i = 0 ∨ i = 1) {e' : En} (hp' : e'.phase = 3) (hs : sameS (l.end_ i) e') (hb : 0 ≤ e'.base) (hsum : e'.base + flyN e' = (l.end_ i).base + flyN (l.end_ i)) : becomesA l i e' = l.setEnd i e' := by
 obtain ⟨k, t, a1, a2, a3, a4, a5, a6⟩ := (hn i hi).2 hs.1
 rw [becomes_same hi hp' hs, a1, Int.toNat_natCast, setAt_same]
 ·show ({ l.setEnd i e' with tales := l.tales } : Lp) = _
  unfold Lp.setEnd
  split <;> rfl
 ·intro x hx
  rw [a2] at hx
  injection hx with hx
  subst hx
  have h1 := (fly_le e').1
  unfold sentA
  rw [List.drop_eq_nil_of_le (by rw [List.length_take]; omega), List.map_nil, List.append_nil]
theorem becomes_self {l : Lp} (hn : NowOk l) {i : Int} (hi : i = 0 ∨ i = 1) (hG : GoodP (l.end_ i)) : becomesA l i (l.end_ i) = l := by
 by_cases hp : (l.end_ i).phase = 3
 ·rw [becomes_quiet hn hi hp ⟨hp, rfl, rfl⟩ hG.base rfl, setEnd_self hi]
 ·rw [becomes_closed hp, setEnd_self hi, setNow_self hi ((hn i hi).1 hp)]
def tellB (l : Lp) (i : Int) (e : En) (tk : List ByteArray) : Lp :=
 let l1 := becomesA l i e
 if 0 ≤ l1.now i then { l1 with tales := setAt (fun t => { t with taken := t.taken ++ tk }) (l1.now i).toNat l1.tales } else l1
theorem tell_way (l : Lp) (i : Int) (e : En) (g : Gn) : tellA l i e g = wayA (tellB l i e g.taken) i g.packets := rfl
theorem tellB_nil (l : Lp) (i : Int) (e : En) : tellB l i e [] = becomesA l i e := by
 unfold tellB
 simp only
 split
 ·rw [setAt_same _ _ (fun x _ => by simp)]
 ·rfl
theorem tellB_end {l : Lp} {i : Int} (hi : i = 0 ∨ i = 1) (e : En) (tk : List ByteArray) : (tellB l i e tk).end_ i = e ∧ (tellB l i e tk).end_ (1 - i) = l.end_ (1 - i) := by
 have h1 : (becomesA l i e).end_ (1 - i) = l.end_ (1 - i) := by
  have hb := becomes_e l i e
  have h2 := end_other (l := l) hi e
  rcases hi with rfl | rfl
  ·show (becomesA l 0 e).e1 = _
   rw [hb.2.1]; exact h2
  ·show (becomesA l 1 e).e0 = _
   rw [hb.1]; exact h2
 unfold tellB
 simp only
 split
 ·exact ⟨becomes_end hi e, h1⟩
 ·exact ⟨becomes_end hi e, h1⟩
def lostL (l : Lp) (i : Int) (ls : List ByteArray) : Lp := if 0 ≤ l.now i then { l with tales := setAt (fun t => { t with lost := t.lost ++ ls }) (l.now i).toNat l.tales } else l
theorem lostL_nil (l : Lp) (i : Int) : lostL l i [] = l := by
 unfold lostL
 split
 ·rw [setAt_same _ _ (fun x _ => by simp)]
 ·rfl
theorem lostL_end (l : Lp) (i j : Int) (ls : List ByteArray) : (lostL l i ls).end_ j = l.end_ j := by unfold lostL; split <;> rfl
theorem overL_eq (l : Lp) (i frm : Int) : overL l i frm = ((lostL l i (overA (l.end_ i) frm).2).setEnd i (overA (l.end_ i) frm).1).setNow i (-1) := rfl
/-- What is behind a packet that is taken, but for the wire. -/
def takenL (l : Lp) (i : Int) (p : Pk) : Lp := tellB (lostL l i (takeA (l.end_ i) p).2.1.lost) i (takeA (l.end_ i) p).1 (takeA (l.end_ i) p).2.1.taken
theorem carry_way {l : Lp} {k : Nat} {x : Tp} (hx : l.wire[k]? = some x) : carryA l k = wayA (takenL { l with wire := l.wire.eraseIdx k } x.to x.p) x.to (takeA (l.end_ x.to) x.p).2.1.packets := by
 unfold carryA
 rw [hx]
 rfl
/-- A session begins with a packet: the line as if the session began before. -/
theorem becomes_open {l : Lp} {i : Int} (hi : i = 0 ∨ i = 1) {e1 e2 e4 : En} (h1 : e1.phase ≠ 3) (h2 : e2.phase = 3) (h4 : e4.phase = 3) (hl : e4.life = e2.life) (hp : e4.peer = e2.peer) (hs : ¬ sameS (l.end_ i) e4) (hm : moreA e4 0 = moreA e2 0) :
  becomesA l i e4 = (becomesA ((l.setEnd i e1).setNow i (-1)) i e2).setEnd i e4 := by
 have hs2 : ¬ sameS (((l.setEnd i e1).setNow i (-1)).end_ i) e2 := by
  rw [end_setNow, end_same hi]
  exact fun h => h1 h.1
 rw [becomes_new hi h4 hs, becomes_new hi h2 hs2, tales_setNow, tales_setEnd, hl, hp]
 have hse : sentA e4 ⟨i, e2.life, e2.peer, [], [], []⟩ = sentA e2 ⟨i, e2.life, e2.peer, [], [], []⟩ := by
  rw [sentA_more, sentA_more]
  show Ta.mk _ _ _ ([] ++ moreA e4 0) _ _ = Ta.mk _ _ _ ([] ++ moreA e2 0) _ _
  rw [hm]
 rw [hse]
 rcases hi with rfl | rfl <;> rfl
theorem wc_other {l l' : Lp} {i : Int} {p : Pk} (h : Wc l i p) (he : l'.end_ (1 - i) = l.end_ (1 - i)) (ht : ∀ a b, tale l'.tales (1 - i) a b = tale l.tales (1 - i) a b) : Wc l' i p := by
 have h1 : ∀ a b, sentOf l'.tales (1 - i) a b = sentOf l.tales (1 - i) a b := fun a b => by unfold sentOf; rw [ht]
 have h2 : ∀ a b, takenOf l'.tales (1 - i) a b = takenOf l.tales (1 - i) a b := fun a b => by unfold takenOf; rw [ht]
 refine ⟨by rw [ht]; exact h.tale, by rw [h2]; exact h.ack, fun k a b c => ?_, fun hk => by rw [h1]; exact h.txt hk⟩
 have := h.held k a b c
 unfold Got at this ⊢
 rw [ht, he, h2]
 exact this
theorem find_keep {ts us : List Ta} {j a b : Int} (h : us.filter (fun t => t.end_ == j) = ts.filter (fun t => t.end_ == j)) : tale us j a b = tale ts j a b := by
 have key : ∀ l : List Ta, tale l j a b = (l.filter (fun t => t.end_ == j)).find? (isKey j a b) := by
  intro l
  unfold tale
  induction l with
  | nil => rfl
  | cons x l ih =>
   rw [List.find?_cons, List.filter_cons]
   by_cases hx : x.end_ = j
   ·rw [if_pos (by simpa using hx), List.find?_cons, ih]
   ·rw [if_neg (by simpa using hx)]
    have : isKey j a b x = false := by
     cases hq : isKey j a b x with
     | false => rfl
     | true => exact absurd (isKey_iff.1 hq).1 hx
    rw [this, ih]
 rw [key, key, h]
theorem filter_setAt {f : Ta → Ta} (hf : ∀ t, (f t).end_ = t.end_) {j : Int} : ∀ (l : List Ta) (k : Nat), (∀ t, l[k]? = some t → t.end_ ≠ j) → (setAt f k l).filter (fun t => t.end_ == j) = l.filter (fun t => t.end_ == j)
 | [], k, _ => by simp [setAt]
 | x :: l, 0, h => by
  have hx := h x rfl
  have h1 : (x.end_ == j) = false := by simpa using hx
  have h2 : ((f x).end_ == j) = false := by rw [hf]; exact h1
  rw [setAt, List.filter_cons, List.filter_cons, h1, h2]
  rfl
 | x :: l, k + 1, h => by
  rw [setAt, List.filter_cons, List.filter_cons, filter_setAt hf l k (fun t ht => h t (by simpa using ht))]
/-- A step of one end leaves the tales of the other one. -/
theorem becomes_other {l : Lp} (hn : NowOk l) {i : Int} (hi : i = 0 ∨ i = 1) (e : En) (a b : Int) : tale (becomesA l i e).tales (1 - i) a b = tale l.tales (1 - i) a b := by
 refine find_keep ?_
 by_cases hp : e.phase = 3
 ·by_cases hs : sameS (l.end_ i) e
  ·obtain ⟨k, t, a1, a2, a3, _⟩ := (hn i hi).2 hs.1
   rw [becomes_same hi hp hs, a1, Int.toNat_natCast]
   refine filter_setAt (f := sentA e) (fun t => rfl) l.tales k (fun v hv => ?_)
   rw [a2] at hv
   injection hv with hv
   rw [← hv, a3]
   omega
  ·rw [becomes_new hi hp hs]
   show (l.tales ++ [_]).filter _ = _
   rw [List.filter_append]
   have : ((sentA e ⟨i, e.life, e.peer, [], [], []⟩).end_ == 1 - i) = false := by
    show (i == 1 - i) = false
    rw [beq_eq_false_iff_ne]
    omega
   rw [List.filter_cons, this]
   simp
 ·rw [becomes_closed hp, tales_setNow, tales_setEnd]
theorem over_other {l : Lp} (hn : NowOk l) {i : Int} (hi : i = 0 ∨ i = 1) (frm a b : Int) : tale (overL l i frm).tales (1 - i) a b = tale l.tales (1 - i) a b := by
 refine find_keep ?_
 rw [overL_eq, tales_setNow, tales_setEnd]
 unfold lostL
 split
 ·refine filter_setAt (f := fun t => { t with lost := t.lost ++ (overA (l.end_ i) frm).2 }) (fun t => rfl) l.tales _ (fun v hv => ?_)
  by_cases hp : (l.end_ i).phase = 3
  ·obtain ⟨k, t, a1, a2, a3, _⟩ := (hn i hi).2 hp
   rw [a1, Int.toNat_natCast, a2] at hv
   injection hv with hv
   rw [← hv, a3]
   omega
  ·have := (hn i hi).1 hp
   omega
 ·rfl
theorem over_ends {l : Lp} {i : Int} (hi : i = 0 ∨ i = 1) (frm : Int) : (overL l i frm).end_ i = (overA (l.end_ i) frm).1 ∧ (overL l i frm).end_ (1 - i) = l.end_ (1 - i) := by
 rw [overL_eq, end_setNow, end_setNow, end_same hi, end_other hi, lostL_end]
 exact ⟨rfl, rfl⟩
theorem becomes_ends {l : Lp} {i : Int} (hi : i = 0 ∨ i = 1) (e : En) : (becomesA l i e).end_ i = e ∧ (becomesA l i e).end_ (1 - i) = l.end_ (1 - i) := by
 have := tellB_end (l := l) hi e []
 rw [tellB_nil] at this
 exact this
theorem moreA_eq {e e' : En} (n : Nat) (h1 : e'.base = e.base) (h2 : flyN e' = flyN e) (h3 : e'.out.map (·.t) = e.out.map (·.t)) : moreA e' n = moreA e n := by
 unfold moreA
 rw [List.map_drop, List.map_drop, List.map_take, List.map_take, h1, h2, h3]
theorem acked_zero (e : En) (p : Pk) : (ackedA e p 0).base = e.base ∧ flyN (ackedA e p 0) = flyN e ∧ (ackedA e p 0).out.map (·.t) = e.out.map (·.t) := by
 unfold ackedA
 split
 ·exact ⟨rfl, rfl, rfl⟩
 ·have h1 : (p.ack - e.base).toNat = 0 := by omega
  rw [h1]
  refine ⟨by show p.ack = _; omega, ?_, ?_⟩
  ·unfold flyN
   simp only [List.drop_zero, markA_len]
  ·simp only [List.drop_zero, markA_texts]
theorem proper_kind {p : Pk} (hp : properB p = true) : p.kind = 1 ∨ p.kind = 2 ∨ p.kind = 3 := by
 unfold properB at hp
 simp only [Bool.and_eq_true] at hp
 obtain ⟨_, hp⟩ := hp
 split at hp
 ·left; assumption
 ·split at hp
  ·right; left; assumption
  ·split at hp
   ·right; right; assumption
   ·cases hp
/-- A packet of the present session is taken. -/
theorem Saf.mine {l : Lp} (h : Saf l) {i : Int} (hi : i = 0 ∨ i = 1) {p : Pk} (hpr : properB p = true) (hc : p.kind ≠ 1 → Wc l i p) (hp : (l.end_ i).phase = 3) (h1 : p.frm = (l.end_ i).peer) (h2 : p.to = (l.end_ i).life) {n : Nat} (hn : n ≤ flyN (l.end_ i)) :
  (p.kind = 3 → Saf (becomesA l i (ackedA (l.end_ i) p n))) ∧ (p.kind = 2 → Saf (tellB l i (cameA (ackedA (l.end_ i) p n) p).1 (cameA (ackedA (l.end_ i) p n) p).2)) := by
 refine ⟨fun hk => h.acked hi hp h1 h2 (hc (by omega)) hn, fun hk => ?_⟩
 have hw := hc (by omega)
 have hA := h.acked hi hp h1 h2 hw hn
 obtain ⟨_, _, a3, a4, a5⟩ := acked_base (l.end_ i) p n
 obtain ⟨e3, he3⟩ : ∃ e3, ackedA (l.end_ i) p n = e3 := ⟨_, rfl⟩
 rw [he3] at hA a3 a4 a5 ⊢
 obtain ⟨b1, b2⟩ := becomes_ends (l := l) hi e3
 have hC := hA.came hi (p := p) (by rw [b1, a5]; exact hp) (by rw [b1, a4]; exact h1) (by rw [b1, a3]; exact h2) hk hpr (wc_other hw b2 (becomes_other h.now hi e3))
 rw [b1] at hC
 obtain ⟨c1, c2, c3, c4, c5⟩ := came_base e3 p
 obtain ⟨e4, he4⟩ : ∃ e4, (cameA e3 p).1 = e4 := ⟨_, rfl⟩
 rw [he4] at hC c1 c2 c3 c4 c5 ⊢
 have hp3 : e3.phase = 3 := by rw [a5]; exact hp
 have hs3 : sameS (l.end_ i) e3 := ⟨hp, a4.symm, a3.symm⟩
 have hs4 : sameS (l.end_ i) e4 := ⟨hp, by rw [c4]; exact a4.symm, by rw [c5]; exact a3.symm⟩
 have hfl : flyN e4 = flyN e3 := by unfold flyN; rw [c3, c2]
 have hse : sentA e4 = sentA e3 := by
  funext t
  rw [sentA_more, sentA_more, moreA_eq _ c1 hfl (by rw [c2])]
 obtain ⟨k, t, q1, _⟩ := (h.now i hi).2 hp
 have hB4 : becomesA l i e4 = { (becomesA l i e3).setEnd i e4 with tales := (becomesA l i e3).tales } := by
  rw [becomes_same hi (by rw [c3]; exact hp3) hs4, becomes_same hi hp3 hs3, hse]
  rcases hi with rfl | rfl <;> rfl
 have hN : (becomesA l i e4).now i = (k : Int) := by
  rw [becomes_same hi (by rw [c3]; exact hp3) hs4, now_tales, now_setEnd]
  exact q1
 have hN3 : (becomesA l i e3).now i = (k : Int) := by
  rw [becomes_same hi hp3 hs3, now_tales, now_setEnd]
  exact q1
 rw [hN3] at hC
 unfold tellB
 simp only
 rw [hN, if_pos (by omega), hB4]
 exact hC
/-- A session begins with a packet. -/
theorem Saf.opens {lX lP : Lp} (HP : Saf lP) {i : Int} (hi : i = 0 ∨ i = 1) {e1 : En} (hlP : (lX.setEnd i e1).setNow i (-1) = lP) (hns : ¬ ((lX.end_ i).phase = 3 ∧ (lX.end_ i).peer = e1.peer)) (hp : e1.phase = 2) {p : Pk} (hpr : properB p = true) (hc : p.kind ≠ 1 → Wc lP i p) (h1 : p.frm = e1.peer) (h2 : (p.to == e1.life) = true) (ls : List ByteArray) :
  Saf (tellB lX i (takeB e1 ls p).1 (takeB e1 ls p).2.1.taken) := by
 have hPe : lP.end_ i = e1 := by rw [← hlP, end_setNow, end_same hi]
 have hto : p.to = e1.life := by simpa using h2
 have ho : openE e1 = { lP.end_ i with phase := 3 } := by rw [hPe]; unfold openE; rw [if_pos (by simpa using hp)]
 have hQ := HP.open_ hi (by rw [hPe]; exact hp)
 rw [← ho] at hQ
 obtain ⟨e2, he2⟩ : ∃ e2, openE e1 = e2 := ⟨_, rfl⟩
 obtain ⟨o1, o2, o3, o4, o5⟩ := open_base e1
 rw [if_pos hp] at o5
 rw [he2] at hQ o1 o2 o3 o4 o5
 obtain ⟨lQ, hlQ⟩ : ∃ lQ, becomesA lP i e2 = lQ := ⟨_, rfl⟩
 have hq := becomes_ends (l := lP) hi e2
 have hqt := becomes_other HP.now hi e2
 rw [hlQ] at hQ hq hqt
 have hf0 : flyN e1 = 0 := by unfold flyN; rw [if_neg (by omega)]
 have hp3 : e1.phase ≠ 3 := by omega
 have hgo : ∀ e4 : En, e4.phase = 3 → e4.life = e2.life → e4.peer = e2.peer → moreA e4 0 = moreA e2 0 → becomesA lX i e4 = lQ.setEnd i e4 := fun e4 a1 a2 a3 a4 => by
  rw [becomes_open hi hp3 o5 a1 a2 a3 (fun hs => hns ⟨hs.1, by rw [hs.2.1, a3, o4]⟩) a4, hlP, hlQ]
 have hcQ : p.kind ≠ 1 → Wc lQ i p := fun hk => wc_other (hc hk) hq.2 hqt
 have hm := hQ.mine hi hpr hcQ (by rw [hq.1]; exact o5) (by rw [hq.1, o4]; exact h1) (by rw [hq.1, o3]; exact hto) (Nat.zero_le _)
 rw [hq.1] at hm
 obtain ⟨z1, z2, z3⟩ := acked_zero e2 p
 obtain ⟨_, _, a3, a4, a5⟩ := acked_base e2 p 0
 have hG2 := good_iff.1 (hQ.ok.good i)
 rw [hq.1] at hG2
 rcases proper_kind hpr with hk | hk | hk
 ·rw [tb_hello h2 hk, he2]
  simp only
  rw [tellB_nil, hgo e2 o5 rfl rfl rfl, ← hq.1, setEnd_self hi]
  exact hQ
 ·rw [tb_data h2 hk, he2, hf0]
  simp only
  have hS := hm.2 hk
  obtain ⟨e3, he3⟩ : ∃ e3, ackedA e2 p 0 = e3 := ⟨_, rfl⟩
  rw [he3] at hS z1 z2 z3 a3 a4 a5 ⊢
  obtain ⟨c1, c2, c3, c4, c5⟩ := came_base e3 p
  have hfl : flyN (cameA e3 p).1 = flyN e3 := by unfold flyN; rw [c3, c2]
  have b1 : becomesA lX i (cameA e3 p).1 = lQ.setEnd i (cameA e3 p).1 := hgo _ (by rw [c3, a5]; exact o5) (by rw [c5, a3]) (by rw [c4, a4]) (moreA_eq _ (by rw [c1, z1]) (by rw [hfl, z2]) (by rw [c2, z3]))
  have b2 : becomesA lQ i (cameA e3 p).1 = lQ.setEnd i (cameA e3 p).1 := becomes_quiet hQ.now hi (by rw [c3, a5]; exact o5) (by rw [hq.1]; exact ⟨o5, by rw [c4, a4], by rw [c5, a3]⟩) (by rw [c1, z1]; exact hG2.base) (by rw [hq.1, c1, z1, hfl, z2])
  unfold tellB at hS ⊢
  rw [b2] at hS
  rw [b1]
  exact hS
 ·rw [tb_ack h2 hk, he2, hf0]
  simp only
  have hS := hm.1 hk
  rw [tellB_nil, hgo _ (by rw [a5]; exact o5) a3 a4 (moreA_eq _ z1 z2 z3)]
  rw [becomes_quiet hQ.now hi (by rw [a5]; exact o5) (by rw [hq.1]; exact ⟨o5, a4.symm, a3.symm⟩) (by rw [z1]; exact hG2.base) (by rw [hq.1, z1, z2])] at hS
  exact hS
/-- A packet is taken. -/
theorem Saf.take {l : Lp} (h : Saf l) {i : Int} (hi : i = 0 ∨ i = 1) {p : Pk} (hpr : properB p = true) (hfr : p.frm ≤ (l.end_ (1 - i)).life) (hc : p.kind ≠ 1 → Wc l i p) : Saf (takenL l i p) := by
 obtain ⟨e, hE⟩ : ∃ e, l.end_ i = e := ⟨_, rfl⟩
 have hg := h.ok.good i
 have hself := becomes_self h.now hi (good_iff.1 hg)
 unfold takenL
 rw [hE] at hg hself ⊢
 have hG := good_iff.1 hg
 have hf := proper_from hpr
 by_cases hd : p.frm < e.peer
 ·rw [tk_old hg hpr hd]
  simp only [noGn]
  rw [lostL_nil, tellB_nil, hself]
  exact h
 ·obtain ⟨e1, ls, ho⟩ : ∃ e1 ls, (if e.peer < p.frm then overA e p.frm else (e, [])) = (e1, ls) := ⟨_, _, rfl⟩
  rw [tk_go hg hpr hd ho]
  have hls : (takeB e1 ls p).2.1.lost = ls := rfl
  rw [hls]
  rcases over_eq e p with ⟨h1, h2⟩ | ⟨h1, h2⟩
  ·rw [h2] at ho
   have hA : (overA e p.frm).1 = e1 := by rw [ho]
   have hB : (overA e p.frm).2 = ls := by rw [ho]
   have HP := h.over hi (frm := p.frm) (by rw [hE]; exact h1) hfr hf.1 hf.2.1
   have hoe := over_ends (l := l) hi p.frm
   have hot := over_other h.now hi p.frm
   rw [overL_eq, hE, hA, hB] at HP hoe hot
   have hp2 : e1.phase = 2 := by rw [← hA]; rfl
   have hpe : e1.peer = p.frm := by rw [← hA]; rfl
   cases hm : (p.to == e1.life) with
   | false =>
    rw [tb_foreign hm]
    simp only
    rw [tellB_nil, becomes_closed (by omega)]
    exact HP
   | true => exact HP.opens hi rfl (by rw [lostL_end, hE]; intro hq; have := hq.2; omega) hp2 hpr (fun hk => wc_other (hc hk) hoe.2 hot) hpe.symm hm ls
  ·rw [h2] at ho
   injection ho with h3 h4
   subst h3 h4
   rw [lostL_nil]
   have hpe : p.frm = e.peer := by omega
   cases hm : (p.to == e.life) with
   | false =>
    rw [tb_foreign hm]
    simp only
    rw [tellB_nil, hself]
    exact h
   | true =>
    have hto : p.to = e.life := by simpa using hm
    by_cases hp : e.phase = 3
    ·have ho : openE e = e := by unfold openE; rw [if_neg (by simp; omega)]
     have hM := h.mine hi hpr hc (by rw [hE]; exact hp) (by rw [hE]; exact hpe) (by rw [hE]; exact hto) (Nat.le_refl _)
     rw [hE] at hM
     rcases proper_kind hpr with hk | hk | hk
     ·rw [tb_hello hm hk, ho]
      simp only
      rw [tellB_nil, hself]
      exact h
     ·rw [tb_data hm hk, ho]
      exact hM.2 hk
     ·rw [tb_ack hm hk, ho]
      simp only
      rw [tellB_nil]
      exact hM.1 hk
    ·have hp2 : e.phase = 2 := by
      have := (hG.cl hp).2.2.2
      omega
     have hlP : (l.setEnd i e).setNow i (-1) = l := by rw [← hE, setEnd_self hi, setNow_self hi ((h.now i hi).1 (by rw [hE]; exact hp))]
     exact h.opens hi hlP (by rw [hE]; exact fun hq => hp hq.1) hp2 hpr hc hpe hm []
/-- The packets that come of a packet. -/
theorem take_shapes {e : En} {p : Pk} (hg : goodB e = true) (hp : properB p = true) {q : Pk} (hq : q ∈ (takeA e p).2.1.packets) : q = helloA (takeA e p).1 ∨ (∃ n, q ∈ fromA (takeA e p).1 n) ∨ (q = reportA (takeA e p).1 ∧ (takeA e p).1.phase = 3) := by
 by_cases hd : p.frm < e.peer
 ·rw [tk_old hg hp hd] at hq
  cases hq
 ·obtain ⟨e1, ls, ho⟩ : ∃ e1 ls, (if e.peer < p.frm then overA e p.frm else (e, [])) = (e1, ls) := ⟨_, _, rfl⟩
  have hph : e1.phase ≠ 1 := by
   rcases over_eq e p with ⟨h1, h2⟩ | ⟨h1, h2⟩
   ·rw [h2] at ho
    have hA : (overA e p.frm).1 = e1 := by rw [ho]
    rw [← hA]
    show ¬ (2 : Int) = 1
    omega
   ·rw [h2] at ho
    injection ho with h3 _
    subst h3
    intro h5
    have := ((good_iff.1 hg).cl (by omega)).2.2.2
    have := (proper_from hp).1
    omega
  rw [tk_go hg hp hd ho] at hq ⊢
  have hG : goodB e1 = true := by
   rcases over_eq e p with ⟨h1, h2⟩ | ⟨h1, h2⟩
   ·rw [h2] at ho
    have hA : (overA e p.frm).1 = e1 := by rw [ho]
    rw [← hA]
    exact good_iff.2 (over_good (good_iff.1 hg) (proper_from hp).1 (proper_from hp).2.1)
   ·rw [h2] at ho
    injection ho with h3 _
    subst h3
    exact hg
  cases hm : (p.to == e1.life) with
  | false =>
   rw [tb_foreign hm] at hq ⊢
   simp only [List.nil_append, List.mem_append, List.mem_singleton] at hq ⊢
   rcases hq with hq | hq
   ·exact .inl hq
   ·exact .inr (.inl ⟨_, hq⟩)
  | true =>
   have hop : (openE e1).phase = 3 := by
    have := (open_base e1).2.2.2.2
    rw [this]
    split
    ·rfl
    ·rename_i h2
     by_cases h3 : e1.phase = 3
     ·exact h3
     ·have := ((good_iff.1 hG).cl h3).2.2.2
      omega
   rcases proper_kind hp with hk | hk | hk
   ·rw [tb_hello hm hk] at hq ⊢
    simp only [List.nil_append, List.mem_append] at hq ⊢
    rcases hq with hq | hq
    ·exact .inr (.inl ⟨_, hq⟩)
    ·split at hq
     ·simp at hq
      exact .inr (.inr ⟨hq, hop⟩)
     ·cases hq
   ·rw [tb_data hm hk] at hq ⊢
    simp only [List.nil_append, List.mem_append, List.mem_singleton] at hq ⊢
    rcases hq with hq | hq
    ·exact .inr (.inl ⟨_, hq⟩)
    ·refine .inr (.inr ⟨hq, ?_⟩)
     rw [(came_base _ p).2.2.1, (acked_base _ p _).2.2.2.2]
     exact hop
   ·rw [tb_ack hm hk] at hq ⊢
    simp only [List.nil_append] at hq ⊢
    exact .inr (.inl ⟨_, hq⟩)
theorem takenL_ends {l : Lp} {i : Int} (hi : i = 0 ∨ i = 1) (p : Pk) : (takenL l i p).end_ i = (takeA (l.end_ i) p).1 ∧ (takenL l i p).end_ (1 - i) = l.end_ (1 - i) := by
 unfold takenL
 obtain ⟨h1, h2⟩ := tellB_end (l := lostL l i (takeA (l.end_ i) p).2.1.lost) hi (takeA (l.end_ i) p).1 (takeA (l.end_ i) p).2.1.taken
 exact ⟨h1, by rw [h2, lostL_end]⟩
/-- A packet is carried. -/
theorem Saf.carry {l : Lp} (h : Saf l) {k : Nat} (hk : k < l.wire.length) : Saf (carryA l k) := by
 obtain ⟨x, hx⟩ : ∃ x, l.wire[k]? = some x := ⟨_, List.getElem?_eq_getElem hk⟩
 have hm := List.mem_of_getElem? hx
 have ht := h.ok.wire x hm
 have hto : x.to = 0 ∨ x.to = 1 := by
  rcases ht.2 with h | h
  ·exact .inl h.1
  ·exact .inr h.1
 have hfr : x.p.frm ≤ (l.end_ (1 - x.to)).life := by
  rcases ht.2 with ⟨h1, h2⟩ | ⟨h1, h2⟩
  ·rw [h1]; exact h2
  ·rw [h1]; exact h2
 rw [carry_way hx]
 have h0 : Saf { l with wire := l.wire.eraseIdx k } := h.wires (fr := l.free) (fun y hy => .inl (List.mem_of_mem_eraseIdx hy))
 have hL := h0.take hto ht.1 hfr (fun hk => (h.wire x hm hk).wires _ l.free)
 obtain ⟨e1, e2⟩ := takenL_ends (l := { l with wire := l.wire.eraseIdx k }) hto x.p
 have hend : ({ l with wire := l.wire.eraseIdx k } : Lp).end_ x.to = l.end_ x.to := rfl
 rw [hend] at e1
 have hg := h.ok.good x.to
 have hw4 := (take_weight hg ht.1 hfr (h.ok.peer hto))
 refine hL.way hto (fun q hq => ⟨(hw4.2.2.2.1 q hq).1, by rw [e1, hw4.1]; exact (hw4.2.2.2.1 q hq).2, fun hk => ?_⟩)
 rcases take_shapes hg ht.1 hq with h1 | ⟨n, h1⟩ | ⟨h1, h2⟩
 ·rw [h1] at hk
  exact absurd rfl hk
 ·rw [← e1] at h1
  exact (hL.from_ hto h1).2.2 hk
 ·rw [← e1] at h1 h2
  rw [h1]
  exact hL.report hto h2 3 0 emptyT (fun h => by cases h)
theorem Saf.tick {l : Lp} (h : Saf l) {i : Int} (hi : i = 0 ∨ i = 1) : Saf (wayA l i (tickA (l.end_ i)).1) := by
 have hg := h.ok.good i
 have ht := tick_ok hg
 refine h.way hi (fun q hq => ⟨(ht.2 q hq).1, (ht.2 q hq).2, fun hk => ?_⟩)
 unfold tickA at hq
 rw [hg] at hq
 simp only [Bool.true_eq_false, if_false] at hq
 by_cases hp : (l.end_ i).phase = 3
 ·rw [if_neg (by simpa using hp)] at hq
  rcases List.mem_append.1 hq with hq | hq
  ·obtain ⟨j, hj, rfl⟩ := List.mem_map.1 hq
   have := freeIx_lt _ _ _ hj
   rw [List.length_take] at this
   exact h.data hi hp (by omega)
  ·simp at hq
   subst hq
   exact h.report hi hp 3 0 emptyT (fun h => by cases h)
 ·rw [if_pos hp] at hq
  simp at hq
  subst hq
  exact absurd rfl hk
theorem Saf.does {l : Lp} (h : Saf l) {d : Dd} (hd : deedB d = true) : Saf (doesA l d) := by
 have hi := deed_end hd
 unfold doesA
 simp only
 split
 ·split
  ·rename_i hs
   have hb := h.send hi hs
   have he := (becomes_ends (l := l) hi (sendA (l.end_ d.end_) d.t).1).1
   obtain ⟨_, _, s3⟩ := send_ok (h.ok.good d.end_) hs
   refine hb.way hi (fun q hq => ⟨(s3 q hq).1, ?_, fun hk => ?_⟩)
   ·rw [he, (send_ok (h.ok.good d.end_) hs).1]
    exact (s3 q hq).2
   ·have hg := h.ok.good d.end_
    have hP : (sendA (l.end_ d.end_) d.t).2.1 = fromA (sendA (l.end_ d.end_) d.t).1 (flyN (l.end_ d.end_)) := by
     unfold sendA at hs ⊢
     rw [hg] at hs ⊢
     simp only [Bool.true_eq_false, if_false] at hs ⊢
     split at hs
     ·simp at hs
     ·rename_i hc
      rw [if_neg hc]
    rw [hP] at hq
    have hq' : q ∈ fromA ((becomesA l d.end_ (sendA (l.end_ d.end_) d.t).1).end_ d.end_) (flyN (l.end_ d.end_)) := by rw [he]; exact hq
    exact (hb.from_ hi hq').2.2 hk
  ·exact h
 ·split
  ·exact h.tick hi
  ·split
   ·split
    ·rename_i hs
     exact h.again hi hs
    ·exact h
   ·split
    ·exact h
    ·rename_i hw
     split
     ·refine h.carry ?_
      have h2 := Int.emod_lt_of_pos d.at_ (show (0 : Int) < (l.wire.length : Int) by omega)
      have h1 := Int.emod_nonneg d.at_ (show (l.wire.length : Int) ≠ 0 by omega)
      omega
     ·split
      ·exact h.wires (fr := l.free) (fun y hy => .inl (List.mem_of_mem_eraseIdx hy))
      ·split
       ·exact h
       ·rename_i x hx
        have hm := List.mem_of_getElem? hx
        have ht := h.ok.wire x hm
        rw [way_eq]
        refine h.wires (fr := l.free) (fun y hy => ?_)
        rcases List.mem_append.1 hy with hy | hy
        ·exact .inl hy
        ·obtain ⟨q, hq, rfl⟩ := List.mem_map.1 hy
         have hq' := List.mem_of_mem_take hq
         simp at hq'
         subst hq'
         rw [other_ne]
         exact .inl hm
theorem first_saf : Saf firstA := by
 refine ⟨first_ok, first_k.now, List.Pairwise.nil, fun t ht => (by cases ht), fun i _ a b t ht => (by cases ht), fun i _ a b => List.nil_prefix, fun i hi hp => ?_, fun i _ b t ht => (by cases ht), fun x hx => (by cases hx)⟩
 rcases hi with rfl | rfl <;> cases hp
theorem folds_saf : ∀ (m : List Dd) (x : Lp), (∀ d ∈ m, deedB d = true) → Saf x → Saf (m.foldl doesA x)
 | [], _, _, hx => hx
 | d :: m, x, hm, hx => folds_saf m (doesA x d) (fun y hy => hm y (List.mem_cons_of_mem _ hy)) (hx.does (hm d List.mem_cons_self))
theorem played_saf {ds : List Dd} (h : (playedA ds).2 = 0) : Saf (playedA ds).1 := by
 obtain ⟨_, _, _, _, h5, h6⟩ := played_k h
 rw [h6]
 exact folds_saf ds firstA h5 first_saf
end Go.Proofs.YtejabnoidhlfaaaDoor
