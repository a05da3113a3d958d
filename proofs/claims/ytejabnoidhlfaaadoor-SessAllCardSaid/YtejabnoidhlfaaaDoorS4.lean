/- The weight of a line falls. -/
import Derived.Test.YtejabnoidhlfaaaDoorS3

/- What a packet costs: a quiet round comes to an end. -/
namespace Go.Proofs.YtejabnoidhlfaaaDoor

def wgt (own cur : Bool) (kind : Int) : Nat := (if kind = 2 then 1 else 0) + (if own then 1 else 2) + (if cur then 0 else 1)
/-- The weight of a packet that goes to an end with the life L, of which the other one has the life L'. -/
def pw (L L' : Int) (p : Pk) : Nat := wgt (p.to == L) (p.frm == L') p.kind
def pws (L L' : Int) (l : List Pk) : Nat := (l.map (pw L L')).sum
/-- What an end may still do. -/
def pot (L' : Int) (e : En) : Nat := 3 * (e.out.length - flyN e) + 3 * (2 * (L' - e.peer).toNat + (if e.phase = 3 then 0 else 1))

theorem pws_app (L L' : Int) (a b : List Pk) : pws L L' (a ++ b) = pws L L' a + pws L L' b := by simp [pws]
theorem pws_nil (L L' : Int) : pws L L' [] = 0 := rfl
theorem pws_one (L L' : Int) (p : Pk) : pws L L' [p] = pw L L' p := by simp [pws]
theorem fromA_len (e : En) (i : Nat) : (fromA e i).length = flyN e - i := by simp [fromA]
theorem fromA_mem {e : En} {i : Nat} {q : Pk} (h : q ∈ fromA e i) : ∃ j, i ≤ j ∧ j < flyN e ∧ q = dataA e j := by
 unfold fromA at h
 obtain ⟨j, hj, rfl⟩ := List.mem_map.1 h
 obtain ⟨k, hk⟩ := List.getElem?_of_mem hj
 rw [List.getElem?_drop] at hk
 obtain ⟨hl, hk⟩ := List.getElem?_eq_some_iff.1 hk
 simp at hl hk
 exact ⟨j, by omega, by omega, rfl⟩
theorem from_weight (L L' : Int) (e : En) (i : Nat) (hf : e.life = L') : pws L L' (fromA e i) ≤ (flyN e - i) * (if e.peer = L then 2 else 3) := by
 have hgen : ∀ l : List Nat, pws L L' (l.map (dataA e)) ≤ l.length * (if e.peer = L then 2 else 3) := by
  intro l
  induction l with
  | nil => simp [pws]
  | cons x l ih =>
   have e1 : pws L L' ((x :: l).map (dataA e)) = pw L L' (dataA e x) + pws L L' (l.map (dataA e)) := by simp [pws]
   have e2 : pw L L' (dataA e x) = (if e.peer = L then 2 else 3) := by
    unfold pw wgt dataA
    simp only [hf, beq_self_eq_true, if_true]
    by_cases h : e.peer = L
    ·simp [h]
    ·have : (e.peer == L) = false := by simpa using h
     simp [h, this]
   rw [e1, e2, List.length_cons, Nat.add_mul, Nat.one_mul]
   omega
 have := hgen ((List.range (flyN e)).drop i)
 simpa [fromA] using this
theorem data_proper {e : En} (h : GoodP e) (hp : e.phase = 3) {i : Nat} (hi : i < flyN e) : properB (dataA e i) = true := by
 have hf := fly_le e
 have ho := h.op hp
 have hb := bits_bd e
 have hl := h.len
 have hr := h.room
 have hx : e.out[i]? = some e.out[i] := List.getElem?_eq_getElem (by omega)
 have ht := (h.outs i _ hx).1
 have e0 : properB (dataA e i) = (decide (1 ≤ e.life) && decide (e.life ≤ most) && decide (0 ≤ e.peer) && decide (e.peer ≤ most) && (decide (0 < e.peer) && decide (0 ≤ e.base + i) && decide (e.base + i < most) && decide ((e.out.getD i ⟨emptyT, false⟩).t.size ≤ 20) && decide (0 ≤ e.want) && decide (e.want ≤ most) && decide (0 ≤ bitsA e) && decide (bitsA e ≤ 7))) := rfl
 rw [e0]
 simp only [Bool.and_eq_true, decide_eq_true_eq]
 have e1 : (e.out.getD i ⟨emptyT, false⟩).t = e.out[i].t := by simp [List.getD, hx]
 rw [e1]
 refine ⟨⟨⟨⟨h.life.1, h.life.2⟩, h.peer.1⟩, h.peer.2⟩, ⟨⟨⟨⟨⟨⟨ho.1, ?_⟩, ?_⟩, ht⟩, h.want.1⟩, h.want.2⟩, hb.1⟩, hb.2⟩
 ·have := h.base; omega
 ·omega
theorem report_proper {e : En} (h : GoodP e) (hp : 0 < e.peer) : properB (reportA e) = true := by
 have hb := bits_bd e
 have e0 : properB (reportA e) = (decide (1 ≤ e.life) && decide (e.life ≤ most) && decide (0 ≤ e.peer) && decide (e.peer ≤ most) && (decide (0 < e.peer) && true && true && decide (0 ≤ e.want) && decide (e.want ≤ most) && decide (0 ≤ bitsA e) && decide (bitsA e ≤ 7))) := by
  have e1 : decide (emptyT = emptyT) = true := decide_eq_true rfl
  have e2 : properB (reportA e) = (decide (1 ≤ e.life) && decide (e.life ≤ most) && decide (0 ≤ e.peer) && decide (e.peer ≤ most) && (decide (0 < e.peer) && true && decide (emptyT = emptyT) && decide (0 ≤ e.want) && decide (e.want ≤ most) && decide (0 ≤ bitsA e) && decide (bitsA e ≤ 7))) := rfl
  rw [e2, e1]
 rw [e0]
 simp only [Bool.and_eq_true, decide_eq_true_eq, Bool.and_true]
 exact ⟨⟨⟨⟨h.life.1, h.life.2⟩, h.peer.1⟩, h.peer.2⟩, ⟨⟨⟨⟨hp, h.want.1⟩, h.want.2⟩, hb.1⟩, hb.2⟩⟩
theorem hello_proper {e : En} (h : GoodP e) : properB (helloA e) = true := by
 have e1 : decide (emptyT = emptyT) = true := decide_eq_true rfl
 have e2 : properB (helloA e) = (decide (1 ≤ e.life) && decide (e.life ≤ most) && decide (0 ≤ e.peer) && decide (e.peer ≤ most) && (true && decide (emptyT = emptyT) && true && true)) := rfl
 rw [e2, e1]
 simp only [Bool.and_eq_true, decide_eq_true_eq, Bool.and_true]
 exact ⟨⟨⟨h.life.1, h.life.2⟩, h.peer.1⟩, h.peer.2⟩
theorem over_pot {e : En} (_h : GoodP e) {L' life : Int} (h1 : e.peer < life) (h2 : life ≤ L') : pot L' (overA e life).1 + 3 ≤ pot L' e := by
 have hf := fly_le e
 have e1 : (overA e life).1.out.length = e.out.length - flyN e := by simp [overA]
 have e2 : flyN (overA e life).1 = 0 := rfl
 unfold pot
 rw [e1, e2]
 have e3 : (overA e life).1.peer = life := rfl
 have e4 : (overA e life).1.phase = 2 := rfl
 rw [e3, e4, if_neg (show ¬ (2 : Int) = 3 by omega)]
 have : (L' - e.peer).toNat ≥ (L' - life).toNat + 1 := by omega
 split <;> omega
/-- A packet is taken: what comes of it weighs less. -/
theorem take_weight {e : En} {p : Pk} {L' : Int} (hg : goodB e = true) (hp : properB p = true) (hL : p.frm ≤ L') (hpeer : e.peer ≤ L') :
  (takeA e p).1.life = e.life ∧ (takeA e p).1.peer ≤ L' ∧ e.peer ≤ (takeA e p).1.peer ∧ (∀ q ∈ (takeA e p).2.1.packets, properB q = true ∧ q.frm = e.life) ∧
   pws L' e.life (takeA e p).2.1.packets + pot L' (takeA e p).1 < pw e.life L' p + pot L' e := by
 have hG := good_iff.1 hg
 have hf := proper_from hp
 have hgood := take_good hg hp
 have hw : 1 ≤ pw e.life L' p := by unfold pw wgt; split <;> split <;> split <;> omega
 unfold takeA at hgood ⊢
 rw [hg, hp] at hgood ⊢
 simp only [Bool.and_self, Bool.true_eq_false, if_false] at hgood ⊢
 by_cases hlt : p.frm < e.peer
 ·rw [if_pos hlt]
  refine ⟨rfl, hpeer, Int.le_refl _, fun q hq => absurd hq (List.not_mem_nil), ?_⟩
  show pws L' e.life [] + pot L' e < pw e.life L' p + pot L' e
  rw [pws_nil]
  omega
 ·rw [if_neg hlt] at hgood ⊢
  simp only at hgood ⊢
  have h1 : GoodP (if e.peer < p.frm then overA e p.frm else (e, [])).1 ∧ (if e.peer < p.frm then overA e p.frm else (e, [])).1.phase ≠ 1 ∧ (if e.peer < p.frm then overA e p.frm else (e, [])).1.life = e.life ∧
    (if e.peer < p.frm then overA e p.frm else (e, [])).1.peer = p.frm ∧ pot L' (if e.peer < p.frm then overA e p.frm else (e, [])).1 ≤ pot L' e := by
   split
   ·rename_i hpl
    exact ⟨over_good hG hf.1 hf.2.1, by show ¬ (2 : Int) = 1; omega, rfl, rfl, by have := over_pot hG hpl hL; omega⟩
   ·have hph : e.phase ≠ 1 := fun h1 => by
     have := (hG.cl (by omega)).2.2.2
     omega
    exact ⟨hG, hph, rfl, by show e.peer = p.frm; omega, Nat.le_refl _⟩
  generalize (if e.peer < p.frm then overA e p.frm else (e, [])) = o at h1 hgood ⊢
  obtain ⟨e1, lost⟩ := o
  simp only at h1 hgood ⊢
  obtain ⟨g1, ph1, lf1, pr1, pt1⟩ := h1
  have hpp : 0 < e1.peer := by omega
  cases hm : (p.to == e1.life) with
  | false =>
   simp only [hm, Bool.false_and, Bool.false_eq_true, if_false, Bool.or_self] at hgood ⊢
   have e0 : ((e1.base + (flyN e1 : Int)) - e1.base).toNat = flyN e1 := by omega
   have e2 : fromA e1 (flyN e1) = [] := List.eq_nil_of_length_eq_zero (by rw [fromA_len]; omega)
   rw [e0, e2]
   simp only [List.append_nil]
   refine ⟨lf1, by omega, by omega, fun q hq => ?_, ?_⟩
   ·simp at hq
    subst hq
    exact ⟨hello_proper g1, lf1⟩
   ·rw [pws_one]
    have e3 : pw e.life L' p = (if p.kind = 2 then 1 else 0) + 2 + (if p.frm = L' then 0 else 1) := by
     unfold pw wgt
     rw [← lf1, hm]
     simp
    have e4 : pw L' e.life (helloA e1) = 0 + (if p.frm = L' then 1 else 2) + 0 := by
     unfold pw wgt helloA
     simp only [lf1, pr1]
     simp
    rw [e3, e4]
    split <;> split <;> omega
  | true =>
   have hto : p.to = e1.life := by simpa using hm
   simp only [hm, Bool.true_and, if_true] at hgood ⊢
   -- the opening
   have h2 : ∃ e2, (if (e1.phase == 2) = true then { e1 with phase := 3 } else e1) = e2 ∧ GoodP e2 ∧ e2.phase = 3 ∧ e2.life = e1.life ∧ e2.peer = e1.peer ∧ e2.base = e1.base ∧ e2.out = e1.out ∧
     3 * (flyN e2 - flyN e1) + (if e1.phase = 2 then 3 else 0) + pot L' e2 = pot L' e1 ∧ flyN e1 ≤ flyN e2 := by
    by_cases h : e1.phase = 2
    ·refine ⟨{ e1 with phase := 3 }, by rw [if_pos (by simpa using h)], opened_good g1 h, rfl, rfl, rfl, rfl, rfl, ?_, ?_⟩
     ·have hf1 : flyN e1 = 0 := by unfold flyN; rw [if_neg (by omega)]
      have hf2 : flyN { e1 with phase := 3 } = min e1.out.length 4 := rfl
      unfold pot
      rw [hf1, hf2, if_pos h, if_neg (show ¬ e1.phase = 3 by omega)]
      simp only [if_true]
      omega
     ·have hf1 : flyN e1 = 0 := by unfold flyN; rw [if_neg (by omega)]
      omega
    ·have h3 : e1.phase = 3 := by
      by_cases h3 : e1.phase = 3
      ·exact h3
      ·have := (g1.cl h3).2.2.2
       omega
     refine ⟨e1, by rw [if_neg (by simpa using h)], g1, h3, rfl, rfl, rfl, rfl, ?_, Nat.le_refl _⟩
     rw [if_neg h]
     omega
   obtain ⟨e2, he2, g2, ph2, lf2, pr2, b2, o2, pt2, fl2⟩ := h2
   rw [he2] at hgood ⊢
   -- the acknowledgement
   have h3 : ∃ e3 gone, (if (p.kind != 1) = true then ackedA e2 p (flyN e1) else e2) = e3 ∧ GoodP e3 ∧ e3.phase = 3 ∧ e3.life = e1.life ∧ e3.peer = e1.peer ∧ e3.base = e1.base + (gone : Nat) ∧ gone ≤ flyN e1 ∧
     3 * (flyN e3 - (flyN e1 - gone)) + (if e1.phase = 2 then 3 else 0) + pot L' e3 = pot L' e1 ∧ flyN e1 - gone ≤ flyN e3 := by
    have stay : ∃ e3 gone, e2 = e3 ∧ GoodP e3 ∧ e3.phase = 3 ∧ e3.life = e1.life ∧ e3.peer = e1.peer ∧ e3.base = e1.base + (gone : Nat) ∧ gone ≤ flyN e1 ∧
     3 * (flyN e3 - (flyN e1 - gone)) + (if e1.phase = 2 then 3 else 0) + pot L' e3 = pot L' e1 ∧ flyN e1 - gone ≤ flyN e3 :=
     ⟨e2, 0, rfl, g2, ph2, lf2, pr2, by rw [b2]; simp, Nat.zero_le _, by rw [Nat.sub_zero]; exact pt2, by rw [Nat.sub_zero]; exact fl2⟩
    split
    ·have ga := acked_good g2 ph2 p fl2
     unfold ackedA at ga ⊢
     split
     ·exact stay
     ·rename_i hc
      rw [if_neg hc] at ga
      have hf1 := fly_le e1
      have hgn : (p.ack - e2.base).toNat ≤ flyN e1 := by omega
      have hlen : (markA p.held (flyN e1 - (p.ack - e2.base).toNat) 0 (e2.out.drop (p.ack - e2.base).toNat)).length = e1.out.length - (p.ack - e2.base).toNat := by rw [markA_len, o2]; simp
      have hff : flyN { e2 with out := markA p.held (flyN e1 - (p.ack - e2.base).toNat) 0 (e2.out.drop (p.ack - e2.base).toNat), base := p.ack } = min (e1.out.length - (p.ack - e2.base).toNat) 4 := by
       show (if e2.phase = 3 then min (List.length _) 4 else 0) = _
       rw [if_pos ph2]
       show min (markA _ _ _ _).length 4 = _
       rw [hlen]
      have hf2 : flyN e2 = min e1.out.length 4 := by unfold flyN; rw [if_pos ph2, o2]
      refine ⟨_, (p.ack - e2.base).toNat, rfl, ga, ph2, lf2, pr2, by show p.ack = _; omega, hgn, ?_, by rw [hff]; omega⟩
      have pa : pot L' { e2 with out := markA p.held (flyN e1 - (p.ack - e2.base).toNat) 0 (e2.out.drop (p.ack - e2.base).toNat), base := p.ack } = 3 * (e1.out.length - (p.ack - e2.base).toNat - min (e1.out.length - (p.ack - e2.base).toNat) 4) + 3 * (2 * (L' - e1.peer).toNat) := by
       unfold pot
       rw [hff]
       show 3 * ((markA _ _ _ _).length - _) + _ = _
       rw [hlen]
       simp only [ph2, pr2, if_true, Nat.add_zero]
      have pb : pot L' e2 = 3 * (e1.out.length - min e1.out.length 4) + 3 * (2 * (L' - e1.peer).toNat) := by
       unfold pot
       rw [hf2, o2, pr2, ph2, if_pos rfl]
       omega
      rw [pa, hff]
      rw [pb, hf2] at pt2
      omega
    ·exact stay
   obtain ⟨e3, gone, he3, g3, ph3, lf3, pr3, b3, hgn, pt3, fl3⟩ := h3
   rw [he3] at hgood ⊢
   -- the message
   have h4 : ∃ e4 tk, (if (p.kind == 2) = true then cameA e3 p else (e3, [])) = (e4, tk) ∧ GoodP e4 ∧ e4.phase = 3 ∧ e4.life = e1.life ∧ e4.peer = e1.peer ∧ e4.base = e3.base ∧ flyN e4 = flyN e3 ∧ pot L' e4 = pot L' e3 := by
    split
    ·rename_i hk
     have hd := proper_data hp (by simpa using hk)
     have gc := came_good g3 ph3 hd.1 hd.2
     unfold cameA at gc ⊢
     split
     ·exact ⟨e3, _, rfl, g3, ph3, lf3, pr3, rfl, rfl, rfl⟩
     ·rename_i hc
      rw [if_neg hc] at gc
      exact ⟨_, _, rfl, gc, ph3, lf3, pr3, rfl, rfl, rfl⟩
    ·exact ⟨e3, _, rfl, g3, ph3, lf3, pr3, rfl, rfl, rfl⟩
   obtain ⟨e4, tk, he4, g4, ph4, lf4, pr4, b4, fl4, pt4⟩ := h4
   rw [he4] at hgood ⊢
   simp only [List.nil_append] at hgood ⊢
   have hs : ((e1.base + (flyN e1 : Int)) - e4.base).toNat = flyN e1 - gone := by rw [b4, b3]; omega
   rw [hs]
   have hrep : ∀ q, q ∈ (if ((e1.phase == 2 && p.kind == 1) || p.kind == 2) = true then [reportA e4] else []) → q = reportA e4 := by
    intro q hq
    split at hq
    ·simpa using hq
    ·cases hq
   refine ⟨by rw [lf4, lf1], by rw [pr4]; omega, by rw [pr4]; omega, fun q hq => ?_, ?_⟩
   ·rcases List.mem_append.1 hq with hq | hq
    ·obtain ⟨j, _, hj, rfl⟩ := fromA_mem hq
     exact ⟨data_proper g4 ph4 hj, by show e4.life = _; rw [lf4, lf1]⟩
    ·have := hrep q hq
     subst this
     exact ⟨report_proper g4 (by rw [pr4]; exact hpp), by show e4.life = _; rw [lf4, lf1]⟩
   ·rw [pws_app]
    have hfw := from_weight L' e.life e4 (flyN e1 - gone) (by rw [lf4, lf1])
    rw [pr4, pr1, fl4] at hfw
    have hrw : pws L' e.life (if ((e1.phase == 2 && p.kind == 1) || p.kind == 2) = true then [reportA e4] else []) = if ((e1.phase == 2 && p.kind == 1) || p.kind == 2) = true then (if p.frm = L' then 1 else 2) else 0 := by
     split
     ·rw [pws_one]
      unfold pw wgt reportA
      simp only [lf4, lf1, pr4, pr1]
      simp
     ·rfl
    rw [hrw, pt4]
    have hpw : pw e.life L' p = (if p.kind = 2 then 1 else 0) + 1 + (if p.frm = L' then 0 else 1) := by
     unfold pw wgt
     rw [← lf1, hm]
     simp
    rw [hpw]
    have hb1 : ((e1.phase == 2 && p.kind == 1) || p.kind == 2) = true ↔ (e1.phase = 2 ∧ p.kind = 1) ∨ p.kind = 2 := by simp
    have hcc : (((e1.phase == 2 && p.kind == 1) || p.kind == 2) = true ∧ ((e1.phase = 2 ∧ p.kind = 1) ∨ p.kind = 2)) ∨ ¬ ((e1.phase == 2 && p.kind == 1) || p.kind == 2) = true := by
     by_cases hr : ((e1.phase == 2 && p.kind == 1) || p.kind == 2) = true
     ·exact .inl ⟨hr, hb1.1 hr⟩
     ·exact .inr hr
    by_cases hcur : p.frm = L'
    ·rw [if_pos hcur] at hfw
     rw [if_pos hcur, if_pos hcur]
     rcases hcc with ⟨hr, ⟨ha, hb⟩ | hb⟩ | hr
     ·rw [if_pos ha] at pt3
      rw [if_pos hr, if_neg (show ¬ p.kind = 2 by omega)]
      omega
     ·rw [if_pos hr, if_pos hb]
      omega
     ·rw [if_neg hr]
      omega
    ·rw [if_neg hcur] at hfw
     rw [if_neg hcur, if_neg hcur]
     rcases hcc with ⟨hr, ⟨ha, hb⟩ | hb⟩ | hr
     ·rw [if_pos ha] at pt3
      rw [if_pos hr, if_neg (show ¬ p.kind = 2 by omega)]
      omega
     ·rw [if_pos hr, if_pos hb]
      omega
     ·rw [if_neg hr]
      omega
end Go.Proofs.YtejabnoidhlfaaaDoor

/- Lines stay as defined; a quiet round comes to an end. -/
namespace Go.Proofs.YtejabnoidhlfaaaDoor

def roomA (l : Lp) (n : Nat) : Nat := if l.free = true then n else 60 - l.wire.length
theorem way_eq (frm : Int) : ∀ (ps : List Pk) (l : Lp), wayA l frm ps = { l with wire := l.wire ++ (ps.take (roomA l ps.length)).map fun p => ⟨1 - frm, p⟩ }
 | [], l => by simp [wayA]
 | p :: ps, l => by
  rw [wayA, way_eq frm ps]
  unfold roomA
  by_cases h : l.free = true ∨ l.wire.length < 60
  ·rw [if_pos h]
   simp only
   cases hf : l.free with
   | true => simp
   | false =>
    have hlt : l.wire.length < 60 := by
     rcases h with h | h
     ·rw [hf] at h; cases h
     ·exact h
    simp only [Bool.false_eq_true, if_false, List.length_append, List.length_cons, List.length_nil]
    rw [show 60 - l.wire.length = (60 - (l.wire.length + (0 + 1))) + 1 by omega, List.take_succ_cons, List.map_cons, List.append_assoc]
    rfl
  ·rw [if_neg h]
   have hf : l.free = false := by cases hf : l.free with
    | true => exact absurd (.inl hf) h
    | false => rfl
   have hge : 60 - l.wire.length = 0 := by omega
   rw [hf]
   simp [hge]
theorem becomes_e (l : Lp) (i : Int) (e : En) : (becomesA l i e).e0 = (l.setEnd i e).e0 ∧ (becomesA l i e).e1 = (l.setEnd i e).e1 ∧ (becomesA l i e).wire = l.wire ∧ (becomesA l i e).free = l.free := by
 unfold becomesA Lp.setEnd Lp.setNow
 simp only
 split <;> split <;> (try split) <;> exact ⟨rfl, rfl, rfl, rfl⟩
theorem tell_e (l : Lp) (i : Int) (e : En) (g : Gn) : (tellA l i e g).e0 = (l.setEnd i e).e0 ∧ (tellA l i e g).e1 = (l.setEnd i e).e1 ∧ (tellA l i e g).free = l.free ∧ (tellA l i e g).wire = l.wire ++ (g.packets.take (roomA l g.packets.length)).map fun p => ⟨1 - i, p⟩ := by
 have hb := becomes_e l i e
 unfold tellA
 simp only
 rw [way_eq]
 split
 ·simp only
  refine ⟨hb.1, hb.2.1, hb.2.2.2, ?_⟩
  unfold roomA
  simp only [hb.2.2.1, hb.2.2.2]
 ·refine ⟨hb.1, hb.2.1, hb.2.2.2, ?_⟩
  unfold roomA
  simp only [hb.2.2.1, hb.2.2.2]

/-- What holds of each packet under way. -/
def TripOk (L0 L1 : Int) (x : Tp) : Prop := properB x.p = true ∧ ((x.to = 0 ∧ x.p.frm ≤ L1) ∨ (x.to = 1 ∧ x.p.frm ≤ L0))
structure LineOk (l : Lp) : Prop where
 g0 : goodB l.e0 = true
 g1 : goodB l.e1 = true
 p0 : l.e0.peer ≤ l.e1.life
 p1 : l.e1.peer ≤ l.e0.life
 wire : ∀ x ∈ l.wire, TripOk l.e0.life l.e1.life x
def tw (L0 L1 : Int) (x : Tp) : Nat := if x.to = 0 then pw L0 L1 x.p else pw L1 L0 x.p
def tws (L0 L1 : Int) (l : List Tp) : Nat := (l.map (tw L0 L1)).sum
def mes (l : Lp) : Nat := tws l.e0.life l.e1.life l.wire + pot l.e1.life l.e0 + pot l.e0.life l.e1
theorem tws_app (L0 L1 : Int) (a b : List Tp) : tws L0 L1 (a ++ b) = tws L0 L1 a + tws L0 L1 b := by simp [tws]
theorem tws_erase (L0 L1 : Int) : ∀ (l : List Tp) (k : Nat) (x : Tp), l[k]? = some x → tws L0 L1 (l.eraseIdx k) + tw L0 L1 x = tws L0 L1 l
 | [], k, x, h => by simp at h
 | y :: l, 0, x, h => by
  simp at h
  subst h
  simp [tws]
  omega
 | y :: l, k + 1, x, h => by
  have ih := tws_erase L0 L1 l k x (by simpa using h)
  unfold tws at ih ⊢
  rw [List.eraseIdx_cons_succ, List.map_cons, List.map_cons, List.sum_cons, List.sum_cons]
  omega
theorem tws_take (L0 L1 : Int) (l : List Tp) (n : Nat) : tws L0 L1 (l.take n) ≤ tws L0 L1 l := by
 have h := tws_app L0 L1 (l.take n) (l.drop n)
 rw [List.take_append_drop] at h
 omega
theorem tws_to0 (L0 L1 : Int) (l : List Pk) : tws L0 L1 (l.map fun p => ⟨1 - 1, p⟩) = pws L0 L1 l := by
 unfold tws pws
 rw [List.map_map]
 congr 1
theorem tws_to1 (L0 L1 : Int) (l : List Pk) : tws L0 L1 (l.map fun p => ⟨1 - 0, p⟩) = pws L1 L0 l := by
 unfold tws pws
 rw [List.map_map]
 congr 1
/-- A packet is carried. -/
theorem carry_less {l : Lp} (h : LineOk l) {k : Nat} (hk : k < l.wire.length) : LineOk (carryA l k) ∧ mes (carryA l k) < mes l ∧ (carryA l k).free = l.free ∧ (carryA l k).e0.life = l.e0.life ∧ (carryA l k).e1.life = l.e1.life := by
 have hx : l.wire[k]? = some l.wire[k] := List.getElem?_eq_getElem hk
 generalize l.wire[k] = x at hx
 have hxm := List.mem_of_getElem? hx
 have ht := h.wire x hxm
 have he := tws_erase l.e0.life l.e1.life l.wire k x hx
 have hsub : ∀ y, y ∈ l.wire.eraseIdx k → y ∈ l.wire := fun y hy => List.mem_of_mem_eraseIdx hy
 obtain ⟨hpr, ht⟩ := ht
 have gen : ∀ (l1 : Lp), l1.e0 = l.e0 → l1.e1 = l.e1 → l1.wire = l.wire.eraseIdx k → l1.free = l.free →
   LineOk (tellA l1 x.to (takeA (l1.end_ x.to) x.p).1 (takeA (l1.end_ x.to) x.p).2.1) ∧ mes (tellA l1 x.to (takeA (l1.end_ x.to) x.p).1 (takeA (l1.end_ x.to) x.p).2.1) < mes l ∧ (tellA l1 x.to (takeA (l1.end_ x.to) x.p).1 (takeA (l1.end_ x.to) x.p).2.1).free = l.free ∧
   (tellA l1 x.to (takeA (l1.end_ x.to) x.p).1 (takeA (l1.end_ x.to) x.p).2.1).e0.life = l.e0.life ∧ (tellA l1 x.to (takeA (l1.end_ x.to) x.p).1 (takeA (l1.end_ x.to) x.p).2.1).e1.life = l.e1.life := by
  intro l1 q0 q1 qw qf
  obtain ⟨t0, t1, tf, tw'⟩ := tell_e l1 x.to (takeA (l1.end_ x.to) x.p).1 (takeA (l1.end_ x.to) x.p).2.1
  rcases ht with ⟨hto, hfr⟩ | ⟨hto, hfr⟩
  ·have eE : l1.end_ x.to = l.e0 := by unfold Lp.end_; rw [if_pos hto, q0]
   rw [eE] at t0 t1 tf tw' ⊢
   obtain ⟨w1, w2, w3, w4, w5⟩ := take_weight h.g0 hpr hfr h.p0
   have s0 : (l1.setEnd x.to (takeA l.e0 x.p).1).e0 = (takeA l.e0 x.p).1 := by unfold Lp.setEnd; rw [if_pos hto]
   have s1 : (l1.setEnd x.to (takeA l.e0 x.p).1).e1 = l.e1 := by unfold Lp.setEnd; rw [if_pos hto]; exact q1
   rw [s0] at t0
   rw [s1] at t1
   rw [qw, show (fun p => (⟨1 - x.to, p⟩ : Tp)) = fun p => ⟨1 - 0, p⟩ by rw [hto]] at tw'
   refine ⟨⟨by rw [t0]; exact take_good h.g0 hpr, by rw [t1]; exact h.g1, by rw [t0, t1]; exact w2, by rw [t0, t1, w1]; exact h.p1, fun y hy => ?_⟩, ?_, by rw [tf, qf], by rw [t0, w1], by rw [t1]⟩
   ·rw [tw'] at hy
    rw [t0, t1, w1]
    rcases List.mem_append.1 hy with hy | hy
    ·exact h.wire y (hsub y hy)
    ·obtain ⟨q, hq, rfl⟩ := List.mem_map.1 hy
     obtain ⟨v1, v2⟩ := w4 q (List.mem_of_mem_take hq)
     exact ⟨v1, .inr ⟨by simp, by show q.frm ≤ _; rw [v2]; exact Int.le_refl _⟩⟩
   ·unfold mes
    rw [t0, t1, tw', w1, tws_app, tws_to1]
    have hle : pws l.e1.life l.e0.life ((takeA l.e0 x.p).2.1.packets.take (roomA l1 (takeA l.e0 x.p).2.1.packets.length)) ≤ pws l.e1.life l.e0.life (takeA l.e0 x.p).2.1.packets := by
     have := pws_app l.e1.life l.e0.life ((takeA l.e0 x.p).2.1.packets.take (roomA l1 (takeA l.e0 x.p).2.1.packets.length)) ((takeA l.e0 x.p).2.1.packets.drop (roomA l1 (takeA l.e0 x.p).2.1.packets.length))
     rw [List.take_append_drop] at this
     omega
    have htw : tw l.e0.life l.e1.life x = pw l.e0.life l.e1.life x.p := by unfold tw; rw [if_pos hto]
    omega
  ·have hn0 : ¬ x.to = 0 := by omega
   have eE : l1.end_ x.to = l.e1 := by unfold Lp.end_; rw [if_neg hn0, q1]
   rw [eE] at t0 t1 tf tw' ⊢
   obtain ⟨w1, w2, w3, w4, w5⟩ := take_weight h.g1 hpr hfr h.p1
   have s0 : (l1.setEnd x.to (takeA l.e1 x.p).1).e0 = l.e0 := by unfold Lp.setEnd; rw [if_neg hn0]; exact q0
   have s1 : (l1.setEnd x.to (takeA l.e1 x.p).1).e1 = (takeA l.e1 x.p).1 := by unfold Lp.setEnd; rw [if_neg hn0]
   rw [s0] at t0
   rw [s1] at t1
   rw [qw, show (fun p => (⟨1 - x.to, p⟩ : Tp)) = fun p => ⟨1 - 1, p⟩ by rw [hto]] at tw'
   refine ⟨⟨by rw [t0]; exact h.g0, by rw [t1]; exact take_good h.g1 hpr, by rw [t0, t1, w1]; exact h.p0, by rw [t0, t1]; exact w2, fun y hy => ?_⟩, ?_, by rw [tf, qf], by rw [t0], by rw [t1, w1]⟩
   ·rw [tw'] at hy
    rw [t0, t1, w1]
    rcases List.mem_append.1 hy with hy | hy
    ·exact h.wire y (hsub y hy)
    ·obtain ⟨q, hq, rfl⟩ := List.mem_map.1 hy
     obtain ⟨v1, v2⟩ := w4 q (List.mem_of_mem_take hq)
     exact ⟨v1, .inl ⟨by simp, by show q.frm ≤ _; rw [v2]; exact Int.le_refl _⟩⟩
   ·unfold mes
    rw [t0, t1, tw', w1, tws_app, tws_to0]
    have hle : pws l.e0.life l.e1.life ((takeA l.e1 x.p).2.1.packets.take (roomA l1 (takeA l.e1 x.p).2.1.packets.length)) ≤ pws l.e0.life l.e1.life (takeA l.e1 x.p).2.1.packets := by
     have := pws_app l.e0.life l.e1.life ((takeA l.e1 x.p).2.1.packets.take (roomA l1 (takeA l.e1 x.p).2.1.packets.length)) ((takeA l.e1 x.p).2.1.packets.drop (roomA l1 (takeA l.e1 x.p).2.1.packets.length))
     rw [List.take_append_drop] at this
     omega
    have htw : tw l.e0.life l.e1.life x = pw l.e1.life l.e0.life x.p := by unfold tw; rw [if_neg hn0]
    omega
 unfold carryA
 rw [hx]
 simp only
 split
 ·exact gen _ rfl rfl rfl rfl
 ·exact gen _ rfl rfl rfl rfl
/-- The quiet round comes to an end. -/
theorem quiet_ends (order : List Int) : ∀ (f n : Nat) (l : Lp), LineOk l → mes l ≤ f → ∃ r m, quietN order f n l = some (r, m) ∧ LineOk r ∧ r.wire = []
 | f, n, l, h, hf => by
  by_cases h0 : l.wire.length = 0
  ·refine ⟨l, n, ?_, h, List.eq_nil_of_length_eq_zero h0⟩
   unfold quietN
   rw [if_pos h0]
  ·have hk : nextK order n l.wire.length < l.wire.length := by
    unfold nextK
    split
    ·omega
    ·rename_i o _
     have h1 := Int.emod_nonneg (o % 18446744073709551616) (show (l.wire.length : Int) ≠ 0 by omega)
     have h2 := Int.emod_lt_of_pos (o % 18446744073709551616) (show (0 : Int) < (l.wire.length : Int) by omega)
     omega
   have hc := carry_less h hk
   cases f with
   | zero => omega
   | succ f =>
    obtain ⟨r, m, e1, e2, e3⟩ := quiet_ends order f (n + 1) _ hc.1 (by omega)
    refine ⟨r, m, ?_, e2, e3⟩
    unfold quietN
    rw [if_neg h0]
    exact e1
end Go.Proofs.YtejabnoidhlfaaaDoor

/- Deeds leave a line as defined. -/
namespace Go.Proofs.YtejabnoidhlfaaaDoor

theorem fly_snoc (e : En) (x : Ou) : flyN { e with out := e.out ++ [x] } = if e.phase = 3 then min (e.out.length + 1) 4 else 0 := by
 unfold flyN
 simp
theorem send_ok {e : En} {t : ByteArray} (h : goodB e = true) (hs : (sendA e t).2.2 = 0) : (sendA e t).1 = { e with out := e.out ++ [⟨t, false⟩] } ∧ goodB (sendA e t).1 = true ∧ (∀ q ∈ (sendA e t).2.1, properB q = true ∧ q.frm = e.life) := by
 have hG := good_iff.1 h
 unfold sendA at hs ⊢
 rw [h] at hs ⊢
 simp only [Bool.true_eq_false, if_false] at hs ⊢
 split at hs
 ·simp at hs
 ·rename_i hc
  rw [if_neg hc]
  have hl := hG.len
  have hr := hG.room
  have hg : GoodP { e with out := e.out ++ [⟨t, false⟩] } := by
   refine ⟨hG.life, hG.peer, hG.base, hG.want, by simp; omega, by simp only [List.length_append, List.length_cons, List.length_nil]; push_cast; omega, fun j x hx => ?_, hG.op, hG.cl⟩
   have hx' : (e.out ++ [(⟨t, false⟩ : Ou)])[j]? = some x := hx
   by_cases hj : j < e.out.length
   ·rw [List.getElem?_append_left hj] at hx'
    have := hG.outs j x hx'
    refine ⟨this.1, fun hh => ?_⟩
    have h2 := this.2 hh
    refine ⟨h2.1, ?_⟩
    rw [fly_snoc]
    unfold flyN at h2
    split at h2
    ·rename_i hp
     rw [if_pos hp]
     omega
    ·omega
   ·rw [List.getElem?_append_right (by omega)] at hx'
    have hj2 := (List.getElem?_eq_some_iff.1 hx').1
    simp at hj2
    have : j - e.out.length = 0 := by omega
    rw [this] at hx'
    simp at hx'
    subst hx'
    exact ⟨by show t.size ≤ 20; omega, fun hh => by cases hh⟩
  refine ⟨rfl, good_iff.2 hg, fun q hq => ?_⟩
  obtain ⟨j, _, hj, rfl⟩ := fromA_mem hq
  have hp : e.phase = 3 := by
   rw [fly_snoc] at hj
   by_cases hp : e.phase = 3
   ·exact hp
   ·rw [if_neg hp] at hj; omega
  exact ⟨data_proper hg hp hj, rfl⟩
theorem start_good {life : Int} (h1 : 1 ≤ life) (h2 : life ≤ most) : goodB (⟨life, 0, 1, 0, [], 0, []⟩ : En) = true := by
 refine good_iff.2 ⟨⟨h1, h2⟩, ⟨Int.le_refl _, by show (0 : Int) ≤ most; unfold most; omega⟩, Int.le_refl _, ⟨Int.le_refl _, by show (0 : Int) ≤ most; unfold most; omega⟩, by simp, by show (0 : Int) + ((0 : Nat) : Int) ≤ most; unfold most; omega, fun j x hx => by simp at hx, fun hp => by simp at hp, fun _ => ⟨rfl, rfl, rfl, .inl ⟨rfl, rfl⟩⟩⟩
theorem again_ok {e : En} (h : goodB e = true) (hs : (againA e).2 = 0) : (againA e).1 = ⟨e.life + 1, 0, 1, 0, [], 0, []⟩ ∧ goodB (againA e).1 = true := by
 have hG := good_iff.1 h
 unfold againA at hs ⊢
 rw [h] at hs ⊢
 simp only [Bool.true_eq_false, if_false] at hs ⊢
 split at hs
 ·simp at hs
 ·rename_i hc
  rw [if_neg hc]
  have h1 : 1 ≤ e.life + 1 ∧ e.life + 1 ≤ most := by have := hG.life; omega
  unfold startA
  rw [if_pos h1]
  exact ⟨rfl, start_good h1.1 h1.2⟩
theorem freeIx_lt : ∀ (l : List Ou) (i j : Nat), j ∈ freeIx i l → i ≤ j ∧ j < i + l.length
 | [], i, j, h => by cases h
 | x :: l, i, j, h => by
  rw [freeIx] at h
  simp only [List.length_cons]
  split at h
  ·have := freeIx_lt l (i + 1) j h
   omega
  ·rcases List.mem_cons.1 h with e | h
   ·omega
   ·have := freeIx_lt l (i + 1) j h
    omega
theorem tick_ok {e : En} (h : goodB e = true) : (tickA e).2 = 0 ∧ ∀ q ∈ (tickA e).1, properB q = true ∧ q.frm = e.life := by
 have hG := good_iff.1 h
 unfold tickA
 rw [h]
 simp only [Bool.true_eq_false, if_false]
 by_cases hp : e.phase = 3
 ·rw [if_neg (by simpa using hp)]
  refine ⟨rfl, fun q hq => ?_⟩
  rcases List.mem_append.1 hq with hq | hq
  ·obtain ⟨j, hj, rfl⟩ := List.mem_map.1 hq
   have := freeIx_lt _ _ _ hj
   rw [List.length_take] at this
   exact ⟨data_proper hG hp (by omega), rfl⟩
  ·simp at hq
   subst hq
   exact ⟨report_proper hG (hG.op hp).1, rfl⟩
 ·rw [if_pos hp]
  refine ⟨rfl, fun q hq => ?_⟩
  simp at hq
  subst hq
  exact ⟨hello_proper hG, rfl⟩
theorem first_ok : LineOk firstA := by
 have hs : goodB startE = true := start_good (by omega) (by unfold most; omega)
 exact ⟨hs, hs, by show (0 : Int) ≤ 1; omega, by show (0 : Int) ≤ 1; omega, fun x hx => by cases hx⟩
theorem TripOk.mono {a b a' b' : Int} {x : Tp} (h : TripOk a b x) (h1 : a ≤ a') (h2 : b ≤ b') : TripOk a' b' x := by
 refine ⟨h.1, ?_⟩
 rcases h.2 with h | h
 ·exact .inl ⟨h.1, by omega⟩
 ·exact .inr ⟨h.1, by omega⟩
/-- Packets of an end with its life come under way. -/
theorem way_ok {l : Lp} (h : LineOk l) {i : Int} (hi : i = 0 ∨ i = 1) {ps : List Pk} (hp : ∀ q ∈ ps, properB q = true ∧ q.frm = (l.end_ i).life) : LineOk (wayA l i ps) := by
 rw [way_eq]
 refine ⟨h.g0, h.g1, h.p0, h.p1, fun y hy => ?_⟩
 rcases List.mem_append.1 hy with hy | hy
 ·exact h.wire y hy
 ·obtain ⟨q, hq, rfl⟩ := List.mem_map.1 hy
  obtain ⟨v1, v2⟩ := hp q (List.mem_of_mem_take hq)
  rcases hi with rfl | rfl
  ·exact ⟨v1, .inr ⟨by simp, by show q.frm ≤ _; rw [v2]; exact Int.le_refl _⟩⟩
  ·exact ⟨v1, .inl ⟨by simp, by show q.frm ≤ _; rw [v2]; exact Int.le_refl _⟩⟩
theorem becomes_ok {l : Lp} (h : LineOk l) {i : Int} (hi : i = 0 ∨ i = 1) {e : En} (hg : goodB e = true) (hl : (l.end_ i).life ≤ e.life) (hp : e.peer ≤ (l.end_ (1 - i)).life) : LineOk (becomesA l i e) := by
 obtain ⟨b0, b1, b2, _⟩ := becomes_e l i e
 rcases hi with rfl | rfl
 ·have s0 : (l.setEnd 0 e).e0 = e := rfl
  have s1 : (l.setEnd 0 e).e1 = l.e1 := rfl
  rw [s0] at b0
  rw [s1] at b1
  have hl' : l.e0.life ≤ e.life := hl
  have hp' : e.peer ≤ l.e1.life := hp
  exact ⟨by rw [b0]; exact hg, by rw [b1]; exact h.g1, by rw [b0, b1]; exact hp', by rw [b0, b1]; have := h.p1; omega, fun x hx => by rw [b2] at hx; rw [b0, b1]; exact (h.wire x hx).mono hl' (Int.le_refl _)⟩
 ·have s0 : (l.setEnd 1 e).e0 = l.e0 := rfl
  have s1 : (l.setEnd 1 e).e1 = e := rfl
  rw [s0] at b0
  rw [s1] at b1
  have hl' : l.e1.life ≤ e.life := hl
  have hp' : e.peer ≤ l.e0.life := hp
  exact ⟨by rw [b0]; exact h.g0, by rw [b1]; exact hg, by rw [b0, b1]; have := h.p0; omega, by rw [b0, b1]; exact hp', fun x hx => by rw [b2] at hx; rw [b0, b1]; exact (h.wire x hx).mono (Int.le_refl _) hl'⟩
theorem LineOk.good {l : Lp} (h : LineOk l) (i : Int) : goodB (l.end_ i) = true := by
 unfold Lp.end_
 split
 ·exact h.g0
 ·exact h.g1
theorem LineOk.peer {l : Lp} (h : LineOk l) {i : Int} (hi : i = 0 ∨ i = 1) : (l.end_ i).peer ≤ (l.end_ (1 - i)).life := by
 rcases hi with rfl | rfl
 ·exact h.p0
 ·exact h.p1
theorem becomes_end {l : Lp} {i : Int} (hi : i = 0 ∨ i = 1) (e : En) : (becomesA l i e).end_ i = e := by
 obtain ⟨b0, b1, _⟩ := becomes_e l i e
 rcases hi with rfl | rfl
 ·unfold Lp.end_; rw [if_pos rfl, b0]; rfl
 ·unfold Lp.end_; rw [if_neg (by omega), b1]; rfl
theorem deed_end {d : Dd} (h : deedB d = true) : d.end_ = 0 ∨ d.end_ = 1 := by
 unfold deedB at h
 split at h
 ·simp only [Bool.and_eq_true, decide_eq_true_eq] at h; exact h.1.1
 ·split at h
  ·simp only [Bool.and_eq_true, decide_eq_true_eq] at h; exact h.1.1
  ·split at h
   ·simp only [Bool.and_eq_true, decide_eq_true_eq] at h; exact .inl h.1.1
   ·cases h
theorem does_ok {l : Lp} (h : LineOk l) {d : Dd} (hd : deedB d = true) : LineOk (doesA l d) := by
 have hi := deed_end hd
 unfold doesA
 simp only
 split
 ·split
  ·rename_i hs
   obtain ⟨s1, s2, s3⟩ := send_ok (h.good d.end_) hs
   have hb : LineOk (becomesA l d.end_ (sendA (l.end_ d.end_) d.t).1) := becomes_ok h hi s2 (by rw [s1]; exact Int.le_refl _) (by rw [s1]; exact h.peer hi)
   refine way_ok hb hi (fun q hq => ?_)
   rw [becomes_end hi, s1]
   exact s3 q hq
  ·exact h
 ·split
  ·exact way_ok h hi (tick_ok (h.good d.end_)).2
  ·split
   ·split
    ·rename_i hs
     obtain ⟨s1, s2⟩ := again_ok (h.good d.end_) hs
     refine becomes_ok h hi s2 (by rw [s1]; show _ ≤ (l.end_ d.end_).life + 1; omega) ?_
     rw [s1]
     show (0 : Int) ≤ _
     have := (good_iff.1 (h.good (1 - d.end_))).life.1
     omega
    ·exact h
   ·split
    ·exact h
    ·rename_i hw
     split
     ·refine (carry_less h ?_).1
      have h2 := Int.emod_lt_of_pos d.at_ (show (0 : Int) < (l.wire.length : Int) by omega)
      have h1 := Int.emod_nonneg d.at_ (show (l.wire.length : Int) ≠ 0 by omega)
      omega
     ·split
      ·exact ⟨h.g0, h.g1, h.p0, h.p1, fun x hx => h.wire x (List.mem_of_mem_eraseIdx hx)⟩
      ·split
       ·exact h
       ·rename_i x hx
        have hxm := List.mem_of_getElem? hx
        have ht := h.wire x hxm
        rw [way_eq]
        refine ⟨h.g0, h.g1, h.p0, h.p1, fun y hy => ?_⟩
        rcases List.mem_append.1 hy with hy | hy
        ·exact h.wire y hy
        ·obtain ⟨q, hq, rfl⟩ := List.mem_map.1 hy
         have hq' := List.mem_of_mem_take hq
         simp at hq'
         subst hq'
         have e1 : (1 : Int) - (1 - x.to) = x.to := by omega
         rw [e1]
         exact ht
theorem played_ok {l : List Dd} (h : (playedA l).2 = 0) : LineOk (playedA l).1 := by
 unfold playedA at h ⊢
 split at h
 ·simp at h
 ·split at h
  ·simp at h
  ·rename_i h1 h2
   rw [if_neg h1, if_neg h2]
   have hall : ∀ d ∈ l, deedB d = true := by
    have : l.all deedB = true := by simpa using h2
    exact List.all_eq_true.1 this
   have : ∀ (m : List Dd) (x : Lp), (∀ d ∈ m, deedB d = true) → LineOk x → LineOk (m.foldl doesA x) := by
    intro m
    induction m with
    | nil => intro x _ hx; exact hx
    | cons d m ih => intro x hm hx; exact ih _ (fun y hy => hm y (List.mem_cons_of_mem _ hy)) (does_ok hx (hm d List.mem_cons_self))
   exact this l firstA hall first_ok
end Go.Proofs.YtejabnoidhlfaaaDoor
