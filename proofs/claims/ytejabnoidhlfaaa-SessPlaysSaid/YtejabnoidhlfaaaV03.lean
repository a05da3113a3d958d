/- Contracts and lemmas that the claim uses. -/
import Derived.Test.YtejabnoidhlfaaaV02
set_option maxRecDepth 100000
set_option maxHeartbeats 16000000
namespace Go.Proofs.Ytejabnoidhlfaaa
structure GoodP (e : En) : Prop where
 life : 1 ≤ e.life ∧ e.life ≤ most
 peer : 0 ≤ e.peer ∧ e.peer ≤ most
 base : 0 ≤ e.base
 want : 0 ≤ e.want ∧ e.want ≤ most
 len : e.out.length ≤ 12
 room : e.base + e.out.length ≤ most
 outs : ∀ (j : Nat) (x : Ou), e.out[j]? = some x → x.t.size ≤ 20 ∧ (x.h = true → 1 ≤ j ∧ j < flyN e)
 op : e.phase = 3 → 0 < e.peer ∧ srt e.want e.inn ∧ ∀ x ∈ e.inn, x.n < e.want + 4 ∧ x.n < most ∧ x.t.size ≤ 20
 cl : e.phase ≠ 3 → e.base = 0 ∧ e.want = 0 ∧ e.inn = [] ∧ ((e.phase = 1 ∧ e.peer = 0) ∨ (e.phase = 2 ∧ 0 < e.peer))
theorem outOk_iff (fly : Nat) : ∀ (l : List Ou) (i : Nat), outOk fly i l = true ↔ ∀ (j : Nat) (x : Ou), l[j]? = some x → x.t.size ≤ 20 ∧ (x.h = true → 1 ≤ i + j ∧ i + j < fly)
 | [], i => by simp [outOk]
 | y :: l, i => by
  rw [outOk, Bool.and_eq_true, outOk_iff fly l (i + 1)]; constructor
  ·rintro ⟨h1, h2⟩ j x hx; cases j with
   | zero =>
    simp at hx; subst hx; simp only [Bool.and_eq_true, decide_eq_true_eq, Bool.or_eq_true] at h1; refine ⟨h1.1, fun hh => ?_⟩; rcases h1.2 with h3 | h3
    ·rw [hh] at h3; cases h3
    ·exact h3
   | succ j =>
    have := h2 j x (by simpa using hx); rw [show i + (j + 1) = i + 1 + j by omega]; exact this
  ·intro h; refine ⟨?_, fun j x hx => ?_⟩
   ·have := h 0 y rfl; simp only [Bool.and_eq_true, decide_eq_true_eq, Bool.or_eq_true]; refine ⟨this.1, ?_⟩; cases hh : y.h with
    | false => exact .inl rfl
    | true => exact .inr (this.2 hh)
   ·have := h (j + 1) x (by simpa using hx); rw [show i + 1 + j = i + (j + 1) by omega]; exact this
theorem inOk_iff {want : Int} : ∀ {l : List Im} {lo : Int}, inOk want lo l = true ↔ srt lo l ∧ ∀ x ∈ l, x.n < want + 4 ∧ x.n < most ∧ x.t.size ≤ 20
 | [], _ => ⟨fun h => inOk_srt h, fun _ => rfl⟩
 | x :: l, lo => by
  refine ⟨fun h => inOk_srt h, fun h => ?_⟩; simp only [inOk, Bool.and_eq_true, decide_eq_true_eq]; have hx := h.2 x List.mem_cons_self; exact ⟨⟨⟨⟨h.1.1, hx.1⟩, hx.2.1⟩, hx.2.2⟩, inOk_iff.2 ⟨h.1.2, fun y hy => h.2 y (List.mem_cons_of_mem _ hy)⟩⟩
theorem good_iff {e : En} : goodB e = true ↔ GoodP e := by
 unfold goodB; simp only [Bool.and_eq_true, decide_eq_true_eq]; rw [outOk_iff]; constructor
 ·rintro ⟨⟨⟨⟨⟨⟨⟨⟨⟨⟨h1, h2⟩, h3⟩, h4⟩, h5⟩, h6⟩, h7⟩, h8⟩, h9⟩, h10⟩, h11⟩; refine ⟨⟨h1, h2⟩, ⟨h3, h4⟩, h5, ⟨h6, h7⟩, h8, by omega, fun j x hx => by have := h10 j x hx; rwa [Nat.zero_add] at this, fun hp => ?_, fun hp => ?_⟩
  ·rw [if_pos hp] at h11; simp only [Bool.and_eq_true, decide_eq_true_eq] at h11; exact ⟨h11.1, inOk_iff.1 h11.2⟩
  ·rw [if_neg hp] at h11; simp only [Bool.and_eq_true, decide_eq_true_eq, Bool.or_eq_true] at h11; exact ⟨h11.1.1.1, h11.1.1.2, h11.1.2, h11.2⟩
 ·intro h; refine ⟨⟨⟨⟨⟨⟨⟨⟨⟨⟨h.life.1, h.life.2⟩, h.peer.1⟩, h.peer.2⟩, h.base⟩, h.want.1⟩, h.want.2⟩, h.len⟩, by have := h.room; omega⟩, fun j x hx => by rw [Nat.zero_add]; exact h.outs j x hx⟩, ?_⟩; by_cases hp : e.phase = 3
  ·rw [if_pos hp]; simp only [Bool.and_eq_true, decide_eq_true_eq]; exact ⟨(h.op hp).1, inOk_iff.2 (h.op hp).2⟩
  ·rw [if_neg hp]; simp only [Bool.and_eq_true, decide_eq_true_eq, Bool.or_eq_true]; obtain ⟨a, b, c, d⟩ := h.cl hp; exact ⟨⟨⟨a, b⟩, c⟩, d⟩
theorem GoodP.no_held {e : En} (h : GoodP e) (hp : e.phase ≠ 3) {j : Nat} {x : Ou} (hx : e.out[j]? = some x) : x.h = false := by
 cases hh : x.h with
 | false => rfl
 | true =>
  have := (h.outs j x hx).2 hh; unfold flyN at this; rw [if_neg hp] at this; omega
theorem fly_le (e : En) : flyN e ≤ e.out.length ∧ flyN e ≤ 4 := by
 unfold flyN; split <;> omega
/-! ### the steps -/
theorem over_good {e : En} (h : GoodP e) {life : Int} (h1 : 1 ≤ life) (h2 : life ≤ most) : GoodP (overA e life).1 := by
 have hf := fly_le e; refine ⟨h.life, ⟨by show 0 ≤ life; omega, h2⟩, Int.le_refl _, ⟨Int.le_refl _, by show (0 : Int) ≤ most; unfold most; omega⟩, ?_, ?_, fun j x hx => ?_, fun hp => ?_, fun _ => ⟨rfl, rfl, rfl, .inr ⟨rfl, by show 0 < life; omega⟩⟩⟩
 ·show ((e.out.drop (flyN e)).map _).length ≤ 12; have := h.len; simp; omega
 ·show (0 : Int) + (((e.out.drop (flyN e)).map _).length : Nat) ≤ most; have := h.len; unfold most; simp; omega
 ·have hx' : ((e.out.drop (flyN e)).map (fun x => (⟨x.t, false⟩ : Ou)))[j]? = some x := hx; rw [List.getElem?_map, Option.map_eq_some_iff] at hx'; obtain ⟨y, hy, rfl⟩ := hx'; rw [List.getElem?_drop] at hy; exact ⟨(h.outs _ _ hy).1, fun hh => by cases hh⟩
 ·exact absurd hp (by show ¬ (2 : Int) = 3; omega)
theorem opened_good {e : En} (h : GoodP e) (hp : e.phase = 2) : GoodP { e with phase := 3 } := by
 have h3 : e.phase ≠ 3 := by omega
 obtain ⟨c1, c2, c3, c4⟩ := h.cl h3; refine ⟨h.life, h.peer, h.base, h.want, h.len, h.room, fun j x hx => ⟨(h.outs j x hx).1, fun hh => ?_⟩, fun _ => ⟨?_, ?_, ?_⟩, fun hn => absurd rfl hn⟩
 ·rw [h.no_held h3 hx] at hh; cases hh
 ·rcases c4 with c4 | c4
  ·omega
  ·exact c4.2
 ·show srt e.want e.inn; rw [c3]; trivial
 ·show ∀ x ∈ e.inn, _; rw [c3]; intro x hx; cases hx
theorem markA_get (held : Int) (n : Nat) : ∀ (l : List Ou) (i j : Nat), (markA held n i l)[j]? = (l[j]?).map fun x => ⟨x.t, if i + j = 0 then false else x.h || (decide (i + j < n) && decide (i + j ≤ 3) && decide (held / 2 ^ (i + j - 1) % 2 = 1))⟩
 | [], i, j => by simp [markA]
 | x :: l, i, j => by
  rw [markA]; cases j with
  | zero => simp
  | succ j =>
   rw [List.getElem?_cons_succ, List.getElem?_cons_succ, markA_get held n l (i + 1) j, show i + 1 + j = i + (j + 1) by omega]
theorem markA_len (held : Int) (n : Nat) : ∀ (l : List Ou) (i : Nat), (markA held n i l).length = l.length
 | [], i => rfl
 | x :: l, i => by rw [markA, List.length_cons, List.length_cons, markA_len held n l (i + 1)]
theorem acked_good {e : En} (h : GoodP e) (hp : e.phase = 3) (p : Pk) {n : Nat} (hn : n ≤ flyN e) : GoodP (ackedA e p n) := by
 unfold ackedA; split
 ·exact h
 ·rename_i hc; have hf := fly_le e; have hg : ((p.ack - e.base).toNat : Int) = p.ack - e.base := by omega
  have hgn : (p.ack - e.base).toNat ≤ n := by omega
  have hlen : (markA p.held (n - (p.ack - e.base).toNat) 0 (e.out.drop (p.ack - e.base).toNat)).length = e.out.length - (p.ack - e.base).toNat := by rw [markA_len]; simp
  refine ⟨h.life, h.peer, by show 0 ≤ p.ack; have := h.base; omega, h.want, ?_, ?_, fun j x hx => ?_, fun _ => h.op hp, fun hq => absurd hp hq⟩
  ·show (markA _ _ _ _).length ≤ 12; rw [hlen]; have := h.len; omega
  ·show p.ack + ((markA _ _ _ _).length : Nat) ≤ most; rw [hlen]; have := h.room; omega
  ·have hx' : (markA p.held (n - (p.ack - e.base).toNat) 0 (e.out.drop (p.ack - e.base).toNat))[j]? = some x := hx; rw [markA_get, Option.map_eq_some_iff] at hx'; obtain ⟨y, hy, rfl⟩ := hx'; rw [List.getElem?_drop] at hy; have hjl := (List.getElem?_eq_some_iff.1 hy).1; have ho := h.outs _ _ hy; refine ⟨ho.1, fun hh => ?_⟩; have hff : flyN { e with out := markA p.held (n - (p.ack - e.base).toNat) 0 (e.out.drop (p.ack - e.base).toNat), base := p.ack } = min (e.out.length - (p.ack - e.base).toNat) 4 := by
    unfold flyN; rw [if_pos hp]; show min (markA _ _ _ _).length 4 = _; rw [hlen]
   have hfe : flyN e = min e.out.length 4 := by unfold flyN; rw [if_pos hp]
   show 1 ≤ j ∧ j < flyN { e with out := markA p.held (n - (p.ack - e.base).toNat) 0 (e.out.drop (p.ack - e.base).toNat), base := p.ack }; rw [hff]; simp only [Nat.zero_add] at hh; by_cases hj : j = 0
   ·rw [if_pos hj] at hh; cases hh
   ·rw [if_neg hj] at hh; simp only [Bool.or_eq_true, Bool.and_eq_true, decide_eq_true_eq] at hh; rcases hh with hh | hh
    ·have := (ho.2 hh).2; omega
    ·omega
theorem takeIn_good : ∀ (f : Nat) (l : List Im) (want : Int), l.length ≤ f → srt (want - 1) l → 0 ≤ want → want ≤ most → (∀ x ∈ l, x.n < want + 4 ∧ x.n < most ∧ x.t.size ≤ 20) →
  want ≤ (takeIn f want l).1 ∧ (takeIn f want l).1 ≤ most ∧ srt (takeIn f want l).1 (takeIn f want l).2.1 ∧ ∀ x ∈ (takeIn f want l).2.1, x.n < (takeIn f want l).1 + 4 ∧ x.n < most ∧ x.t.size ≤ 20
 | f, [], want, _, _, h0, h1, hb => by
  cases f <;> exact ⟨Int.le_refl _, h1, trivial, hb⟩
 | 0, x :: l, want, hf, _, _, _, _ => by simp at hf
 | f + 1, x :: l, want, hf, hs, h0, h1, hb => by
  rw [takeIn]; have hx := hb x List.mem_cons_self; have hs1 := hs.1; split
  ·rename_i he; have ih := takeIn_good f l (want + 1) (by simpa using hf) (by rw [show want + 1 - 1 = want by omega, ← he]; exact hs.2) (by omega) (by omega) (fun y hy => by have := hb y (List.mem_cons_of_mem _ hy); exact ⟨by omega, this.2⟩); simp only; exact ⟨by omega, ih.2⟩
  ·rename_i he; exact ⟨Int.le_refl _, h1, ⟨by omega, hs.2⟩, hb⟩
theorem came_good {e : En} (h : GoodP e) (hp : e.phase = 3) {p : Pk} (hp1 : p.num < most) (hp2 : p.t.size ≤ 20) : GoodP (cameA e p).1 := by
 unfold cameA; split
 ·exact h
 ·rename_i hc; obtain ⟨o1, o2, o3⟩ := h.op hp; have hn : getN e.inn p.num = none := by
   have : ¬ hasN e.inn p.num = true := fun hh => hc (.inr (.inr hh)); rw [hasN_get] at this; cases hg : getN e.inn p.num with
   | none => rfl
   | some s => rw [hg] at this; exact absurd rfl this
  have hs := putA_srt ⟨p.num, p.t⟩ (o2.low (show e.want - 1 ≤ e.want by omega)) hn (by show e.want - 1 < p.num; omega); have hlen : ∀ (x : Im) (l : List Im), (putA x l).length = l.length + 1 := by
   intro x l; induction l with
   | nil => rfl
   | cons y l ih => rw [putA]; split <;> simp [ih]
  have ht := takeIn_good (e.inn.length + 1) (putA ⟨p.num, p.t⟩ e.inn) e.want (by rw [hlen]; omega) hs h.want.1 h.want.2 (fun x hx => by
   rcases (putA_mem _ _ _).1 hx with e1 | hx
   ·subst e1; exact ⟨by show p.num < _; omega, hp1, hp2⟩
   ·exact o3 x hx)
  refine ⟨h.life, h.peer, h.base, ⟨?_, ht.2.1⟩, h.len, h.room, h.outs, fun _ => ⟨o1, ht.2.2.1, ht.2.2.2⟩, fun hq => absurd hp hq⟩; have := h.want.1; show 0 ≤ (takeIn _ _ _).1; have := ht.1; omega
theorem proper_data {p : Pk} (h : properB p = true) (hk : p.kind = 2) : p.num < most ∧ p.t.size ≤ 20 := by
 unfold properB at h; rw [if_neg (by omega), if_pos hk] at h; simp only [Bool.and_eq_true, decide_eq_true_eq] at h; exact ⟨h.2.1.1.1.1.1.2, h.2.1.1.1.1.2⟩
theorem proper_from {p : Pk} (h : properB p = true) : 1 ≤ p.frm ∧ p.frm ≤ most ∧ 0 ≤ p.to ∧ p.to ≤ most := by
 unfold properB at h; simp only [Bool.and_eq_true, decide_eq_true_eq] at h; exact ⟨h.1.1.1.1, h.1.1.1.2, h.1.1.2, h.1.2⟩
theorem take_good {e : En} {p : Pk} (h : goodB e = true) (hp : properB p = true) : goodB (takeA e p).1 = true := by
 have hg := good_iff.1 h; have hf := proper_from hp; unfold takeA; rw [h, hp]; simp only [Bool.and_self, Bool.true_eq_false, if_false]; split
 ·exact h
 ·rename_i hpe; rw [good_iff]; simp only; have h1 : GoodP (if e.peer < p.frm then overA e p.frm else (e, [])).1 ∧ (if e.peer < p.frm then overA e p.frm else (e, [])).1.phase ≠ 1 := by
   split
   ·exact ⟨over_good hg hf.1 hf.2.1, by show ¬ (2 : Int) = 1; omega⟩
   ·refine ⟨hg, fun h1 => ?_⟩; have := (hg.cl (by show ¬ e.phase = 3; have : e.phase = 1 := h1; omega)).2.2.2; have h1' : e.phase = 1 := h1; omega
  generalize (if e.peer < p.frm then overA e p.frm else (e, [])).1 = e1 at h1 ⊢; obtain ⟨h1, hph⟩ := h1; have h2 : GoodP (if (p.to == e1.life && e1.phase == 2) = true then { e1 with phase := 3 } else e1) ∧ flyN e1 ≤ flyN (if (p.to == e1.life && e1.phase == 2) = true then { e1 with phase := 3 } else e1) ∧ ((p.to == e1.life) = true → (if (p.to == e1.life && e1.phase == 2) = true then { e1 with phase := 3 } else e1).phase = 3) := by
   split
   ·rename_i hc; simp only [Bool.and_eq_true, beq_iff_eq] at hc; refine ⟨opened_good h1 hc.2, ?_, fun _ => rfl⟩; unfold flyN; rw [if_neg (by omega)]; omega
   ·rename_i hc; refine ⟨h1, Nat.le_refl _, fun hm => ?_⟩; rw [hm, Bool.true_and, beq_iff_eq] at hc; by_cases h3 : e1.phase = 3
    ·exact h3
    ·have := (h1.cl h3).2.2.2; omega
  generalize (if (p.to == e1.life && e1.phase == 2) = true then { e1 with phase := 3 } else e1) = e2 at h2 ⊢; obtain ⟨h2, hfl, hm⟩ := h2; have h3 : GoodP (if (p.to == e1.life && p.kind != 1) = true then ackedA e2 p (flyN e1) else e2) ∧ ((p.to == e1.life) = true → (if (p.to == e1.life && p.kind != 1) = true then ackedA e2 p (flyN e1) else e2).phase = 3) := by
   split
   ·rename_i hc; simp only [Bool.and_eq_true] at hc; refine ⟨acked_good h2 (hm hc.1) p hfl, fun _ => ?_⟩; unfold ackedA; split <;> exact hm hc.1
   ·exact ⟨h2, hm⟩
  generalize (if (p.to == e1.life && p.kind != 1) = true then ackedA e2 p (flyN e1) else e2) = e3 at h3 ⊢; split
  ·rename_i hc; simp only [Bool.and_eq_true, beq_iff_eq] at hc; have := proper_data hp hc.2; exact came_good h3.1 (h3.2 (by rw [hc.1]; simp)) this.1 this.2
  ·exact h3.1
theorem takeIn_none {f : Nat} {want : Int} {l : List Im} (hs : srt (want - 1) l) (hg : getN l want = none) : takeIn f want l = (want, l, []) := by
 cases f with
 | zero => rfl
 | succ f =>
  cases l with
  | nil => rfl
  | cons x l =>
   rw [takeIn, if_neg]; intro e; rw [getN_cons, if_pos e] at hg; cases hg
theorem takeIn_some {f : Nat} {want : Int} {l : List Im} {s : ByteArray} (hs : srt (want - 1) l) (hg : getN l want = some s) (hf : l.length ≤ f + 1) :
  ∃ l', l = ⟨want, s⟩ :: l' ∧ srt want l' ∧ updG (getN l) want none = getN l' ∧ takeIn (f + 1) want l = ((takeIn f (want + 1) l').1, (takeIn f (want + 1) l').2.1, s :: (takeIn f (want + 1) l').2.2) := by
 cases l with
 | nil => cases hg
 | cons x l =>
  have hs1 := hs.1; have hx : x.n = want := by
   rw [getN_cons] at hg; by_cases e : x.n = want
   ·exact e
   ·rw [if_neg e] at hg; have hnone := srt_none (k := want) hs.2 (by omega); rw [hnone] at hg; cases hg
  have ht : x.t = s := by
   rw [getN_cons, if_pos hx] at hg; injection hg
  obtain ⟨xn, xt⟩ := x; simp only at hx ht; subst hx ht; exact ⟨l, rfl, hs.2, get_head hs.2, by rw [takeIn, if_pos rfl]⟩
theorem putA_len (x : Im) (l : List Im) : (putA x l).length = l.length + 1 := by
 induction l with
 | nil => rfl
 | cons y l ih => rw [putA]; split <;> simp [ih]
theorem came_yes {e : En} {p : Pk} (h1 : ¬ p.num < e.want) (h2 : ¬ e.want + 4 ≤ p.num) (h3 : getN e.inn p.num = none) :
  cameA e p = ({ e with want := (takeIn (e.inn.length + 1) e.want (putA ⟨p.num, p.t⟩ e.inn)).1, inn := (takeIn (e.inn.length + 1) e.want (putA ⟨p.num, p.t⟩ e.inn)).2.1 }, (takeIn (e.inn.length + 1) e.want (putA ⟨p.num, p.t⟩ e.inn)).2.2) := by
 unfold cameA; rw [if_neg]; rintro (h | h | h)
 ·exact h1 h
 ·exact h2 h
 ·rw [hasN_get, h3] at h; cases h
theorem came_no {e : En} {p : Pk} (h : p.num < e.want ∨ e.want + 4 ≤ p.num ∨ (getN e.inn p.num).isSome = true) : cameA e p = (e, []) := by
 unfold cameA; rw [if_pos]; rw [hasN_get]; exact h
theorem bits_get (e : En) : bitsA e = (if (getN e.inn (e.want + 1)).isSome then 1 else 0) + (if (getN e.inn (e.want + 2)).isSome then 2 else 0) + (if (getN e.inn (e.want + 3)).isSome then 4 else 0) := by
 unfold bitsA; simp only [hasN_get]
theorem bits_bd (e : En) : 0 ≤ bitsA e ∧ bitsA e ≤ 7 := by
 unfold bitsA; split <;> split <;> split <;> omega
theorem GoodP.ins {e : En} (h : GoodP e) : srt e.want e.inn ∧ ∀ x ∈ e.inn, x.n < e.want + 4 ∧ x.n < most ∧ x.t.size ≤ 20 := by
 by_cases hp : e.phase = 3
 ·exact (h.op hp).2
 ·have := (h.cl hp).2.2.1; rw [this]; exact ⟨trivial, fun x hx => by cases hx⟩
theorem ins_len {want : Int} : ∀ (n : Nat) (l : List Im) (lo : Int), srt lo l → (∀ x ∈ l, x.n ≤ lo + n) → l.length ≤ n
 | 0, [], _, _, _ => Nat.le_refl _
 | 0, x :: l, lo, hs, hb => by
  have := hb x List.mem_cons_self; have := hs.1; omega
 | n + 1, [], _, _, _ => Nat.zero_le _
 | n + 1, x :: l, lo, hs, hb => by
  have hs1 := hs.1; have := ins_len (want := want) n l (lo + 1) (hs.2.low (by omega)) (fun y hy => by have := hb y (List.mem_cons_of_mem _ hy); push_cast at this; omega); simp only [List.length_cons]; omega
theorem GoodP.ins_len {e : En} (h : GoodP e) : e.inn.length ≤ 3 := by
 obtain ⟨h1, h2⟩ := h.ins; exact Go.Proofs.Ytejabnoidhlfaaa.ins_len (want := 0) 3 e.inn e.want h1 (fun x hx => by have := (h2 x hx).1; push_cast; omega)
def wgt (own cur : Bool) (kind : Int) : Nat := (if kind = 2 then 1 else 0) + (if own then 1 else 2) + (if cur then 0 else 1)
def pw (L L' : Int) (p : Pk) : Nat := wgt (p.to == L) (p.frm == L') p.kind
def pws (L L' : Int) (l : List Pk) : Nat := (l.map (pw L L')).sum
def pot (L' : Int) (e : En) : Nat := 3 * (e.out.length - flyN e) + 3 * (2 * (L' - e.peer).toNat + (if e.phase = 3 then 0 else 1))
theorem pws_app (L L' : Int) (a b : List Pk) : pws L L' (a ++ b) = pws L L' a + pws L L' b := by simp [pws]
theorem pws_nil (L L' : Int) : pws L L' [] = 0 := rfl
theorem pws_one (L L' : Int) (p : Pk) : pws L L' [p] = pw L L' p := by simp [pws]
theorem fromA_len (e : En) (i : Nat) : (fromA e i).length = flyN e - i := by simp [fromA]
theorem fromA_mem {e : En} {i : Nat} {q : Pk} (h : q ∈ fromA e i) : ∃ j, i ≤ j ∧ j < flyN e ∧ q = dataA e j := by
 unfold fromA at h; obtain ⟨j, hj, rfl⟩ := List.mem_map.1 h; obtain ⟨k, hk⟩ := List.getElem?_of_mem hj; rw [List.getElem?_drop] at hk; obtain ⟨hl, hk⟩ := List.getElem?_eq_some_iff.1 hk; simp at hl hk; exact ⟨j, by omega, by omega, rfl⟩
theorem from_weight (L L' : Int) (e : En) (i : Nat) (hf : e.life = L') : pws L L' (fromA e i) ≤ (flyN e - i) * (if e.peer = L then 2 else 3) := by
 have hgen : ∀ l : List Nat, pws L L' (l.map (dataA e)) ≤ l.length * (if e.peer = L then 2 else 3) := by
  intro l; induction l with
  | nil => simp [pws]
  | cons x l ih =>
   have e1 : pws L L' ((x :: l).map (dataA e)) = pw L L' (dataA e x) + pws L L' (l.map (dataA e)) := by simp [pws]
   have e2 : pw L L' (dataA e x) = (if e.peer = L then 2 else 3) := by
    unfold pw wgt dataA; simp only [hf, beq_self_eq_true, if_true]; by_cases h : e.peer = L
    ·simp [h]
    ·have : (e.peer == L) = false := by simpa using h
     simp [h, this]
   rw [e1, e2, List.length_cons, Nat.add_mul, Nat.one_mul]; omega
 have := hgen ((List.range (flyN e)).drop i); simpa [fromA] using this
theorem data_proper {e : En} (h : GoodP e) (hp : e.phase = 3) {i : Nat} (hi : i < flyN e) : properB (dataA e i) = true := by
 have hf := fly_le e; have ho := h.op hp; have hb := bits_bd e; have hl := h.len; have hr := h.room; have hx : e.out[i]? = some e.out[i] := List.getElem?_eq_getElem (by omega); have ht := (h.outs i _ hx).1; have e0 : properB (dataA e i) = (decide (1 ≤ e.life) && decide (e.life ≤ most) && decide (0 ≤ e.peer) && decide (e.peer ≤ most) && (decide (0 < e.peer) && decide (0 ≤ e.base + i) && decide (e.base + i < most) && decide ((e.out.getD i ⟨emptyT, false⟩).t.size ≤ 20) && decide (0 ≤ e.want) && decide (e.want ≤ most) && decide (0 ≤ bitsA e) && decide (bitsA e ≤ 7))) := rfl; rw [e0]; simp only [Bool.and_eq_true, decide_eq_true_eq]; have e1 : (e.out.getD i ⟨emptyT, false⟩).t = e.out[i].t := by simp [List.getD, hx]
 rw [e1]; refine ⟨⟨⟨⟨h.life.1, h.life.2⟩, h.peer.1⟩, h.peer.2⟩, ⟨⟨⟨⟨⟨⟨ho.1, ?_⟩, ?_⟩, ht⟩, h.want.1⟩, h.want.2⟩, hb.1⟩, hb.2⟩
 ·have := h.base; omega
 ·omega
theorem report_proper {e : En} (h : GoodP e) (hp : 0 < e.peer) : properB (reportA e) = true := by
 have hb := bits_bd e; have e0 : properB (reportA e) = (decide (1 ≤ e.life) && decide (e.life ≤ most) && decide (0 ≤ e.peer) && decide (e.peer ≤ most) && (decide (0 < e.peer) && true && true && decide (0 ≤ e.want) && decide (e.want ≤ most) && decide (0 ≤ bitsA e) && decide (bitsA e ≤ 7))) := by
  have e1 : decide (emptyT = emptyT) = true := decide_eq_true rfl; have e2 : properB (reportA e) = (decide (1 ≤ e.life) && decide (e.life ≤ most) && decide (0 ≤ e.peer) && decide (e.peer ≤ most) && (decide (0 < e.peer) && true && decide (emptyT = emptyT) && decide (0 ≤ e.want) && decide (e.want ≤ most) && decide (0 ≤ bitsA e) && decide (bitsA e ≤ 7))) := rfl; rw [e2, e1]
 rw [e0]; simp only [Bool.and_eq_true, decide_eq_true_eq, Bool.and_true]; exact ⟨⟨⟨⟨h.life.1, h.life.2⟩, h.peer.1⟩, h.peer.2⟩, ⟨⟨⟨⟨hp, h.want.1⟩, h.want.2⟩, hb.1⟩, hb.2⟩⟩
theorem hello_proper {e : En} (h : GoodP e) : properB (helloA e) = true := by
 have e1 : decide (emptyT = emptyT) = true := decide_eq_true rfl; have e2 : properB (helloA e) = (decide (1 ≤ e.life) && decide (e.life ≤ most) && decide (0 ≤ e.peer) && decide (e.peer ≤ most) && (true && decide (emptyT = emptyT) && true && true)) := rfl; rw [e2, e1]; simp only [Bool.and_eq_true, decide_eq_true_eq, Bool.and_true]; exact ⟨⟨⟨h.life.1, h.life.2⟩, h.peer.1⟩, h.peer.2⟩
theorem over_pot {e : En} (_h : GoodP e) {L' life : Int} (h1 : e.peer < life) (h2 : life ≤ L') : pot L' (overA e life).1 + 3 ≤ pot L' e := by
 have hf := fly_le e; have e1 : (overA e life).1.out.length = e.out.length - flyN e := by simp [overA]
 have e2 : flyN (overA e life).1 = 0 := rfl; unfold pot; rw [e1, e2]; have e3 : (overA e life).1.peer = life := rfl; have e4 : (overA e life).1.phase = 2 := rfl; rw [e3, e4, if_neg (show ¬ (2 : Int) = 3 by omega)]; have : (L' - e.peer).toNat ≥ (L' - life).toNat + 1 := by omega
 split <;> omega
theorem take_weight {e : En} {p : Pk} {L' : Int} (hg : goodB e = true) (hp : properB p = true) (hL : p.frm ≤ L') (hpeer : e.peer ≤ L') :
  (takeA e p).1.life = e.life ∧ (takeA e p).1.peer ≤ L' ∧ e.peer ≤ (takeA e p).1.peer ∧ (∀ q ∈ (takeA e p).2.1.packets, properB q = true ∧ q.frm = e.life) ∧
   pws L' e.life (takeA e p).2.1.packets + pot L' (takeA e p).1 < pw e.life L' p + pot L' e := by
 have hG := good_iff.1 hg; have hf := proper_from hp; have hgood := take_good hg hp; have hw : 1 ≤ pw e.life L' p := by unfold pw wgt; split <;> split <;> split <;> omega
 unfold takeA at hgood ⊢; rw [hg, hp] at hgood ⊢; simp only [Bool.and_self, Bool.true_eq_false, if_false] at hgood ⊢; by_cases hlt : p.frm < e.peer
 ·rw [if_pos hlt]; refine ⟨rfl, hpeer, Int.le_refl _, fun q hq => absurd hq (List.not_mem_nil), ?_⟩; show pws L' e.life [] + pot L' e < pw e.life L' p + pot L' e; rw [pws_nil]; omega
 ·rw [if_neg hlt] at hgood ⊢; simp only at hgood ⊢; have h1 : GoodP (if e.peer < p.frm then overA e p.frm else (e, [])).1 ∧ (if e.peer < p.frm then overA e p.frm else (e, [])).1.phase ≠ 1 ∧ (if e.peer < p.frm then overA e p.frm else (e, [])).1.life = e.life ∧
    (if e.peer < p.frm then overA e p.frm else (e, [])).1.peer = p.frm ∧ pot L' (if e.peer < p.frm then overA e p.frm else (e, [])).1 ≤ pot L' e := by
   split
   ·rename_i hpl; exact ⟨over_good hG hf.1 hf.2.1, by show ¬ (2 : Int) = 1; omega, rfl, rfl, by have := over_pot hG hpl hL; omega⟩
   ·have hph : e.phase ≠ 1 := fun h1 => by
     have := (hG.cl (by omega)).2.2.2; omega
    exact ⟨hG, hph, rfl, by show e.peer = p.frm; omega, Nat.le_refl _⟩
  generalize (if e.peer < p.frm then overA e p.frm else (e, [])) = o at h1 hgood ⊢; obtain ⟨e1, lost⟩ := o; simp only at h1 hgood ⊢; obtain ⟨g1, ph1, lf1, pr1, pt1⟩ := h1; have hpp : 0 < e1.peer := by omega
  cases hm : (p.to == e1.life) with
  | false =>
   simp only [hm, Bool.false_and, Bool.false_eq_true, if_false, Bool.or_self] at hgood ⊢; have e0 : ((e1.base + (flyN e1 : Int)) - e1.base).toNat = flyN e1 := by omega
   have e2 : fromA e1 (flyN e1) = [] := List.eq_nil_of_length_eq_zero (by rw [fromA_len]; omega); rw [e0, e2]; simp only [List.append_nil]; refine ⟨lf1, by omega, by omega, fun q hq => ?_, ?_⟩
   ·simp at hq; subst hq; exact ⟨hello_proper g1, lf1⟩
   ·rw [pws_one]; have e3 : pw e.life L' p = (if p.kind = 2 then 1 else 0) + 2 + (if p.frm = L' then 0 else 1) := by
     unfold pw wgt; rw [← lf1, hm]; simp
    have e4 : pw L' e.life (helloA e1) = 0 + (if p.frm = L' then 1 else 2) + 0 := by
     unfold pw wgt helloA; simp only [lf1, pr1]; simp
    rw [e3, e4]; split <;> split <;> omega
  | true =>
   have hto : p.to = e1.life := by simpa using hm
   simp only [hm, Bool.true_and, if_true] at hgood ⊢; have h2 : ∃ e2, (if (e1.phase == 2) = true then { e1 with phase := 3 } else e1) = e2 ∧ GoodP e2 ∧ e2.phase = 3 ∧ e2.life = e1.life ∧ e2.peer = e1.peer ∧ e2.base = e1.base ∧ e2.out = e1.out ∧
     3 * (flyN e2 - flyN e1) + (if e1.phase = 2 then 3 else 0) + pot L' e2 = pot L' e1 ∧ flyN e1 ≤ flyN e2 := by
    by_cases h : e1.phase = 2
    ·refine ⟨{ e1 with phase := 3 }, by rw [if_pos (by simpa using h)], opened_good g1 h, rfl, rfl, rfl, rfl, rfl, ?_, ?_⟩
     ·have hf1 : flyN e1 = 0 := by unfold flyN; rw [if_neg (by omega)]
      have hf2 : flyN { e1 with phase := 3 } = min e1.out.length 4 := rfl; unfold pot; rw [hf1, hf2, if_pos h, if_neg (show ¬ e1.phase = 3 by omega)]; simp only [if_true]; omega
     ·have hf1 : flyN e1 = 0 := by unfold flyN; rw [if_neg (by omega)]
      omega
    ·have h3 : e1.phase = 3 := by
      by_cases h3 : e1.phase = 3
      ·exact h3
      ·have := (g1.cl h3).2.2.2; omega
     refine ⟨e1, by rw [if_neg (by simpa using h)], g1, h3, rfl, rfl, rfl, rfl, ?_, Nat.le_refl _⟩; rw [if_neg h]; omega
   obtain ⟨e2, he2, g2, ph2, lf2, pr2, b2, o2, pt2, fl2⟩ := h2; rw [he2] at hgood ⊢; have h3 : ∃ e3 gone, (if (p.kind != 1) = true then ackedA e2 p (flyN e1) else e2) = e3 ∧ GoodP e3 ∧ e3.phase = 3 ∧ e3.life = e1.life ∧ e3.peer = e1.peer ∧ e3.base = e1.base + (gone : Nat) ∧ gone ≤ flyN e1 ∧
     3 * (flyN e3 - (flyN e1 - gone)) + (if e1.phase = 2 then 3 else 0) + pot L' e3 = pot L' e1 ∧ flyN e1 - gone ≤ flyN e3 := by
    have stay : ∃ e3 gone, e2 = e3 ∧ GoodP e3 ∧ e3.phase = 3 ∧ e3.life = e1.life ∧ e3.peer = e1.peer ∧ e3.base = e1.base + (gone : Nat) ∧ gone ≤ flyN e1 ∧
     3 * (flyN e3 - (flyN e1 - gone)) + (if e1.phase = 2 then 3 else 0) + pot L' e3 = pot L' e1 ∧ flyN e1 - gone ≤ flyN e3 :=
     ⟨e2, 0, rfl, g2, ph2, lf2, pr2, by rw [b2]; simp, Nat.zero_le _, by rw [Nat.sub_zero]; exact pt2, by rw [Nat.sub_zero]; exact fl2⟩
    split
    ·have ga := acked_good g2 ph2 p fl2; unfold ackedA at ga ⊢; split
     ·exact stay
     ·rename_i hc; rw [if_neg hc] at ga; have hf1 := fly_le e1; have hgn : (p.ack - e2.base).toNat ≤ flyN e1 := by omega
      have hlen : (markA p.held (flyN e1 - (p.ack - e2.base).toNat) 0 (e2.out.drop (p.ack - e2.base).toNat)).length = e1.out.length - (p.ack - e2.base).toNat := by rw [markA_len, o2]; simp
      have hff : flyN { e2 with out := markA p.held (flyN e1 - (p.ack - e2.base).toNat) 0 (e2.out.drop (p.ack - e2.base).toNat), base := p.ack } = min (e1.out.length - (p.ack - e2.base).toNat) 4 := by
       show (if e2.phase = 3 then min (List.length _) 4 else 0) = _; rw [if_pos ph2]; show min (markA _ _ _ _).length 4 = _; rw [hlen]
      have hf2 : flyN e2 = min e1.out.length 4 := by unfold flyN; rw [if_pos ph2, o2]
      refine ⟨_, (p.ack - e2.base).toNat, rfl, ga, ph2, lf2, pr2, by show p.ack = _; omega, hgn, ?_, by rw [hff]; omega⟩; have pa : pot L' { e2 with out := markA p.held (flyN e1 - (p.ack - e2.base).toNat) 0 (e2.out.drop (p.ack - e2.base).toNat), base := p.ack } = 3 * (e1.out.length - (p.ack - e2.base).toNat - min (e1.out.length - (p.ack - e2.base).toNat) 4) + 3 * (2 * (L' - e1.peer).toNat) := by
       unfold pot; rw [hff]; show 3 * ((markA _ _ _ _).length - _) + _ = _; rw [hlen]; simp only [ph2, pr2, if_true, Nat.add_zero]
      have pb : pot L' e2 = 3 * (e1.out.length - min e1.out.length 4) + 3 * (2 * (L' - e1.peer).toNat) := by
       unfold pot; rw [hf2, o2, pr2, ph2, if_pos rfl]; omega
      rw [pa, hff]; rw [pb, hf2] at pt2; omega
    ·exact stay
   obtain ⟨e3, gone, he3, g3, ph3, lf3, pr3, b3, hgn, pt3, fl3⟩ := h3; rw [he3] at hgood ⊢; have h4 : ∃ e4 tk, (if (p.kind == 2) = true then cameA e3 p else (e3, [])) = (e4, tk) ∧ GoodP e4 ∧ e4.phase = 3 ∧ e4.life = e1.life ∧ e4.peer = e1.peer ∧ e4.base = e3.base ∧ flyN e4 = flyN e3 ∧ pot L' e4 = pot L' e3 := by
    split
    ·rename_i hk; have hd := proper_data hp (by simpa using hk); have gc := came_good g3 ph3 hd.1 hd.2; unfold cameA at gc ⊢; split
     ·exact ⟨e3, _, rfl, g3, ph3, lf3, pr3, rfl, rfl, rfl⟩
     ·rename_i hc; rw [if_neg hc] at gc; exact ⟨_, _, rfl, gc, ph3, lf3, pr3, rfl, rfl, rfl⟩
    ·exact ⟨e3, _, rfl, g3, ph3, lf3, pr3, rfl, rfl, rfl⟩
   obtain ⟨e4, tk, he4, g4, ph4, lf4, pr4, b4, fl4, pt4⟩ := h4; rw [he4] at hgood ⊢; simp only [List.nil_append] at hgood ⊢; have hs : ((e1.base + (flyN e1 : Int)) - e4.base).toNat = flyN e1 - gone := by rw [b4, b3]; omega
   rw [hs]; have hrep : ∀ q, q ∈ (if ((e1.phase == 2 && p.kind == 1) || p.kind == 2) = true then [reportA e4] else []) → q = reportA e4 := by
    intro q hq; split at hq
    ·simpa using hq
    ·cases hq
   refine ⟨by rw [lf4, lf1], by rw [pr4]; omega, by rw [pr4]; omega, fun q hq => ?_, ?_⟩
   ·rcases List.mem_append.1 hq with hq | hq
    ·obtain ⟨j, _, hj, rfl⟩ := fromA_mem hq; exact ⟨data_proper g4 ph4 hj, by show e4.life = _; rw [lf4, lf1]⟩
    ·have := hrep q hq; subst this; exact ⟨report_proper g4 (by rw [pr4]; exact hpp), by show e4.life = _; rw [lf4, lf1]⟩
   ·rw [pws_app]; have hfw := from_weight L' e.life e4 (flyN e1 - gone) (by rw [lf4, lf1]); rw [pr4, pr1, fl4] at hfw; have hrw : pws L' e.life (if ((e1.phase == 2 && p.kind == 1) || p.kind == 2) = true then [reportA e4] else []) = if ((e1.phase == 2 && p.kind == 1) || p.kind == 2) = true then (if p.frm = L' then 1 else 2) else 0 := by
     split
     ·rw [pws_one]; unfold pw wgt reportA; simp only [lf4, lf1, pr4, pr1]; simp
     ·rfl
    rw [hrw, pt4]; have hpw : pw e.life L' p = (if p.kind = 2 then 1 else 0) + 1 + (if p.frm = L' then 0 else 1) := by
     unfold pw wgt; rw [← lf1, hm]; simp
    rw [hpw]; have hb1 : ((e1.phase == 2 && p.kind == 1) || p.kind == 2) = true ↔ (e1.phase = 2 ∧ p.kind = 1) ∨ p.kind = 2 := by simp
    have hcc : (((e1.phase == 2 && p.kind == 1) || p.kind == 2) = true ∧ ((e1.phase = 2 ∧ p.kind = 1) ∨ p.kind = 2)) ∨ ¬ ((e1.phase == 2 && p.kind == 1) || p.kind == 2) = true := by
     by_cases hr : ((e1.phase == 2 && p.kind == 1) || p.kind == 2) = true
     ·exact .inl ⟨hr, hb1.1 hr⟩
     ·exact .inr hr
    by_cases hcur : p.frm = L'
    ·rw [if_pos hcur] at hfw; rw [if_pos hcur, if_pos hcur]; rcases hcc with ⟨hr, ⟨ha, hb⟩ | hb⟩ | hr
     ·rw [if_pos ha] at pt3; rw [if_pos hr, if_neg (show ¬ p.kind = 2 by omega)]; omega
     ·rw [if_pos hr, if_pos hb]; omega
     ·rw [if_neg hr]; omega
    ·rw [if_neg hcur] at hfw; rw [if_neg hcur, if_neg hcur]; rcases hcc with ⟨hr, ⟨ha, hb⟩ | hb⟩ | hr
     ·rw [if_pos ha] at pt3; rw [if_pos hr, if_neg (show ¬ p.kind = 2 by omega)]; omega
     ·rw [if_pos hr, if_pos hb]; omega
     ·rw [if_neg hr]; omega
end Go.Proofs.Ytejabnoidhlfaaa
