/- Contracts and lemmas that the claim uses. -/
import Derived.Test.YtejabnoidhlfaaaV47
set_option maxRecDepth 100000
set_option maxHeartbeats 16000000
namespace Go.Proofs.Ytejabnoidhlfaaa
theorem take_out {e : En} {p : Pk} (hg : goodB e = true) (hp : properB p = true) : ∃ g : Nat, (takeA e p).1.out.map (·.t) = (e.out.map (·.t)).drop g ∧ g ≤ flyN e ∧ (takeA e p).1.life = e.life ∧
  ((takeA e p).1.phase = 3 → sameS e (takeA e p).1 → (takeA e p).1.base = e.base + g) ∧ (¬ ((takeA e p).1.phase = 3 ∧ sameS e (takeA e p).1) → g = flyN e ∧ ((takeA e p).1.phase = 3 → (takeA e p).1.base = 0)) := by
 have hG := good_iff.1 hg; have hidle : ∀ e1 : En, e1 = e → ∃ g : Nat, e1.out.map (·.t) = (e.out.map (·.t)).drop g ∧ g ≤ flyN e ∧ e1.life = e.life ∧ (e1.phase = 3 → sameS e e1 → e1.base = e.base + g) ∧ (¬ (e1.phase = 3 ∧ sameS e e1) → g = flyN e ∧ (e1.phase = 3 → e1.base = 0)) := fun e1 h1 => by
  subst h1; refine ⟨0, by simp, Nat.zero_le _, rfl, fun _ _ => by simp, fun hn => ?_⟩; by_cases h3 : e1.phase = 3
  ·exact absurd ⟨h3, h3, rfl, rfl⟩ hn
  ·exact ⟨by unfold flyN; rw [if_neg h3], fun h => absurd h h3⟩
 rcases take_shape hg hp with ⟨h, _⟩ | ⟨e1, ls, hd, ho, q1, q2, hG1, h⟩
 ·rw [h]; exact hidle e rfl
 ·-- an earlier session is over, or none is
  have h1 : (e1 = e ∧ e.peer = p.frm) ∨ (e1.phase = 2 ∧ e1.base = 0 ∧ e.peer < p.frm ∧ e1.out.map (·.t) = (e.out.map (·.t)).drop (flyN e)) := by
   rcases over_eq e p with ⟨h1, h2⟩ | ⟨h1, h2⟩
   ·rw [h2] at ho; have hA : (overA e p.frm).1 = e1 := by rw [ho]
    rw [← hA]; refine .inr ⟨rfl, rfl, h1, ?_⟩; show ((e.out.drop (flyN e)).map (fun x => (⟨x.t, false⟩ : Ou))).map (·.t) = _; rw [List.map_map, ← List.map_drop]; rfl
   ·rw [h2] at ho; injection ho with h3 _; exact .inl ⟨h3.symm, by omega⟩
  obtain ⟨o1, o2, o3, o4, o5⟩ := open_base e1; have htx : ∀ n, (ackedA (openE e1) p n).out.map (·.t) = (e1.out.map (·.t)).drop (goneA (openE e1) p n) := fun n => by
   unfold ackedA goneA; split
   ·rw [o2, List.drop_zero]
   ·show (markA _ _ _ _).map (·.t) = _; rw [markA_texts, o2, List.map_drop]
  have key : ∀ (e' : En) (g : Nat), e'.peer = e1.peer → e'.life = e1.life → e'.phase = 3 → e'.base = e1.base + g → g ≤ flyN e1 → e'.out.map (·.t) = (e1.out.map (·.t)).drop g →
    ∃ g : Nat, e'.out.map (·.t) = (e.out.map (·.t)).drop g ∧ g ≤ flyN e ∧ e'.life = e.life ∧ (e'.phase = 3 → sameS e e' → e'.base = e.base + g) ∧ (¬ (e'.phase = 3 ∧ sameS e e') → g = flyN e ∧ (e'.phase = 3 → e'.base = 0)) := fun e' g r1 r2 r3 r4 r5 r6 => by
   rcases h1 with ⟨h1, h2⟩ | ⟨h1, h2, h3, h4⟩
   ·subst h1; by_cases h3 : e1.phase = 3
    ·exact ⟨g, r6, r5, r2, fun _ _ => r4, fun hn => absurd ⟨r3, h3, r1.symm, r2.symm⟩ hn⟩
    ·have hf : flyN e1 = 0 := by unfold flyN; rw [if_neg h3]
     have hg0 : g = 0 := by omega
     subst hg0; exact ⟨0, r6, Nat.zero_le _, r2, fun _ hs => absurd hs.1 h3, fun _ => ⟨hf.symm, fun _ => by rw [r4, (hG.cl h3).1]; rfl⟩⟩
   ·have hf : flyN e1 = 0 := by unfold flyN; rw [if_neg (by omega)]
    have hg0 : g = 0 := by omega
    subst hg0; refine ⟨flyN e, by rw [r6, List.drop_zero, h4], Nat.le_refl _, by rw [r2, q2], fun _ hs => ?_, fun _ => ⟨rfl, fun _ => by rw [r4, h2]; rfl⟩⟩; have := hs.2.1; omega
  rcases h with ⟨h, hm⟩ | ⟨hm, h⟩
  ·rw [h]; rcases h1 with ⟨h1, _⟩ | ⟨h1, h2, h3, h4⟩
   ·exact hidle e1 h1
   ·exact ⟨flyN e, h4, Nat.le_refl _, q2, fun hp3 => by omega, fun _ => ⟨rfl, fun _ => h2⟩⟩
  ·have hop : (openE e1).phase = 3 := by
    rw [o5]; split
    ·rfl
    ·rename_i hno; by_cases h3 : e1.phase = 3
     ·exact h3
     ·have := (hG1.cl h3).2.2.2; have := (proper_from hp).1; omega
   obtain ⟨a1, a2, a3, a4, a5⟩ := acked_base (openE e1) p (flyN e1); rcases h with h | h | h
   ·rw [h]; exact key _ 0 o4 o3 hop (by rw [o1]; simp) (Nat.zero_le _) (by rw [o2, List.drop_zero])
   ·rw [h]; exact key _ _ (by rw [a4, o4]) (by rw [a3, o3]) (by rw [a5]; exact hop) (by rw [a1, o1]) a2 (htx _)
   ·rw [h]; obtain ⟨c1, c2, c3, c4, c5⟩ := came_base (ackedA (openE e1) p (flyN e1)) p; exact key _ _ (by rw [c4, a4, o4]) (by rw [c5, a3, o3]) (by rw [c3, a5]; exact hop) (by rw [c1, a1, o1]) a2 (by rw [c2]; exact htx _)
/-! ### what an end is told to send -/
theorem textsA_app (a b : List Pk) : textsA (a ++ b) = textsA a ++ textsA b := by
 unfold textsA; rw [List.filter_append, List.map_append]
theorem textsA_other {l : List Pk} (h : ∀ p ∈ l, p.kind ≠ 2) : textsA l = [] := by
 unfold textsA; rw [List.filter_eq_nil_iff.2 (fun p hp => by simp [h p hp])]; rfl
theorem takeB_texts {e1 : En} {ls : List ByteArray} {p : Pk} (hb : 0 ≤ (takeB e1 ls p).1.base) : textsA (takeB e1 ls p).2.1.packets = (((takeB e1 ls p).1.out.take (flyN (takeB e1 ls p).1)).drop (e1.base + flyN e1 - (takeB e1 ls p).1.base).toNat).map (·.t) := by
 obtain ⟨e4, he4⟩ : ∃ e4, (takeB e1 ls p).1 = e4 := ⟨_, rfl⟩; rw [he4] at hb ⊢; have h1 : ∃ a b, (takeB e1 ls p).2.1.packets = a ++ fromA e4 (e1.base + flyN e1 - e4.base).toNat ++ b ∧ (∀ q ∈ a, q.kind ≠ 2) ∧ ∀ q ∈ b, q.kind ≠ 2 := by
  rw [← he4]; refine ⟨_, _, rfl, fun q hq => ?_, fun q hq => ?_⟩
  ·split at hq
   ·cases hq
   ·rw [List.mem_singleton.1 hq]; show (1 : Int) ≠ 2; omega
  ·split at hq
   ·rw [List.mem_singleton.1 hq]; show (3 : Int) ≠ 2; omega
   ·cases hq
 obtain ⟨a, b, h2, h3, h4⟩ := h1; rw [h2, textsA_app, textsA_app, textsA_other h3, textsA_other h4, List.nil_append, List.append_nil, textsA_from hb]
theorem takeB_lost (e1 : En) (ls : List ByteArray) (p : Pk) : (takeB e1 ls p).2.1.lost = ls := rfl
theorem take_lost {e : En} {p : Pk} (hg : goodB e = true) (hp : properB p = true) (h3 : e.phase ≠ 3) : (takeA e p).2.1.lost = [] := by
 by_cases hd : p.frm < e.peer
 ·rw [tk_old hg hp hd]; rfl
 obtain ⟨e1, ls, ho⟩ : ∃ e1 ls, (if e.peer < p.frm then overA e p.frm else (e, [])) = (e1, ls) := ⟨_, _, rfl⟩; rw [tk_go hg hp hd ho, takeB_lost]; rcases over_eq e p with ⟨_, h2⟩ | ⟨_, h2⟩
 ·rw [h2] at ho; injection ho with _ h4; rw [← h4, show flyN e = 0 by unfold flyN; rw [if_neg h3]]; simp
 ·rw [h2] at ho; injection ho with _ h4; exact h4.symm
theorem take_closed {e : En} {p : Pk} (hg : goodB e = true) (hp : properB p = true) (h3 : (takeA e p).1.phase ≠ 3) : textsA (takeA e p).2.1.packets = [] ∧ (takeA e p).2.1.taken = [] := by
 by_cases hd : p.frm < e.peer
 ·rw [tk_old hg hp hd]; exact ⟨rfl, rfl⟩
 obtain ⟨e1, ls, ho⟩ : ∃ e1 ls, (if e.peer < p.frm then overA e p.frm else (e, [])) = (e1, ls) := ⟨_, _, rfl⟩; have hgood := (good_iff.1 (take_good hg hp)).base; rw [tk_go hg hp hd ho] at h3 hgood ⊢; refine ⟨?_, ?_⟩
 ·rw [takeB_texts hgood, show flyN (takeB e1 ls p).1 = 0 by unfold flyN; rw [if_neg h3]]; simp
 ·cases hm : (p.to == e1.life) with
  | false => rw [tb_foreign hm]
  | true =>
   by_cases hk : p.kind = 2
   ·exfalso; have hph : e1.phase = 2 ∨ e1.phase = 3 := by
     rcases over_eq e p with ⟨h1, h2⟩ | ⟨h1, h2⟩
     ·rw [h2] at ho; have hA : (overA e p.frm).1 = e1 := by rw [ho]
      rw [← hA]; exact .inl rfl
     ·rw [h2] at ho; injection ho with h4 _; subst h4; by_cases h5 : e.phase = 3
      ·exact .inr h5
      ·rcases ((good_iff.1 hg).cl h5).2.2.2 with h6 | h6
       ·have := (proper_from hp).1; omega
       ·exact .inl h6.1
    have h6 : (openE e1).phase = 3 := by
     rcases hph with h6 | h6
     ·unfold openE; rw [if_pos (by simpa using h6)]
     ·unfold openE; rw [if_neg (by rw [h6]; decide)]; exact h6
    have h7 : (ackedA (openE e1) p (flyN e1)).phase = 3 := by
     unfold ackedA; split
     ·exact h6
     ·exact h6
    have h8 : (cameA (ackedA (openE e1) p (flyN e1)) p).1.phase = 3 := by
     unfold cameA; split
     ·exact h7
     ·exact h7
    rw [tb_data hm hk] at h3; exact h3 h8
   ·unfold takeB; simp [hm, hk]
theorem lost_same {l : Lp} (h : Saf l) {i : Int} (hi : i = 0 ∨ i = 1) {p : Pk} (hp : properB p = true) : onTale l i (fun v => { v with lost := v.lost ++ (takeA (l.end_ i) p).2.1.lost }) = lostL l i (takeA (l.end_ i) p).2.1.lost := by
 by_cases h3 : (l.end_ i).phase = 3
 ·obtain ⟨k, t, a1, a2, a3, a4, a5, a6, a7⟩ := h.nowT hi h3; have hix : taleIx (l.end_ i) i l.tales = (k : Int) := taleIx_at h.ord a2 (keyB_iff.2 ⟨a3, a4, a5⟩); unfold onTale lostL; simp only [hix, a1]
 ·have hn := (h.now i hi).1 h3; rw [take_lost (h.ok.good i) hp h3, lostL_nil]; unfold onTale; simp only [List.append_nil]; split
  ·rw [setAt_id _ _ (fun x => rfl)]
  ·rfl
def rTaken (l : Lp) (i : Int) (p : Pk) : Lp :=
 let r := takeA (l.end_ i) p
 let l1 := (onTale l i (fun v => { v with lost := v.lost ++ r.2.1.lost })).setEnd i r.1
 let l2 := if taleIx r.1 i l1.tales < 0 ∧ r.1.phase = 3 then { l1 with tales := l1.tales ++ [⟨i, r.1.life, r.1.peer, [], [], []⟩] } else l1
 onTale l2 i (fun v => { v with sent := v.sent ++ textsA r.2.1.packets, taken := v.taken ++ r.2.1.taken })
theorem rTakes_eq (l : Lp) (x : Tp) : rTakes l x = wayA (rTaken l x.to x.p) x.to (takeA (l.end_ x.to) x.p).2.1.packets := rfl
theorem onTale_id (l : Lp) (i : Int) (f : Ta → Ta) (hf : ∀ v, f v = v) : onTale l i f = l := by
 unfold onTale; simp only; split
 ·rw [setAt_id _ _ hf]
 ·rfl
theorem taken_closed {l : Lp} (h : Saf l) {i : Int} (hi : i = 0 ∨ i = 1) {p : Pk} (hp : properB p = true) (h3 : (takeA (l.end_ i) p).1.phase ≠ 3) : SameL (takenL l i p) (rTaken l i p) := by
 obtain ⟨hx, ht⟩ := take_closed (h.ok.good i) hp h3; unfold takenL rTaken; simp only; rw [lost_same h hi hp, ht, tellB_nil, becomes_closed h3, if_neg (fun q => h3 q.2), hx, onTale_id _ _ _ (fun v => by simp)]; exact SameL.setNow _ _ _
theorem taleIx_setAt {e : En} {i : Int} {f : Ta → Ta} (hf : ∀ t, keyB e i (f t) = keyB e i t) (ts : List Ta) (k : Nat) : taleIx e i (setAt f k ts) = taleIx e i ts := by
 have h : ∀ (l : List Ta) (k : Nat), (setAt f k l).findIdx? (keyB e i) = l.findIdx? (keyB e i) := by
  intro l; induction l with
  | nil => intro k; simp [setAt]
  | cons x l ih =>
   intro k; cases k with
   | zero => rw [setAt, List.findIdx?_cons, List.findIdx?_cons, hf]
   | succ k => rw [setAt, List.findIdx?_cons, List.findIdx?_cons, ih]
 unfold taleIx; rw [h]
theorem takeB_peer (e1 : En) (ls : List ByteArray) (p : Pk) : (takeB e1 ls p).1.peer = e1.peer := by
 have h2 : ∀ (b : Bool) (e : En), (if b = true then ({ e with phase := 3 } : En) else e).peer = e.peer := fun b e => by cases b <;> rfl
 have h3 : ∀ (b : Bool) (e : En) (n : Nat), (if b = true then ackedA e p n else e).peer = e.peer := fun b e n => by
  cases b
  ·rfl
  ·show (ackedA e p n).peer = _; unfold ackedA; split <;> rfl
 have h4 : ∀ (b : Bool) (e : En), (if b = true then cameA e p else (e, [])).1.peer = e.peer := fun b e => by
  cases b
  ·rfl
  ·show (cameA e p).1.peer = _; unfold cameA; split <;> rfl
 unfold takeB; simp only; rw [h4, h3, h2]
theorem take_samelost {e : En} {p : Pk} (hg : goodB e = true) (hp : properB p = true) (hs : sameS e (takeA e p).1) : (takeA e p).2.1.lost = [] ∧ (takeA e p = (e, noGn, 0) ∨ takeA e p = takeB e [] p) := by
 by_cases hd : p.frm < e.peer
 ·rw [tk_old hg hp hd]; exact ⟨rfl, .inl rfl⟩
 obtain ⟨e1, ls, ho⟩ : ∃ e1 ls, (if e.peer < p.frm then overA e p.frm else (e, [])) = (e1, ls) := ⟨_, _, rfl⟩; have hk := tk_go hg hp hd ho; rcases over_eq e p with ⟨h1, h2⟩ | ⟨h1, h2⟩
 ·exfalso; have h3 := hs.2.1; rw [hk, takeB_peer] at h3; rw [h2] at ho; have hA : (overA e p.frm).1 = e1 := by rw [ho]
  rw [← hA] at h3; have h5 : e.peer = p.frm := h3; omega
 ·rw [h2] at ho; injection ho with h4 h5; subst h4; subst h5; rw [hk]; exact ⟨rfl, .inr rfl⟩
theorem taken_goes {l : Lp} (h : Saf l) {i : Int} (hi : i = 0 ∨ i = 1) {p : Pk} (hp : properB p = true) (h3 : (takeA (l.end_ i) p).1.phase = 3) (hs : sameS (l.end_ i) (takeA (l.end_ i) p).1) : SameL (takenL l i p) (rTaken l i p) := by
 have hg := h.ok.good i; obtain ⟨hl, hR⟩ := take_samelost hg hp hs; have hb := (good_iff.1 (take_good hg hp)).base; have hb0 := (good_iff.1 hg).base; obtain ⟨k, t, a1, a2, a3, a4, a5, a6, a7⟩ := h.nowT hi hs.1; have hix : taleIx (takeA (l.end_ i) p).1 i l.tales = (k : Int) := taleIx_at h.ord a2 (keyB_iff.2 ⟨a3, a4.trans hs.2.2, a5.trans hs.2.1⟩); have htx : textsA (takeA (l.end_ i) p).2.1.packets = moreA (takeA (l.end_ i) p).1 t.sent.length := by
  unfold moreA; rcases hR with hR | hR
  ·rw [hR]; show [] = (((l.end_ i).out.take (flyN (l.end_ i))).drop (t.sent.length - (l.end_ i).base.toNat)).map (·.t); rw [List.drop_eq_nil_of_le (by rw [List.length_take]; omega)]; rfl
  ·rw [hR] at hb ⊢; rw [takeB_texts hb]; congr 2; omega
 unfold takenL rTaken; simp only; rw [lost_same h hi hp, hl, lostL_nil]; obtain ⟨R, hRR⟩ : ∃ R, takeA (l.end_ i) p = R := ⟨_, rfl⟩; rw [hRR] at h3 hs hix htx ⊢; have hend : (l.setEnd i R.1).end_ i = R.1 := by rw [end_setEnd hi hi, if_pos rfl]
 have hnow : (l.setEnd i R.1).now i = (k : Int) := by rw [← a1]; rcases hi with rfl | rfl <;> rfl
 rw [tales_setEnd, hix, if_neg (fun q => by omega)]; unfold tellB onTale; simp only; rw [becomes_same hi h3 hs, a1, hend, tales_setEnd, hix]; have hn2 : ({ l.setEnd i R.1 with tales := setAt (sentA R.1) (k : Int).toNat l.tales } : Lp).now i = (k : Int) := by
  rw [← hnow]; rcases hi with rfl | rfl <;> rfl
 rw [hn2, if_pos (by omega), if_pos (by omega), Int.toNat_natCast]; refine ⟨rfl, rfl, rfl, ?_, rfl⟩; have hkl := (List.getElem?_eq_some_iff.1 a2).1; show setAt _ k (setAt (sentA R.1) k l.tales) = setAt _ k l.tales; rw [setAt_eq a2, setAt_eq a2, setAt_eq (x := sentA R.1 t) (List.getElem?_set_self hkl), List.set_set, sentA_more, htx]
theorem take_begins {e : En} {p : Pk} (hg : goodB e = true) (hp : properB p = true) (h3 : (takeA e p).1.phase = 3) (hs : ¬ sameS e (takeA e p).1) : e.peer ≤ (takeA e p).1.peer ∧ (takeA e p).1.life = e.life ∧ textsA (takeA e p).2.1.packets = moreA (takeA e p).1 0 := by
 obtain ⟨g, _, _, hlf, _, hn⟩ := take_out hg hp; have hb := (hn (fun q => hs q.2)).2 h3; by_cases hd : p.frm < e.peer
 ·exfalso; rw [tk_old hg hp hd] at h3 hs; exact hs ⟨h3, rfl, rfl⟩
 obtain ⟨e1, ls, ho⟩ : ∃ e1 ls, (if e.peer < p.frm then overA e p.frm else (e, [])) = (e1, ls) := ⟨_, _, rfl⟩; have hk := tk_go hg hp hd ho; have hpe : (takeA e p).1.peer = e1.peer := by rw [hk, takeB_peer]
 have h1 : e.peer ≤ e1.peer ∧ e1.base = 0 ∧ flyN e1 = 0 := by
  rcases over_eq e p with ⟨q1, q2⟩ | ⟨q1, q2⟩
  ·rw [q2] at ho; have hA : (overA e p.frm).1 = e1 := by rw [ho]
   rw [← hA]; exact ⟨by show e.peer ≤ p.frm; omega, rfl, rfl⟩
  ·rw [q2] at ho; injection ho with h4 _; subst h4; have h5 : e.phase ≠ 3 := fun h6 => hs ⟨h6, hpe.symm, hlf.symm⟩; exact ⟨Int.le_refl _, ((good_iff.1 hg).cl h5).1, by unfold flyN; rw [if_neg h5]⟩
 refine ⟨by rw [hpe]; exact h1.1, hlf, ?_⟩; rw [hk] at hb ⊢; rw [takeB_texts (by omega), h1.2.1, h1.2.2, hb]; unfold moreA; rw [hb]; rfl
theorem lostL_ix (l : Lp) (i : Int) (ls : List ByteArray) (e : En) : taleIx e i (lostL l i ls).tales = taleIx e i l.tales := by
 unfold lostL; split
 ·exact taleIx_setAt (f := fun t => { t with lost := t.lost ++ ls }) (fun t => rfl) _ _
 ·rfl
theorem taleIx_no {e : En} {i : Int} {ts : List Ta} (h : ∀ t ∈ ts, ¬ keyB e i t = true) : taleIx e i ts = -1 := by
 unfold taleIx; rw [List.findIdx?_eq_none_iff.2 (fun t ht => by have := h t ht; cases hq : keyB e i t with | true => exact absurd hq this | false => rfl)]
theorem taken_new {l : Lp} (h : Saf l) {i : Int} (hi : i = 0 ∨ i = 1) {p : Pk} (hp : properB p = true) (h3 : (takeA (l.end_ i) p).1.phase = 3) (hs : ¬ sameS (l.end_ i) (takeA (l.end_ i) p).1) : SameL (takenL l i p) (rTaken l i p) := by
 obtain ⟨hpe, hlf, htx⟩ := take_begins (h.ok.good i) hp h3 hs; have hno : taleIx (takeA (l.end_ i) p).1 i l.tales = -1 := taleIx_no (fun t ht hk => by
  obtain ⟨b1, b2, b3⟩ := keyB_iff.1 hk; have h5 := tale_of_mem h.ord ht; rw [b1, b2, b3, hlf] at h5; obtain ⟨_, _, _, k4⟩ := h.key i hi _ _ _ h5; obtain ⟨k5, k6⟩ := k4 rfl; have h7 : (takeA (l.end_ i) p).1.peer = (l.end_ i).peer := by omega
  exact hs ⟨k6 h7, h7.symm, hlf.symm⟩)
 unfold takenL rTaken; simp only; rw [lost_same h hi hp]; obtain ⟨R, hRR⟩ : ∃ R, takeA (l.end_ i) p = R := ⟨_, rfl⟩; rw [hRR] at h3 hs hno htx ⊢; obtain ⟨L, hL⟩ : ∃ L, lostL l i R.2.1.lost = L := ⟨_, rfl⟩; have hE : L.end_ i = l.end_ i := by rw [← hL, lostL_end]
 have hix : taleIx R.1 i L.tales = -1 := by rw [← hL, lostL_ix, hno]
 rw [hL]; have hend : (L.setEnd i R.1).end_ i = R.1 := by rw [end_setEnd hi hi, if_pos rfl]
 have hkb : keyB R.1 i ⟨i, R.1.life, R.1.peer, [], [], []⟩ = true := keyB_iff.2 ⟨rfl, rfl, rfl⟩; have hsn : taleIx R.1 i (L.tales ++ [⟨i, R.1.life, R.1.peer, [], [], []⟩]) = (L.tales.length : Int) := taleIx_snoc (by rw [hix]; omega) hkb; rw [tales_setEnd, hix, if_pos ⟨by omega, h3⟩]; unfold tellB onTale; simp only; rw [becomes_new hi h3 (by rw [hE]; exact hs)]; have hend2 : ({ L.setEnd i R.1 with tales := L.tales ++ [⟨i, R.1.life, R.1.peer, [], [], []⟩] } : Lp).end_ i = R.1 := hend; have hn2 : ({ (L.setEnd i R.1).setNow i L.tales.length with tales := L.tales ++ [sentA R.1 ⟨i, R.1.life, R.1.peer, [], [], []⟩] } : Lp).now i = (L.tales.length : Int) := by rcases hi with rfl | rfl <;> rfl
 rw [hn2, hend2, hsn, if_pos (by omega), if_pos (by omega), Int.toNat_natCast, setAt_last, setAt_last, sentA_more, htx]; rcases hi with rfl | rfl <;> exact ⟨rfl, rfl, rfl, rfl, rfl⟩
theorem taken_same {l : Lp} (h : Saf l) {i : Int} (hi : i = 0 ∨ i = 1) {p : Pk} (hp : properB p = true) : SameL (takenL l i p) (rTaken l i p) := by
 by_cases h3 : (takeA (l.end_ i) p).1.phase = 3
 ·by_cases hs : sameS (l.end_ i) (takeA (l.end_ i) p).1
  ·exact taken_goes h hi hp h3 hs
  ·exact taken_new h hi hp h3 hs
 ·exact taken_closed h hi hp h3
theorem carry_same {l : Lp} (h : Saf l) {k : Nat} {x : Tp} (hx : l.wire[k]? = some x) : SameL (carryA l k) (rTakes { l with wire := l.wire.eraseIdx k } x) := by
 have ht := h.ok.wire x (List.mem_of_getElem? hx); have hto : x.to = 0 ∨ x.to = 1 := by
  rcases ht.2 with h | h
  ·exact .inl h.1
  ·exact .inr h.1
 have h0 : Saf { l with wire := l.wire.eraseIdx k } := h.wires (fr := l.free) (fun y hy => .inl (List.mem_of_mem_eraseIdx hy)); rw [carry_way hx, rTakes_eq]; exact SameL.way _ _ (taken_same h0 hto ht.1)
theorem folds_same : ∀ (m : List Dd) {x y : Lp}, (∀ d ∈ m, deedB d = true) → Saf x → SameL x y → SameL (m.foldl doesA x) (m.foldl rDoes y)
 | [], _, _, _, _, h => h
 | d :: m, x, y, hm, hs, h => by
  have hd := hm d List.mem_cons_self; exact folds_same m (fun e he => hm e (List.mem_cons_of_mem _ he)) (hs.does hd) ((does_same hs hd (fun k x hx => carry_same hs hx)).trans (h.rdoes d))
theorem SameL.rk {l r : Lp} (h : SameL l r) {n m : Nat} (hk : LineK l n) (hn : n ≤ m) : Rk r m := by
 refine ⟨fun i => by rw [← h.end_]; exact hk.ok.good i, fun x hx => ?_, ?_, ?_, fun v hv => ?_⟩
 ·rw [← h.wire] at hx; have ht := hk.ok.wire x hx; refine ⟨ht.1, ?_⟩; rcases ht.2 with h1 | h1
  ·exact .inl h1.1
  ·exact .inr h1.1
 ·rw [← h.wire]; have := hk.bulk.wire; omega
 ·rw [← h.tales]; have := hk.bulk.tales; omega
 ·rw [← h.tales] at hv; have := hk.bulk.txt v hv; omega
theorem folds_rk {ds : List Dd} (h : ∀ d ∈ ds, deedB d = true) (hl : ds.length ≤ 200) (k : Nat) : SameL ((ds.take k).foldl doesA firstA) ((ds.take k).foldl rDoes firstA) ∧ Rk ((ds.take k).foldl rDoes firstA) 900000 := by
 have hm : ∀ d ∈ ds.take k, deedB d = true := fun d hd => h d (List.mem_of_mem_take hd); have hs := folds_same (ds.take k) hm first_saf (SameL.refl firstA); refine ⟨hs, hs.rk (folds_k (ds.take k) firstA 0 hm first_k) ?_⟩; rw [List.length_take]; omega
theorem way_free (frm : Int) : ∀ (ps : List Pk) (l : Lp), (wayA l frm ps).free = l.free
 | [], l => rfl
 | p :: ps, l => by
  rw [wayA, way_free frm ps]; split <;> rfl
theorem rdoes_free (l : Lp) (d : Dd) : (rDoes l d).free = l.free := by
 unfold rDoes; simp only; split
 ·unfold rSends; simp only; split
  ·rw [way_free, (onTale_keep _ _ _).2, (Lp.setEnd_keep _ _ _).2.2]
  ·rfl
 ·split
  ·rw [way_free]
  ·split
   ·split
    ·exact (Lp.setEnd_keep _ _ _).2.2
    ·rfl
   ·split
    ·rfl
    ·split
     ·rfl
     ·split
      ·rw [way_free]
      ·split
       ·unfold rTakes; simp only; rw [way_free, (onTale_keep _ _ _).2]; split
        ·show (Lp.setEnd _ _ _).free = _; rw [(Lp.setEnd_keep _ _ _).2.2, (onTale_keep _ _ _).2]
        ·rw [(Lp.setEnd_keep _ _ _).2.2, (onTale_keep _ _ _).2]
       ·rfl
theorem rfolds_free : ∀ (m : List Dd) (l : Lp), (m.foldl rDoes l).free = l.free
 | [], _ => rfl
 | d :: m, l => by
  rw [List.foldl_cons, rfolds_free m, rdoes_free]
end Go.Proofs.Ytejabnoidhlfaaa
