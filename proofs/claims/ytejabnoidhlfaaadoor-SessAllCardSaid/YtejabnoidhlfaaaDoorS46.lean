/- What was sent of what an end was told to send. -/
import Derived.Test.YtejabnoidhlfaaaDoorS45

/- All messages that an end was told to send: sent in one session each, in order, or waiting. -/
namespace Go.Proofs.YtejabnoidhlfaaaDoor

theorem setAt_is {α : Type} {f : α → α} : ∀ {l : List α} {k : Nat} {x : α}, l[k]? = some x → setAt f k l = l.set k (f x)
 | [], k, x, h => by simp at h
 | y :: l, 0, x, h => by
  have e : y = x := by simpa using h
  subst e
  rfl
 | y :: l, k + 1, x, h => by rw [setAt, setAt_is (l := l) (k := k) (x := x) (by simpa using h)]; rfl
def keyL (i a : Int) (t : Ta) : Bool := t.end_ == i && t.life == a
theorem keyL_iff {i a : Int} {t : Ta} : keyL i a t = true ↔ t.end_ = i ∧ t.life = a := by
 unfold keyL
 simp only [Bool.and_eq_true, beq_iff_eq]
/-- What an end sent in a life. -/
def sents (ts : List Ta) (i a : Int) : List ByteArray := (ts.filter (keyL i a)).flatMap (·.sent)
/-- What waits in an end. -/
def restA (e : En) : List ByteArray := (e.out.drop (flyN e)).map (·.t)
theorem sents_app (ts us : List Ta) (i a : Int) : sents (ts ++ us) i a = sents ts i a ++ sents us i a := by simp [sents]
theorem sents_one (t : Ta) (i a : Int) : sents [t] i a = if keyL i a t = true then t.sent else [] := by
 unfold sents
 rw [List.filter_cons]
 split <;> simp
theorem sents_none {ts : List Ta} {i a : Int} (h : ∀ t ∈ ts, keyL i a t = false) : sents ts i a = [] := by
 unfold sents
 rw [List.filter_eq_nil_iff.2 (fun t ht => by rw [h t ht]; decide)]
 rfl
theorem sents_keep {f : Ta → Ta} (hf : ∀ t, (f t).end_ = t.end_ ∧ (f t).life = t.life ∧ (f t).sent = t.sent) (i a : Int) : ∀ (l : List Ta) (k : Nat), sents (setAt f k l) i a = sents l i a
 | [], k => by simp [setAt]
 | x :: l, 0 => by
  have h1 : keyL i a (f x) = keyL i a x := by unfold keyL; rw [(hf x).1, (hf x).2.1]
  rw [setAt, show f x :: l = [f x] ++ l from rfl, show x :: l = [x] ++ l from rfl, sents_app, sents_app, sents_one, sents_one, h1, (hf x).2.2]
 | x :: l, k + 1 => by
  rw [setAt, show x :: setAt f k l = [x] ++ setAt f k l from rfl, show x :: l = [x] ++ l from rfl, sents_app, sents_app, sents_keep hf i a l k]
/-- The tale of the session in which an end is, with none of the same life behind it. -/
structure LastT (l : Lp) (i : Int) (e : En) : Prop where
 at_ : e.phase = 3 → ∃ (p : List Ta) (t : Ta) (s : List Ta), l.tales = p ++ t :: s ∧ l.now i = (p.length : Int) ∧ t.end_ = i ∧ t.life = e.life ∧ (t.sent.length : Int) = e.base + flyN e ∧ ∀ u ∈ s, keyL i e.life u = false
theorem Saf.lastT {l : Lp} (h : Saf l) {i : Int} (hi : i = 0 ∨ i = 1) : LastT l i (l.end_ i) := ⟨fun hp => by
 obtain ⟨k, t, a1, a2, a3, a4, a5, a6, a7⟩ := h.nowT hi hp
 obtain ⟨hk, hkt⟩ := List.getElem?_eq_some_iff.1 a2
 refine ⟨l.tales.take k, t, l.tales.drop (k + 1), ?_, by rw [List.length_take, a1]; omega, a3, a4, a6, fun u hu => ?_⟩
 ·rw [← hkt, ← List.drop_eq_getElem_cons hk, List.take_append_drop]
 ·cases hq : keyL i (l.end_ i).life u with
  | false => rfl
  | true =>
   exfalso
   obtain ⟨q1, q2⟩ := keyL_iff.1 hq
   obtain ⟨j, hj⟩ := List.mem_iff_getElem?.1 hu
   rw [List.getElem?_drop] at hj
   have h1 := ord_lt h.ord a2 hj (by omega) (by rw [a3, q1]) (by rw [a4, q2])
   have h2 := tale_of_mem h.ord (List.mem_of_mem_drop hu)
   rw [q1, q2] at h2
   have h3 := (h.key i hi _ _ _ h2).2.2.2 rfl
   omega⟩
theorem LastT.lost {l : Lp} {i : Int} {e : En} (h : LastT l i e) (ls : List ByteArray) : LastT (lostL l i ls) i e := ⟨fun hp => by
 obtain ⟨p, t, s, a1, a2, a3, a4, a5, a6⟩ := h.at_ hp
 refine ⟨p, { t with lost := t.lost ++ ls }, s, ?_, ?_, a3, a4, a5, a6⟩
 ·unfold lostL
  rw [if_pos (by omega)]
  show setAt _ _ l.tales = _
  have hg : l.tales[p.length]? = some t := by rw [a1]; simp
  have h1 : (l.now i).toNat = p.length := by omega
  rw [h1, setAt_is hg, a1]
  simp
 ·unfold lostL
  split <;> exact a2⟩
theorem flyN_texts {e : En} : flyN e = if e.phase = 3 then min (e.out.map (·.t)).length 4 else 0 := by unfold flyN; rw [List.length_map]
/-- An end becomes another one: the first messages left, or all that were sent; some more may have come. -/
theorem becomes_sents {l : Lp} {i : Int} (hi : i = 0 ∨ i = 1) {e e' : En} (hE : l.end_ i = e) (hb0 : 0 ≤ e.base) (hL : LastT l i e) {g : Nat} {X : List ByteArray} (hx : e'.out.map (·.t) = (e.out.map (·.t)).drop g ++ X) (hg : g ≤ flyN e) (hl : e'.life = e.life)
  (hsame : e'.phase = 3 → sameS e e' → e'.base = e.base + g) (hnew : ¬ (e'.phase = 3 ∧ sameS e e') → g = flyN e ∧ (e'.phase = 3 → e'.base = 0)) :
  sents (becomesA l i e').tales i e.life ++ restA e' = sents l.tales i e.life ++ restA e ++ X ∧ ∀ a, a ≠ e.life → sents (becomesA l i e').tales i a = sents l.tales i a := by
 have hfl : flyN e ≤ (e.out.map (·.t)).length := by rw [List.length_map]; exact (fly_le e).1
 have hlen := congrArg List.length hx
 rw [List.length_append, List.length_drop, List.length_map, List.length_map] at hlen
 have hr : restA e = (e.out.map (·.t)).drop (flyN e) := by unfold restA; rw [List.map_drop]
 have hr' : restA e' = (e'.out.map (·.t)).drop (flyN e') := by unfold restA; rw [List.map_drop]
 have hm' : ∀ n, moreA e' n = ((e'.out.map (·.t)).take (flyN e')).drop (n - e'.base.toNat) := fun n => by unfold moreA; rw [List.map_drop, List.map_take]
 rw [List.length_map] at hfl
 by_cases hp : e'.phase = 3
 ·by_cases hs : sameS e e'
  ·obtain ⟨p, t, s, a1, a2, a3, a4, a5, a6⟩ := hL.at_ hs.1
   have hb := hsame hp hs
   rw [becomes_same hi hp (by rw [hE]; exact hs), a2, Int.toNat_natCast]
   have hg' : l.tales[p.length]? = some t := by rw [a1]; simp
   have hse : setAt (sentA e') p.length l.tales = p ++ sentA e' t :: s := by rw [setAt_is hg', a1]; simp
   show sents (setAt (sentA e') p.length l.tales) i e.life ++ _ = _ ∧ ∀ a, a ≠ e.life → sents (setAt (sentA e') p.length l.tales) i a = _
   rw [hse, a1]
   have hcons : ∀ (t : Ta) (a : Int), sents (p ++ t :: s) i a = sents p i a ++ (sents [t] i a ++ sents s i a) := fun t a => by rw [show p ++ t :: s = p ++ ([t] ++ s) from rfl, sents_app, sents_app]
   have hk1 : keyL i e.life t = true := keyL_iff.2 ⟨a3, a4⟩
   have hk2 : keyL i e.life (sentA e' t) = true := keyL_iff.2 ⟨a3, a4⟩
   refine ⟨?_, fun a ha => ?_⟩
   ·rw [hcons, hcons, sents_none a6, sents_one, sents_one, if_pos hk1, if_pos hk2, sentA_more]
    show sents p i e.life ++ (t.sent ++ moreA e' t.sent.length ++ []) ++ restA e' = _
    rw [List.append_nil, List.append_nil, List.append_assoc, List.append_assoc, List.append_assoc, List.append_assoc]
    congr 2
    have hn : t.sent.length - e'.base.toNat = flyN e - g := by omega
    have hf1 : flyN e = min e.out.length 4 := by unfold flyN; rw [if_pos hs.1]
    have hf2 : flyN e' = min e'.out.length 4 := by unfold flyN; rw [if_pos hp]
    rw [hm', hr', hr, hn]
    have e1 : ((e'.out.map (·.t)).take (flyN e')).drop (flyN e - g) ++ (e'.out.map (·.t)).drop (flyN e') = (e'.out.map (·.t)).drop (flyN e - g) := by
     rw [← List.drop_append_of_le_length (by rw [List.length_take, List.length_map]; omega), List.take_append_drop]
    rw [e1, hx, List.drop_append_of_le_length (by rw [List.length_drop, List.length_map]; omega), List.drop_drop]
    congr 2
    omega
   ·rw [hcons, hcons, sents_one, sents_one]
    have h1 : keyL i a t = false := by
     cases hq : keyL i a t with
     | false => rfl
     | true => have := (keyL_iff.1 hq).2; omega
    have h2 : keyL i a (sentA e' t) = false := h1
    rw [if_neg (by rw [h2]; decide), if_neg (by rw [h1]; decide)]
  ·obtain ⟨n1, n2⟩ := hnew (fun h => hs h.2)
   have hb := n2 hp
   rw [becomes_new hi hp (by rw [hE]; exact hs)]
   show sents (l.tales ++ [sentA e' _]) i e.life ++ _ = _ ∧ ∀ a, a ≠ e.life → sents (l.tales ++ [sentA e' _]) i a = _
   refine ⟨?_, fun a ha => ?_⟩
   ·have hkn : keyL i e.life (sentA e' ⟨i, e'.life, e'.peer, [], [], []⟩) = true := keyL_iff.2 ⟨rfl, hl⟩
    rw [sents_app, sents_one, if_pos hkn, sentA_more]
    show sents l.tales i e.life ++ ([] ++ moreA e' 0) ++ restA e' = _
    rw [List.nil_append, hm', hr', hr, hb, List.append_assoc, List.append_assoc]
    congr 1
    show ((e'.out.map (·.t)).take (flyN e')).drop 0 ++ _ = _
    rw [List.drop_zero, List.take_append_drop, hx, n1]
   ·rw [sents_app, sents_one]
    have h1 : keyL i a (sentA e' ⟨i, e'.life, e'.peer, [], [], []⟩) = false := by
     cases hq : keyL i a (sentA e' ⟨i, e'.life, e'.peer, [], [], []⟩) with
     | false => rfl
     | true =>
      have h2 : e'.life = a := (keyL_iff.1 hq).2
      omega
    rw [if_neg (by rw [h1]; decide), List.append_nil]
 ·obtain ⟨n1, _⟩ := hnew (fun h => hp h.1)
  rw [becomes_closed hp, tales_setNow, tales_setEnd]
  refine ⟨?_, fun a _ => rfl⟩
  have hf0 : flyN e' = 0 := by unfold flyN; rw [if_neg hp]
  rw [hr', hr, hf0, List.drop_zero, hx, n1, List.append_assoc]
theorem tellB_sents (l : Lp) (i : Int) (e : En) (tk : List ByteArray) (j a : Int) : sents (tellB l i e tk).tales j a = sents (becomesA l i e).tales j a := by
 unfold tellB
 simp only
 split
 ·exact sents_keep (f := fun t => { t with taken := t.taken ++ tk }) (fun t => ⟨rfl, rfl, rfl⟩) j a _ _
 ·rfl
theorem lostL_sents (l : Lp) (i : Int) (ls : List ByteArray) (j a : Int) : sents (lostL l i ls).tales j a = sents l.tales j a := by
 unfold lostL
 split
 ·exact sents_keep (f := fun t => { t with lost := t.lost ++ ls }) (fun t => ⟨rfl, rfl, rfl⟩) j a _ _
 ·rfl
/-- What a packet makes of the messages of an end. -/
theorem take_out {e : En} {p : Pk} (hg : goodB e = true) (hp : properB p = true) : ∃ g : Nat, (takeA e p).1.out.map (·.t) = (e.out.map (·.t)).drop g ∧ g ≤ flyN e ∧ (takeA e p).1.life = e.life ∧
  ((takeA e p).1.phase = 3 → sameS e (takeA e p).1 → (takeA e p).1.base = e.base + g) ∧ (¬ ((takeA e p).1.phase = 3 ∧ sameS e (takeA e p).1) → g = flyN e ∧ ((takeA e p).1.phase = 3 → (takeA e p).1.base = 0)) := by
 have hG := good_iff.1 hg
 have hidle : ∀ e1 : En, e1 = e → ∃ g : Nat, e1.out.map (·.t) = (e.out.map (·.t)).drop g ∧ g ≤ flyN e ∧ e1.life = e.life ∧ (e1.phase = 3 → sameS e e1 → e1.base = e.base + g) ∧ (¬ (e1.phase = 3 ∧ sameS e e1) → g = flyN e ∧ (e1.phase = 3 → e1.base = 0)) := fun e1 h1 => by
  subst h1
  refine ⟨0, by simp, Nat.zero_le _, rfl, fun _ _ => by simp, fun hn => ?_⟩
  by_cases h3 : e1.phase = 3
  ·exact absurd ⟨h3, h3, rfl, rfl⟩ hn
  ·exact ⟨by unfold flyN; rw [if_neg h3], fun h => absurd h h3⟩
 rcases take_shape hg hp with ⟨h, _⟩ | ⟨e1, ls, hd, ho, q1, q2, hG1, h⟩
 ·rw [h]; exact hidle e rfl
 ·-- an earlier session is over, or none is
  have h1 : (e1 = e ∧ e.peer = p.frm) ∨ (e1.phase = 2 ∧ e1.base = 0 ∧ e.peer < p.frm ∧ e1.out.map (·.t) = (e.out.map (·.t)).drop (flyN e)) := by
   rcases over_eq e p with ⟨h1, h2⟩ | ⟨h1, h2⟩
   ·rw [h2] at ho
    have hA : (overA e p.frm).1 = e1 := by rw [ho]
    rw [← hA]
    refine .inr ⟨rfl, rfl, h1, ?_⟩
    show ((e.out.drop (flyN e)).map (fun x => (⟨x.t, false⟩ : Ou))).map (·.t) = _
    rw [List.map_map, ← List.map_drop]
    rfl
   ·rw [h2] at ho
    injection ho with h3 _
    exact .inl ⟨h3.symm, by omega⟩
  obtain ⟨o1, o2, o3, o4, o5⟩ := open_base e1
  have htx : ∀ n, (ackedA (openE e1) p n).out.map (·.t) = (e1.out.map (·.t)).drop (goneA (openE e1) p n) := fun n => by
   unfold ackedA goneA
   split
   ·rw [o2, List.drop_zero]
   ·show (markA _ _ _ _).map (·.t) = _
    rw [markA_texts, o2, List.map_drop]
  -- an end with the same life and peer as e1, less the first messages
  have key : ∀ (e' : En) (g : Nat), e'.peer = e1.peer → e'.life = e1.life → e'.phase = 3 → e'.base = e1.base + g → g ≤ flyN e1 → e'.out.map (·.t) = (e1.out.map (·.t)).drop g →
    ∃ g : Nat, e'.out.map (·.t) = (e.out.map (·.t)).drop g ∧ g ≤ flyN e ∧ e'.life = e.life ∧ (e'.phase = 3 → sameS e e' → e'.base = e.base + g) ∧ (¬ (e'.phase = 3 ∧ sameS e e') → g = flyN e ∧ (e'.phase = 3 → e'.base = 0)) := fun e' g r1 r2 r3 r4 r5 r6 => by
   rcases h1 with ⟨h1, h2⟩ | ⟨h1, h2, h3, h4⟩
   ·subst h1
    by_cases h3 : e1.phase = 3
    ·exact ⟨g, r6, r5, r2, fun _ _ => r4, fun hn => absurd ⟨r3, h3, r1.symm, r2.symm⟩ hn⟩
    ·have hf : flyN e1 = 0 := by unfold flyN; rw [if_neg h3]
     have hg0 : g = 0 := by omega
     subst hg0
     exact ⟨0, r6, Nat.zero_le _, r2, fun _ hs => absurd hs.1 h3, fun _ => ⟨hf.symm, fun _ => by rw [r4, (hG.cl h3).1]; rfl⟩⟩
   ·have hf : flyN e1 = 0 := by unfold flyN; rw [if_neg (by omega)]
    have hg0 : g = 0 := by omega
    subst hg0
    refine ⟨flyN e, by rw [r6, List.drop_zero, h4], Nat.le_refl _, by rw [r2, q2], fun _ hs => ?_, fun _ => ⟨rfl, fun _ => by rw [r4, h2]; rfl⟩⟩
    have := hs.2.1
    omega
  rcases h with ⟨h, hm⟩ | ⟨hm, h⟩
  ·rw [h]
   rcases h1 with ⟨h1, _⟩ | ⟨h1, h2, h3, h4⟩
   ·exact hidle e1 h1
   ·exact ⟨flyN e, h4, Nat.le_refl _, q2, fun hp3 => by omega, fun _ => ⟨rfl, fun _ => h2⟩⟩
  ·have hop : (openE e1).phase = 3 := by
    rw [o5]
    split
    ·rfl
    ·rename_i hno
     by_cases h3 : e1.phase = 3
     ·exact h3
     ·have := (hG1.cl h3).2.2.2
      have := (proper_from hp).1
      omega
   obtain ⟨a1, a2, a3, a4, a5⟩ := acked_base (openE e1) p (flyN e1)
   rcases h with h | h | h
   ·rw [h]
    exact key _ 0 o4 o3 hop (by rw [o1]; simp) (Nat.zero_le _) (by rw [o2, List.drop_zero])
   ·rw [h]
    exact key _ _ (by rw [a4, o4]) (by rw [a3, o3]) (by rw [a5]; exact hop) (by rw [a1, o1]) a2 (htx _)
   ·rw [h]
    obtain ⟨c1, c2, c3, c4, c5⟩ := came_base (ackedA (openE e1) p (flyN e1)) p
    exact key _ _ (by rw [c4, a4, o4]) (by rw [c5, a3, o3]) (by rw [c3, a5]; exact hop) (by rw [c1, a1, o1]) a2 (by rw [c2]; exact htx _)
theorem sents_filter {ts us : List Ta} {j : Int} (h : us.filter (fun t => t.end_ == j) = ts.filter (fun t => t.end_ == j)) (a : Int) : sents us j a = sents ts j a := by
 have key : ∀ l : List Ta, l.filter (keyL j a) = (l.filter (fun t => t.end_ == j)).filter (keyL j a) := by
  intro l
  rw [List.filter_filter]
  congr 1
  funext t
  unfold keyL
  cases (t.end_ == j) <;> simp
 unfold sents
 rw [key us, key ts, h]
theorem lost_now {l : Lp} (hn : NowOk l) {i : Int} (ls : List ByteArray) : NowOk (lostL l i ls) := by
 unfold lostL
 split
 ·exact hn.upd (fun t => { t with lost := t.lost ++ ls }) (fun t => ⟨rfl, rfl, rfl, rfl⟩) _
 ·exact hn
theorem becomes_filter {l : Lp} (hn : NowOk l) {i : Int} (hi : i = 0 ∨ i = 1) (e : En) : (becomesA l i e).tales.filter (fun t => t.end_ == 1 - i) = l.tales.filter (fun t => t.end_ == 1 - i) := by
 by_cases hp : e.phase = 3
 ·by_cases hs : sameS (l.end_ i) e
  ·obtain ⟨k, t, a1, a2, a3, _⟩ := (hn i hi).2 hs.1
   rw [becomes_same hi hp hs, a1, Int.toNat_natCast]
   refine filter_setAt (f := sentA e) (fun t => rfl) l.tales k (fun v hv => ?_)
   rw [a2] at hv
   injection hv with hv
   rw [← hv, a3]
   omega
  ·rw [becomes_new hi hp hs]
   show (l.tales ++ [_]).filter _ = _
   rw [List.filter_append]
   have : ((sentA e ⟨i, e.life, e.peer, [], [], []⟩).end_ == 1 - i) = false := by
    show (i == 1 - i) = false
    rw [beq_eq_false_iff_ne]
    omega
   rw [List.filter_cons, this]
   simp
 ·rw [becomes_closed hp, tales_setNow, tales_setEnd]
/-- What carrying keeps of the messages of an end. -/
theorem carry_sents {l : Lp} (h : Saf l) {k : Nat} (hk : k < l.wire.length) {i : Int} (hi : i = 0 ∨ i = 1) :
  ((carryA l k).end_ i).life = (l.end_ i).life ∧ sents (carryA l k).tales i (l.end_ i).life ++ restA ((carryA l k).end_ i) = sents l.tales i (l.end_ i).life ++ restA (l.end_ i) ∧ ∀ a, a ≠ (l.end_ i).life → sents (carryA l k).tales i a = sents l.tales i a := by
 obtain ⟨x, hx⟩ : ∃ x, l.wire[k]? = some x := ⟨_, List.getElem?_eq_getElem hk⟩
 have hm := List.mem_of_getElem? hx
 have ht := h.ok.wire x hm
 have hto : x.to = 0 ∨ x.to = 1 := by
  rcases ht.2 with h | h
  ·exact .inl h.1
  ·exact .inr h.1
 have hl := (carry_less h.ok hk).2.2.2
 have hlife : ((carryA l k).end_ i).life = (l.end_ i).life := by
  rcases hi with rfl | rfl
  ·exact hl.1
  ·exact hl.2
 refine ⟨hlife, ?_⟩
 rw [carry_way hx, way_eq]
 obtain ⟨e1, e2⟩ := takenL_ends (l := { l with wire := l.wire.eraseIdx k }) hto x.p
 have hend : ∀ j, ({ l with wire := l.wire.eraseIdx k } : Lp).end_ j = l.end_ j := fun j => rfl
 rw [hend] at e1 e2
 obtain ⟨L, hL⟩ : ∃ L, ({ l with wire := l.wire.eraseIdx k } : Lp) = L := ⟨_, rfl⟩
 have hLe : ∀ j, L.end_ j = l.end_ j := fun j => by rw [← hL]; rfl
 have hLt : L.tales = l.tales := by rw [← hL]
 have h0 : Saf L := by rw [← hL]; exact h.wires (fr := l.free) (fun y hy => .inl (List.mem_of_mem_eraseIdx hy))
 rw [hL] at e1 e2 ⊢
 show sents (takenL L x.to x.p).tales i _ ++ restA ((takenL L x.to x.p).end_ i) = _ ∧ ∀ a, a ≠ _ → sents (takenL L x.to x.p).tales i a = _
 have htl : ∀ j a, sents (takenL L x.to x.p).tales j a = sents (becomesA (lostL L x.to (takeA (L.end_ x.to) x.p).2.1.lost) x.to (takeA (L.end_ x.to) x.p).1).tales j a := fun j a => by
  unfold takenL
  exact tellB_sents _ _ _ _ j a
 rcases two_i hto hi with rfl | rfl
 ·obtain ⟨g, g1, g2, g3, g4, g5⟩ := take_out (h.ok.good x.to) ht.1
  have hlt := (h0.lastT hto).lost (takeA (L.end_ x.to) x.p).2.1.lost
  have hb := (good_iff.1 (h.ok.good x.to)).base
  rw [hLe] at hlt
  have := becomes_sents hto (l := lostL L x.to (takeA (l.end_ x.to) x.p).2.1.lost) (e := l.end_ x.to) (e' := (takeA (l.end_ x.to) x.p).1) (by rw [lostL_end, hLe]) hb hlt (g := g) (X := []) (by rw [List.append_nil]; exact g1) g2 g3 g4 g5
  rw [List.append_nil] at this
  refine ⟨?_, fun a ha => ?_⟩
  ·rw [htl, hLe, e1, this.1, lostL_sents, hLt]
  ·rw [htl, hLe, this.2 a ha, lostL_sents, hLt]
 ·have hs : ∀ a, sents (takenL L x.to x.p).tales (1 - x.to) a = sents l.tales (1 - x.to) a := fun a => by
   rw [htl, sents_filter (becomes_filter (lost_now h0.now _) hto _), lostL_sents, hLt]
  rw [e2]
  exact ⟨by rw [hs], fun a _ => hs a⟩
/-! ### what an end is told to send -/
def toldS (i : Int) (tl : List (List ByteArray)) (d : Dd) : List (List ByteArray) :=
 if d.do_ = 3 ∧ d.end_ = i then tl ++ [[]] else if d.do_ = 1 ∧ d.end_ = i then tl.dropLast ++ [tl.getLastD [] ++ [d.t]] else tl
/-- All that an end was told to send was sent, or waits. -/
def AllOf (l : Lp) (i : Int) (tl : List (List ByteArray)) : Prop := ∃ pre cur, tl = pre ++ [cur] ∧ (l.end_ i).life = (pre.length : Int) + 1 ∧ (∀ (k : Nat) v, pre[k]? = some v → sents l.tales i ((k : Int) + 1) <+: v) ∧ sents l.tales i (l.end_ i).life ++ restA (l.end_ i) = cur
theorem AllOf.keep {l l' : Lp} {i : Int} {tl : List (List ByteArray)} (h : AllOf l i tl) (h1 : (l'.end_ i).life = (l.end_ i).life) (h2 : sents l'.tales i (l.end_ i).life ++ restA (l'.end_ i) = sents l.tales i (l.end_ i).life ++ restA (l.end_ i)) (h3 : ∀ a, a ≠ (l.end_ i).life → sents l'.tales i a = sents l.tales i a) : AllOf l' i tl := by
 obtain ⟨pre, cur, a1, a2, a3, a4⟩ := h
 refine ⟨pre, cur, a1, by rw [h1]; exact a2, fun k v hv => ?_, by rw [h1, h2]; exact a4⟩
 have := (List.getElem?_eq_some_iff.1 hv).1
 rw [h3 _ (by omega)]
 exact a3 k v hv
theorem Saf.out_le {l : Lp} (h : Saf l) {i : Int} (hi : i = 0 ∨ i = 1) : (l.end_ i).out.length ≤ (sents l.tales i (l.end_ i).life ++ restA (l.end_ i)).length ∧ (l.end_ i).base ≤ ((sents l.tales i (l.end_ i).life ++ restA (l.end_ i)).length : Int) := by
 have hr : (restA (l.end_ i)).length = (l.end_ i).out.length - flyN (l.end_ i) := by unfold restA; rw [List.length_map, List.length_drop]
 have hfl := (fly_le (l.end_ i)).1
 rw [List.length_append, hr]
 by_cases hp : (l.end_ i).phase = 3
 ·obtain ⟨p, t, s, a1, a2, a3, a4, a5, a6⟩ := (h.lastT hi).at_ hp
  have hb := (good_iff.1 (h.ok.good i)).base
  have : t.sent.length ≤ (sents l.tales i (l.end_ i).life).length := by
   rw [a1, show p ++ t :: s = p ++ ([t] ++ s) from rfl, sents_app, sents_app, sents_one, if_pos (keyL_iff.2 ⟨a3, a4⟩)]
   simp only [List.length_append]
   omega
  omega
 ·have hf : flyN (l.end_ i) = 0 := by unfold flyN; rw [if_neg hp]
  have hb := ((good_iff.1 (h.ok.good i)).cl hp).1
  omega
theorem AllOf.does {l : Lp} (h : Saf l) {d : Dd} (hd : deedB d = true) {i : Int} (hi : i = 0 ∨ i = 1) {tl : List (List ByteArray)} (ha : AllOf l i tl) (hn : d.do_ = 1 → d.end_ = i → (tl.getLastD []).length < 12) (hlen : tl.length ≤ 1000) : AllOf (doesA l d) i (toldS i tl d) := by
 have hdi := deed_end hd
 have hoth : ∀ (e : En), d.end_ ≠ i → ((becomesA l d.end_ e).end_ i = l.end_ i ∧ ∀ a, sents (becomesA l d.end_ e).tales i a = sents l.tales i a) := fun e hne => by
  have hi' : i = 1 - d.end_ := by omega
  subst hi'
  exact ⟨(becomes_ends hdi e).2, fun a => sents_filter (becomes_filter h.now hdi e) a⟩
 have hway : ∀ (L : Lp) (j : Int) (ps : List Pk), AllOf L i (toldS i tl d) → AllOf (wayA L j ps) i (toldS i tl d) := fun L j ps hh => by rw [way_eq]; exact hh
 unfold doesA
 simp only
 by_cases h1 : d.do_ = 1
 ·rw [if_pos h1]
  by_cases he : d.end_ = i
  ·subst he
   have hts : toldS d.end_ tl d = tl.dropLast ++ [tl.getLastD [] ++ [d.t]] := by unfold toldS; rw [if_neg (by omega), if_pos ⟨h1, rfl⟩]
   obtain ⟨pre, cur, a1, a2, a3, a4⟩ := ha
   have hcur : tl.getLastD [] = cur := by rw [a1]; simp
   have hdl : tl.dropLast = pre := by rw [a1]; simp
   have hb := h.out_le hi
   rw [a4, ← hcur] at hb
   have hc := hn h1 rfl
   have hg := h.ok.good d.end_
   have hs : (sendA (l.end_ d.end_) d.t).2.2 = 0 := by
    have hsz : d.t.size ≤ 20 := by
     unfold deedB at hd
     rw [if_pos h1] at hd
     simp only [Bool.and_eq_true, decide_eq_true_eq] at hd
     exact hd.2
    have hbm : (l.end_ d.end_).base + ((l.end_ d.end_).out.length : Int) ≠ most := by unfold most; omega
    unfold sendA
    rw [hg]
    simp only [Bool.true_eq_false, if_false]
    rw [if_neg (fun hh => hh.elim (fun q => by omega) (fun hh => hh.elim (fun q => by omega) (fun q => hbm q)))]
   rw [if_pos hs]
   refine hway _ _ _ ?_
   rw [hts]
   have s1 := (send_ok hg hs).1
   have hE := (becomes_ends (l := l) hi (sendA (l.end_ d.end_) d.t).1).1
   have hB := becomes_sents hi (l := l) (e := l.end_ d.end_) (e' := (sendA (l.end_ d.end_) d.t).1) rfl (good_iff.1 hg).base (h.lastT hi) (g := 0) (X := [d.t]) (by rw [s1]; simp) (Nat.zero_le _) (by rw [s1]) (fun _ _ => by rw [s1]; simp) (fun hq => by
    by_cases h3 : (l.end_ d.end_).phase = 3
    ·exact absurd (by rw [s1]; exact ⟨h3, h3, rfl, rfl⟩) hq
    ·exact ⟨by unfold flyN; rw [if_neg h3], fun h4 => absurd (by rw [s1] at h4; exact h4) h3⟩)
   refine ⟨pre, cur ++ [d.t], by rw [hdl, hcur], by rw [hE, s1]; exact a2, fun k v hv => ?_, ?_⟩
   ·have := (List.getElem?_eq_some_iff.1 hv).1
    rw [hB.2 _ (by omega)]
    exact a3 k v hv
   ·have hlf : (sendA (l.end_ d.end_) d.t).1.life = (l.end_ d.end_).life := by rw [s1]
    rw [hE, hlf, hB.1, a4]
  ·have hts : toldS i tl d = tl := by unfold toldS; rw [if_neg (by omega), if_neg (fun hh => he hh.2)]
   rw [hts]
   split
   ·rw [way_eq]
    obtain ⟨q1, q2⟩ := hoth (sendA (l.end_ d.end_) d.t).1 he
    exact AllOf.keep ha (by show ((becomesA _ _ _).end_ i).life = _; rw [q1]) (by show sents (becomesA _ _ _).tales i _ ++ restA ((becomesA _ _ _).end_ i) = _; rw [q1, q2]) (fun a _ => q2 a)
   ·exact ha
 ·rw [if_neg h1]
  by_cases h2 : d.do_ = 2
  ·have hts : toldS i tl d = tl := by unfold toldS; rw [if_neg (by omega), if_neg (by omega)]
   rw [if_pos h2, way_eq, hts]
   exact ha
  ·rw [if_neg h2]
   by_cases h3 : d.do_ = 3
   ·rw [if_pos h3]
    by_cases he : d.end_ = i
    ·subst he
     have hts : toldS d.end_ tl d = tl ++ [[]] := by unfold toldS; rw [if_pos ⟨h3, rfl⟩]
     obtain ⟨pre, cur, a1, a2, a3, a4⟩ := ha
     have hg := h.ok.good d.end_
     have hpl : pre.length + 1 ≤ 1000 := by rw [a1] at hlen; simp at hlen; omega
     have hs : (againA (l.end_ d.end_)).2 = 0 := by
      unfold againA
      rw [hg]
      simp only [Bool.true_eq_false, if_false]
      rw [if_neg (by unfold most; omega)]
      unfold startA
      rw [if_pos (by unfold most; omega)]
     rw [if_pos hs, hts]
     have s1 := (again_ok hg hs).1
     have hE := (becomes_ends (l := l) hi (againA (l.end_ d.end_)).1).1
     have hcl : becomesA l d.end_ (againA (l.end_ d.end_)).1 = (l.setEnd d.end_ (againA (l.end_ d.end_)).1).setNow d.end_ (-1) := becomes_closed (by rw [s1]; show ¬ (1 : Int) = 3; omega)
     have htl : (becomesA l d.end_ (againA (l.end_ d.end_)).1).tales = l.tales := by rw [hcl, tales_setNow, tales_setEnd]
     have hnone : sents l.tales d.end_ ((l.end_ d.end_).life + 1) = [] := sents_none (fun t ht => by
      cases hq : keyL d.end_ ((l.end_ d.end_).life + 1) t with
      | false => rfl
      | true =>
       obtain ⟨q1, q2⟩ := keyL_iff.1 hq
       have h5 := tale_of_mem h.ord ht
       rw [q1, q2] at h5
       have := (h.key d.end_ hi _ _ _ h5).1
       omega)
     refine ⟨tl, [], rfl, ?_, fun k v hv => ?_, ?_⟩
     ·rw [hE, s1, a1]
      simp
      exact a2
     ·rw [htl]
      rw [a1] at hv
      by_cases hk : k < pre.length
      ·rw [List.getElem?_append_left hk] at hv
       exact a3 k v hv
      ·have hk' := (List.getElem?_eq_some_iff.1 hv).1
       simp at hk'
       have hke : k = pre.length := by omega
       subst hke
       have : v = cur := by simp at hv; exact hv.symm
       rw [this, ← a4, ← a2]
       exact List.prefix_append _ _
     ·have hr : restA (⟨(l.end_ d.end_).life + 1, 0, 1, 0, [], 0, []⟩ : En) = [] := rfl
      rw [hE, htl, s1, hr, List.append_nil]
      exact hnone
    ·have hts : toldS i tl d = tl := by unfold toldS; rw [if_neg (fun hh => he hh.2), if_neg (by omega)]
     rw [hts]
     split
     ·obtain ⟨q1, q2⟩ := hoth (againA (l.end_ d.end_)).1 he
      exact AllOf.keep ha (by rw [q1]) (by rw [q1, q2]) (fun a _ => q2 a)
     ·exact ha
   ·have hts : toldS i tl d = tl := by unfold toldS; rw [if_neg (by omega), if_neg (by omega)]
    rw [if_neg h3, hts]
    split
    ·exact ha
    ·rename_i hw
     split
     ·have h2 := Int.emod_lt_of_pos d.at_ (show (0 : Int) < (l.wire.length : Int) by omega)
      have h1 := Int.emod_nonneg d.at_ (show (l.wire.length : Int) ≠ 0 by omega)
      obtain ⟨c1, c2, c3⟩ := carry_sents h (k := (d.at_ % (l.wire.length : Int)).toNat) (by omega) hi
      exact AllOf.keep ha c1 c2 c3
     ·split
      ·exact ha
      ·split
       ·exact ha
       ·rw [way_eq]
        exact ha
/-- Few messages are sent in a life. -/
def Few (i : Int) : Nat → List Dd → Prop
 | _, [] => True
 | c, d :: ds => if d.do_ = 3 ∧ d.end_ = i then Few i 0 ds else if d.do_ = 1 ∧ d.end_ = i then c < 10 ∧ Few i (c + 1) ds else Few i c ds
theorem folds_all {i : Int} (hi : i = 0 ∨ i = 1) : ∀ (m : List Dd) (x : Lp) (tl : List (List ByteArray)), (∀ d ∈ m, deedB d = true) → Saf x → AllOf x i tl → Few i (tl.getLastD []).length m → tl.length + m.length ≤ 1000 → AllOf (m.foldl doesA x) i (m.foldl (toldS i) tl)
 | [], x, tl, _, _, ha, _, _ => ha
 | d :: m, x, tl, hm, hs, ha, hf, hl => by
  have hd := hm d List.mem_cons_self
  rw [List.length_cons] at hl
  rw [Few] at hf
  have hn : d.do_ = 1 → d.end_ = i → (tl.getLastD []).length < 12 := fun h1 h2 => by
   rw [if_neg (by omega), if_pos ⟨h1, h2⟩] at hf
   omega
  have h1 := ha.does hs hd hi hn (by omega)
  have hlt : (toldS i tl d).length ≤ tl.length + 1 := by
   unfold toldS
   split
   ·simp
   ·split
    ·simp <;> omega
    ·omega
  refine folds_all hi m (doesA x d) (toldS i tl d) (fun y hy => hm y (List.mem_cons_of_mem _ hy)) (hs.does hd) h1 ?_ (by omega)
  unfold toldS
  split
  ·rename_i hq
   rw [if_pos hq] at hf
   simpa using hf
  ·rename_i hq
   rw [if_neg hq] at hf
   split
   ·rename_i hq2
    rw [if_pos hq2] at hf
    simp only [List.getLastD_concat, List.length_append, List.length_cons, List.length_nil]
    exact hf.2
   ·rename_i hq2
    rw [if_neg hq2] at hf
    exact hf
theorem first_all {i : Int} (hi : i = 0 ∨ i = 1) : AllOf firstA i [[]] := by
 refine ⟨[], [], rfl, ?_, fun k v hv => (by simp at hv), ?_⟩ <;> rcases hi with rfl | rfl <;> rfl
theorem played_all {ds : List Dd} (h : (playedA ds).2 = 0) {i : Int} (hi : i = 0 ∨ i = 1) (hf : Few i 0 ds) : AllOf (playedA ds).1 i (ds.foldl (toldS i) [[]]) := by
 obtain ⟨h1, _, _, _, h5, h6⟩ := played_k h
 rw [h6]
 exact folds_all hi ds firstA [[]] h5 first_saf (first_all hi) hf (by simp; omega)
end Go.Proofs.YtejabnoidhlfaaaDoor
