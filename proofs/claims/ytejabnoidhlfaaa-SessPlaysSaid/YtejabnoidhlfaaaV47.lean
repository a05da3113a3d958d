/- Contracts and lemmas that the claim uses. -/
import Derived.Test.YtejabnoidhlfaaaV46
set_option maxRecDepth 100000
set_option maxHeartbeats 16000000
namespace Go.Proofs.Ytejabnoidhlfaaa
theorem setAt_same {α : Type} {f : α → α} : ∀ (l : List α) (k : Nat), (∀ x, l[k]? = some x → f x = x) → setAt f k l = l
 | [], k, h => by simp [setAt]
 | x :: l, 0, h => by rw [setAt, h x rfl]
 | x :: l, k + 1, h => by rw [setAt, setAt_same l k (fun y hy => h y (by simpa using hy))]
theorem setEnd_self {l : Lp} {i : Int} (hi : i = 0 ∨ i = 1) : l.setEnd i (l.end_ i) = l := by rcases hi with rfl | rfl <;> rfl
theorem setNow_self {l : Lp} {i : Int} (hi : i = 0 ∨ i = 1) {n : Int} (h : l.now i = n) : l.setNow i n = l := by
 subst h; rcases hi with rfl | rfl <;> rfl
theorem becomes_quiet {l : Lp} (hn : NowOk l) {i : Int} (hi : i = 0 ∨ i = 1) {e' : En} (hp' : e'.phase = 3) (hs : sameS (l.end_ i) e') (hb : 0 ≤ e'.base) (hsum : e'.base + flyN e' = (l.end_ i).base + flyN (l.end_ i)) : becomesA l i e' = l.setEnd i e' := by
 obtain ⟨k, t, a1, a2, a3, a4, a5, a6⟩ := (hn i hi).2 hs.1; rw [becomes_same hi hp' hs, a1, Int.toNat_natCast, setAt_same]
 ·show ({ l.setEnd i e' with tales := l.tales } : Lp) = _; unfold Lp.setEnd; split <;> rfl
 ·intro x hx; rw [a2] at hx; injection hx with hx; subst hx; have h1 := (fly_le e').1; unfold sentA; rw [List.drop_eq_nil_of_le (by rw [List.length_take]; omega), List.map_nil, List.append_nil]
theorem becomes_self {l : Lp} (hn : NowOk l) {i : Int} (hi : i = 0 ∨ i = 1) (hG : GoodP (l.end_ i)) : becomesA l i (l.end_ i) = l := by
 by_cases hp : (l.end_ i).phase = 3
 ·rw [becomes_quiet hn hi hp ⟨hp, rfl, rfl⟩ hG.base rfl, setEnd_self hi]
 ·rw [becomes_closed hp, setEnd_self hi, setNow_self hi ((hn i hi).1 hp)]
def tellB (l : Lp) (i : Int) (e : En) (tk : List ByteArray) : Lp :=
 let l1 := becomesA l i e
 if 0 ≤ l1.now i then { l1 with tales := setAt (fun t => { t with taken := t.taken ++ tk }) (l1.now i).toNat l1.tales } else l1
theorem tellB_nil (l : Lp) (i : Int) (e : En) : tellB l i e [] = becomesA l i e := by
 unfold tellB; simp only; split
 ·rw [setAt_same _ _ (fun x _ => by simp)]
 ·rfl
theorem tellB_end {l : Lp} {i : Int} (hi : i = 0 ∨ i = 1) (e : En) (tk : List ByteArray) : (tellB l i e tk).end_ i = e ∧ (tellB l i e tk).end_ (1 - i) = l.end_ (1 - i) := by
 have h1 : (becomesA l i e).end_ (1 - i) = l.end_ (1 - i) := by
  have hb := becomes_e l i e; have h2 := end_other (l := l) hi e; rcases hi with rfl | rfl
  ·show (becomesA l 0 e).e1 = _; rw [hb.2.1]; exact h2
  ·show (becomesA l 1 e).e0 = _; rw [hb.1]; exact h2
 unfold tellB; simp only; split
 ·exact ⟨becomes_end hi e, h1⟩
 ·exact ⟨becomes_end hi e, h1⟩
def lostL (l : Lp) (i : Int) (ls : List ByteArray) : Lp := if 0 ≤ l.now i then { l with tales := setAt (fun t => { t with lost := t.lost ++ ls }) (l.now i).toNat l.tales } else l
theorem lostL_nil (l : Lp) (i : Int) : lostL l i [] = l := by
 unfold lostL; split
 ·rw [setAt_same _ _ (fun x _ => by simp)]
 ·rfl
theorem lostL_end (l : Lp) (i j : Int) (ls : List ByteArray) : (lostL l i ls).end_ j = l.end_ j := by unfold lostL; split <;> rfl
theorem overL_eq (l : Lp) (i frm : Int) : overL l i frm = ((lostL l i (overA (l.end_ i) frm).2).setEnd i (overA (l.end_ i) frm).1).setNow i (-1) := rfl
def takenL (l : Lp) (i : Int) (p : Pk) : Lp := tellB (lostL l i (takeA (l.end_ i) p).2.1.lost) i (takeA (l.end_ i) p).1 (takeA (l.end_ i) p).2.1.taken
theorem carry_way {l : Lp} {k : Nat} {x : Tp} (hx : l.wire[k]? = some x) : carryA l k = wayA (takenL { l with wire := l.wire.eraseIdx k } x.to x.p) x.to (takeA (l.end_ x.to) x.p).2.1.packets := by
 unfold carryA; rw [hx]; rfl
theorem becomes_open {l : Lp} {i : Int} (hi : i = 0 ∨ i = 1) {e1 e2 e4 : En} (h1 : e1.phase ≠ 3) (h2 : e2.phase = 3) (h4 : e4.phase = 3) (hl : e4.life = e2.life) (hp : e4.peer = e2.peer) (hs : ¬ sameS (l.end_ i) e4) (hm : moreA e4 0 = moreA e2 0) :
  becomesA l i e4 = (becomesA ((l.setEnd i e1).setNow i (-1)) i e2).setEnd i e4 := by
 have hs2 : ¬ sameS (((l.setEnd i e1).setNow i (-1)).end_ i) e2 := by
  rw [end_setNow, end_same hi]; exact fun h => h1 h.1
 rw [becomes_new hi h4 hs, becomes_new hi h2 hs2, tales_setNow, tales_setEnd, hl, hp]; have hse : sentA e4 ⟨i, e2.life, e2.peer, [], [], []⟩ = sentA e2 ⟨i, e2.life, e2.peer, [], [], []⟩ := by
  rw [sentA_more, sentA_more]; show Ta.mk _ _ _ ([] ++ moreA e4 0) _ _ = Ta.mk _ _ _ ([] ++ moreA e2 0) _ _; rw [hm]
 rw [hse]; rcases hi with rfl | rfl <;> rfl
theorem wc_other {l l' : Lp} {i : Int} {p : Pk} (h : Wc l i p) (he : l'.end_ (1 - i) = l.end_ (1 - i)) (ht : ∀ a b, tale l'.tales (1 - i) a b = tale l.tales (1 - i) a b) : Wc l' i p := by
 have h1 : ∀ a b, sentOf l'.tales (1 - i) a b = sentOf l.tales (1 - i) a b := fun a b => by unfold sentOf; rw [ht]
 have h2 : ∀ a b, takenOf l'.tales (1 - i) a b = takenOf l.tales (1 - i) a b := fun a b => by unfold takenOf; rw [ht]
 refine ⟨by rw [ht]; exact h.tale, by rw [h2]; exact h.ack, fun k a b c => ?_, fun hk => by rw [h1]; exact h.txt hk⟩; have := h.held k a b c; unfold Got at this ⊢; rw [ht, he, h2]; exact this
theorem find_keep {ts us : List Ta} {j a b : Int} (h : us.filter (fun t => t.end_ == j) = ts.filter (fun t => t.end_ == j)) : tale us j a b = tale ts j a b := by
 have key : ∀ l : List Ta, tale l j a b = (l.filter (fun t => t.end_ == j)).find? (isKey j a b) := by
  intro l; unfold tale; induction l with
  | nil => rfl
  | cons x l ih =>
   rw [List.find?_cons, List.filter_cons]; by_cases hx : x.end_ = j
   ·rw [if_pos (by simpa using hx), List.find?_cons, ih]
   ·rw [if_neg (by simpa using hx)]; have : isKey j a b x = false := by
     cases hq : isKey j a b x with
     | false => rfl
     | true => exact absurd (isKey_iff.1 hq).1 hx
    rw [this, ih]
 rw [key, key, h]
theorem filter_setAt {f : Ta → Ta} (hf : ∀ t, (f t).end_ = t.end_) {j : Int} : ∀ (l : List Ta) (k : Nat), (∀ t, l[k]? = some t → t.end_ ≠ j) → (setAt f k l).filter (fun t => t.end_ == j) = l.filter (fun t => t.end_ == j)
 | [], k, _ => by simp [setAt]
 | x :: l, 0, h => by
  have hx := h x rfl; have h1 : (x.end_ == j) = false := by simpa using hx
  have h2 : ((f x).end_ == j) = false := by rw [hf]; exact h1
  rw [setAt, List.filter_cons, List.filter_cons, h1, h2]; rfl
 | x :: l, k + 1, h => by
  rw [setAt, List.filter_cons, List.filter_cons, filter_setAt hf l k (fun t ht => h t (by simpa using ht))]
theorem becomes_other {l : Lp} (hn : NowOk l) {i : Int} (hi : i = 0 ∨ i = 1) (e : En) (a b : Int) : tale (becomesA l i e).tales (1 - i) a b = tale l.tales (1 - i) a b := by
 refine find_keep ?_; by_cases hp : e.phase = 3
 ·by_cases hs : sameS (l.end_ i) e
  ·obtain ⟨k, t, a1, a2, a3, _⟩ := (hn i hi).2 hs.1; rw [becomes_same hi hp hs, a1, Int.toNat_natCast]; refine filter_setAt (f := sentA e) (fun t => rfl) l.tales k (fun v hv => ?_); rw [a2] at hv; injection hv with hv; rw [← hv, a3]; omega
  ·rw [becomes_new hi hp hs]; show (l.tales ++ [_]).filter _ = _; rw [List.filter_append]; have : ((sentA e ⟨i, e.life, e.peer, [], [], []⟩).end_ == 1 - i) = false := by
    show (i == 1 - i) = false; rw [beq_eq_false_iff_ne]; omega
   rw [List.filter_cons, this]; simp
 ·rw [becomes_closed hp, tales_setNow, tales_setEnd]
theorem over_other {l : Lp} (hn : NowOk l) {i : Int} (hi : i = 0 ∨ i = 1) (frm a b : Int) : tale (overL l i frm).tales (1 - i) a b = tale l.tales (1 - i) a b := by
 refine find_keep ?_; rw [overL_eq, tales_setNow, tales_setEnd]; unfold lostL; split
 ·refine filter_setAt (f := fun t => { t with lost := t.lost ++ (overA (l.end_ i) frm).2 }) (fun t => rfl) l.tales _ (fun v hv => ?_); by_cases hp : (l.end_ i).phase = 3
  ·obtain ⟨k, t, a1, a2, a3, _⟩ := (hn i hi).2 hp; rw [a1, Int.toNat_natCast, a2] at hv; injection hv with hv; rw [← hv, a3]; omega
  ·have := (hn i hi).1 hp; omega
 ·rfl
theorem over_ends {l : Lp} {i : Int} (hi : i = 0 ∨ i = 1) (frm : Int) : (overL l i frm).end_ i = (overA (l.end_ i) frm).1 ∧ (overL l i frm).end_ (1 - i) = l.end_ (1 - i) := by
 rw [overL_eq, end_setNow, end_setNow, end_same hi, end_other hi, lostL_end]; exact ⟨rfl, rfl⟩
theorem becomes_ends {l : Lp} {i : Int} (hi : i = 0 ∨ i = 1) (e : En) : (becomesA l i e).end_ i = e ∧ (becomesA l i e).end_ (1 - i) = l.end_ (1 - i) := by
 have := tellB_end (l := l) hi e []; rw [tellB_nil] at this; exact this
theorem moreA_eq {e e' : En} (n : Nat) (h1 : e'.base = e.base) (h2 : flyN e' = flyN e) (h3 : e'.out.map (·.t) = e.out.map (·.t)) : moreA e' n = moreA e n := by
 unfold moreA; rw [List.map_drop, List.map_drop, List.map_take, List.map_take, h1, h2, h3]
theorem acked_zero (e : En) (p : Pk) : (ackedA e p 0).base = e.base ∧ flyN (ackedA e p 0) = flyN e ∧ (ackedA e p 0).out.map (·.t) = e.out.map (·.t) := by
 unfold ackedA; split
 ·exact ⟨rfl, rfl, rfl⟩
 ·have h1 : (p.ack - e.base).toNat = 0 := by omega
  rw [h1]; refine ⟨by show p.ack = _; omega, ?_, ?_⟩
  ·unfold flyN; simp only [List.drop_zero, markA_len]
  ·simp only [List.drop_zero, markA_texts]
theorem proper_kind {p : Pk} (hp : properB p = true) : p.kind = 1 ∨ p.kind = 2 ∨ p.kind = 3 := by
 unfold properB at hp; simp only [Bool.and_eq_true] at hp; obtain ⟨_, hp⟩ := hp; split at hp
 ·left; assumption
 ·split at hp
  ·right; left; assumption
  ·split at hp
   ·right; right; assumption
   ·cases hp
theorem Saf.mine {l : Lp} (h : Saf l) {i : Int} (hi : i = 0 ∨ i = 1) {p : Pk} (hpr : properB p = true) (hc : p.kind ≠ 1 → Wc l i p) (hp : (l.end_ i).phase = 3) (h1 : p.frm = (l.end_ i).peer) (h2 : p.to = (l.end_ i).life) {n : Nat} (hn : n ≤ flyN (l.end_ i)) :
  (p.kind = 3 → Saf (becomesA l i (ackedA (l.end_ i) p n))) ∧ (p.kind = 2 → Saf (tellB l i (cameA (ackedA (l.end_ i) p n) p).1 (cameA (ackedA (l.end_ i) p n) p).2)) := by
 refine ⟨fun hk => h.acked hi hp h1 h2 (hc (by omega)) hn, fun hk => ?_⟩; have hw := hc (by omega); have hA := h.acked hi hp h1 h2 hw hn; obtain ⟨_, _, a3, a4, a5⟩ := acked_base (l.end_ i) p n; obtain ⟨e3, he3⟩ : ∃ e3, ackedA (l.end_ i) p n = e3 := ⟨_, rfl⟩; rw [he3] at hA a3 a4 a5 ⊢; obtain ⟨b1, b2⟩ := becomes_ends (l := l) hi e3; have hC := hA.came hi (p := p) (by rw [b1, a5]; exact hp) (by rw [b1, a4]; exact h1) (by rw [b1, a3]; exact h2) hk hpr (wc_other hw b2 (becomes_other h.now hi e3)); rw [b1] at hC; obtain ⟨c1, c2, c3, c4, c5⟩ := came_base e3 p; obtain ⟨e4, he4⟩ : ∃ e4, (cameA e3 p).1 = e4 := ⟨_, rfl⟩; rw [he4] at hC c1 c2 c3 c4 c5 ⊢; have hp3 : e3.phase = 3 := by rw [a5]; exact hp
 have hs3 : sameS (l.end_ i) e3 := ⟨hp, a4.symm, a3.symm⟩; have hs4 : sameS (l.end_ i) e4 := ⟨hp, by rw [c4]; exact a4.symm, by rw [c5]; exact a3.symm⟩; have hfl : flyN e4 = flyN e3 := by unfold flyN; rw [c3, c2]
 have hse : sentA e4 = sentA e3 := by
  funext t; rw [sentA_more, sentA_more, moreA_eq _ c1 hfl (by rw [c2])]
 obtain ⟨k, t, q1, _⟩ := (h.now i hi).2 hp; have hB4 : becomesA l i e4 = { (becomesA l i e3).setEnd i e4 with tales := (becomesA l i e3).tales } := by
  rw [becomes_same hi (by rw [c3]; exact hp3) hs4, becomes_same hi hp3 hs3, hse]; rcases hi with rfl | rfl <;> rfl
 have hN : (becomesA l i e4).now i = (k : Int) := by
  rw [becomes_same hi (by rw [c3]; exact hp3) hs4, now_tales, now_setEnd]; exact q1
 have hN3 : (becomesA l i e3).now i = (k : Int) := by
  rw [becomes_same hi hp3 hs3, now_tales, now_setEnd]; exact q1
 rw [hN3] at hC; unfold tellB; simp only; rw [hN, if_pos (by omega), hB4]; exact hC
theorem Saf.opens {lX lP : Lp} (HP : Saf lP) {i : Int} (hi : i = 0 ∨ i = 1) {e1 : En} (hlP : (lX.setEnd i e1).setNow i (-1) = lP) (hns : ¬ ((lX.end_ i).phase = 3 ∧ (lX.end_ i).peer = e1.peer)) (hp : e1.phase = 2) {p : Pk} (hpr : properB p = true) (hc : p.kind ≠ 1 → Wc lP i p) (h1 : p.frm = e1.peer) (h2 : (p.to == e1.life) = true) (ls : List ByteArray) :
  Saf (tellB lX i (takeB e1 ls p).1 (takeB e1 ls p).2.1.taken) := by
 have hPe : lP.end_ i = e1 := by rw [← hlP, end_setNow, end_same hi]
 have hto : p.to = e1.life := by simpa using h2
 have ho : openE e1 = { lP.end_ i with phase := 3 } := by rw [hPe]; unfold openE; rw [if_pos (by simpa using hp)]
 have hQ := HP.open_ hi (by rw [hPe]; exact hp); rw [← ho] at hQ; obtain ⟨e2, he2⟩ : ∃ e2, openE e1 = e2 := ⟨_, rfl⟩; obtain ⟨o1, o2, o3, o4, o5⟩ := open_base e1; rw [if_pos hp] at o5; rw [he2] at hQ o1 o2 o3 o4 o5; obtain ⟨lQ, hlQ⟩ : ∃ lQ, becomesA lP i e2 = lQ := ⟨_, rfl⟩; have hq := becomes_ends (l := lP) hi e2; have hqt := becomes_other HP.now hi e2; rw [hlQ] at hQ hq hqt; have hf0 : flyN e1 = 0 := by unfold flyN; rw [if_neg (by omega)]
 have hp3 : e1.phase ≠ 3 := by omega
 have hgo : ∀ e4 : En, e4.phase = 3 → e4.life = e2.life → e4.peer = e2.peer → moreA e4 0 = moreA e2 0 → becomesA lX i e4 = lQ.setEnd i e4 := fun e4 a1 a2 a3 a4 => by
  rw [becomes_open hi hp3 o5 a1 a2 a3 (fun hs => hns ⟨hs.1, by rw [hs.2.1, a3, o4]⟩) a4, hlP, hlQ]
 have hcQ : p.kind ≠ 1 → Wc lQ i p := fun hk => wc_other (hc hk) hq.2 hqt; have hm := hQ.mine hi hpr hcQ (by rw [hq.1]; exact o5) (by rw [hq.1, o4]; exact h1) (by rw [hq.1, o3]; exact hto) (Nat.zero_le _); rw [hq.1] at hm; obtain ⟨z1, z2, z3⟩ := acked_zero e2 p; obtain ⟨_, _, a3, a4, a5⟩ := acked_base e2 p 0; have hG2 := good_iff.1 (hQ.ok.good i); rw [hq.1] at hG2; rcases proper_kind hpr with hk | hk | hk
 ·rw [tb_hello h2 hk, he2]; simp only; rw [tellB_nil, hgo e2 o5 rfl rfl rfl, ← hq.1, setEnd_self hi]; exact hQ
 ·rw [tb_data h2 hk, he2, hf0]; simp only; have hS := hm.2 hk; obtain ⟨e3, he3⟩ : ∃ e3, ackedA e2 p 0 = e3 := ⟨_, rfl⟩; rw [he3] at hS z1 z2 z3 a3 a4 a5 ⊢; obtain ⟨c1, c2, c3, c4, c5⟩ := came_base e3 p; have hfl : flyN (cameA e3 p).1 = flyN e3 := by unfold flyN; rw [c3, c2]
  have b1 : becomesA lX i (cameA e3 p).1 = lQ.setEnd i (cameA e3 p).1 := hgo _ (by rw [c3, a5]; exact o5) (by rw [c5, a3]) (by rw [c4, a4]) (moreA_eq _ (by rw [c1, z1]) (by rw [hfl, z2]) (by rw [c2, z3])); have b2 : becomesA lQ i (cameA e3 p).1 = lQ.setEnd i (cameA e3 p).1 := becomes_quiet hQ.now hi (by rw [c3, a5]; exact o5) (by rw [hq.1]; exact ⟨o5, by rw [c4, a4], by rw [c5, a3]⟩) (by rw [c1, z1]; exact hG2.base) (by rw [hq.1, c1, z1, hfl, z2]); unfold tellB at hS ⊢; rw [b2] at hS; rw [b1]; exact hS
 ·rw [tb_ack h2 hk, he2, hf0]; simp only; have hS := hm.1 hk; rw [tellB_nil, hgo _ (by rw [a5]; exact o5) a3 a4 (moreA_eq _ z1 z2 z3)]; rw [becomes_quiet hQ.now hi (by rw [a5]; exact o5) (by rw [hq.1]; exact ⟨o5, a4.symm, a3.symm⟩) (by rw [z1]; exact hG2.base) (by rw [hq.1, z1, z2])] at hS; exact hS
theorem Saf.take {l : Lp} (h : Saf l) {i : Int} (hi : i = 0 ∨ i = 1) {p : Pk} (hpr : properB p = true) (hfr : p.frm ≤ (l.end_ (1 - i)).life) (hc : p.kind ≠ 1 → Wc l i p) : Saf (takenL l i p) := by
 obtain ⟨e, hE⟩ : ∃ e, l.end_ i = e := ⟨_, rfl⟩; have hg := h.ok.good i; have hself := becomes_self h.now hi (good_iff.1 hg); unfold takenL; rw [hE] at hg hself ⊢; have hG := good_iff.1 hg; have hf := proper_from hpr; by_cases hd : p.frm < e.peer
 ·rw [tk_old hg hpr hd]; simp only [noGn]; rw [lostL_nil, tellB_nil, hself]; exact h
 ·obtain ⟨e1, ls, ho⟩ : ∃ e1 ls, (if e.peer < p.frm then overA e p.frm else (e, [])) = (e1, ls) := ⟨_, _, rfl⟩; rw [tk_go hg hpr hd ho]; have hls : (takeB e1 ls p).2.1.lost = ls := rfl; rw [hls]; rcases over_eq e p with ⟨h1, h2⟩ | ⟨h1, h2⟩
  ·rw [h2] at ho; have hA : (overA e p.frm).1 = e1 := by rw [ho]
   have hB : (overA e p.frm).2 = ls := by rw [ho]
   have HP := h.over hi (frm := p.frm) (by rw [hE]; exact h1) hfr hf.1 hf.2.1; have hoe := over_ends (l := l) hi p.frm; have hot := over_other h.now hi p.frm; rw [overL_eq, hE, hA, hB] at HP hoe hot; have hp2 : e1.phase = 2 := by rw [← hA]; rfl
   have hpe : e1.peer = p.frm := by rw [← hA]; rfl
   cases hm : (p.to == e1.life) with
   | false =>
    rw [tb_foreign hm]; simp only; rw [tellB_nil, becomes_closed (by omega)]; exact HP
   | true => exact HP.opens hi rfl (by rw [lostL_end, hE]; intro hq; have := hq.2; omega) hp2 hpr (fun hk => wc_other (hc hk) hoe.2 hot) hpe.symm hm ls
  ·rw [h2] at ho; injection ho with h3 h4; subst h3 h4; rw [lostL_nil]; have hpe : p.frm = e.peer := by omega
   cases hm : (p.to == e.life) with
   | false =>
    rw [tb_foreign hm]; simp only; rw [tellB_nil, hself]; exact h
   | true =>
    have hto : p.to = e.life := by simpa using hm
    by_cases hp : e.phase = 3
    ·have ho : openE e = e := by unfold openE; rw [if_neg (by simp; omega)]
     have hM := h.mine hi hpr hc (by rw [hE]; exact hp) (by rw [hE]; exact hpe) (by rw [hE]; exact hto) (Nat.le_refl _); rw [hE] at hM; rcases proper_kind hpr with hk | hk | hk
     ·rw [tb_hello hm hk, ho]; simp only; rw [tellB_nil, hself]; exact h
     ·rw [tb_data hm hk, ho]; exact hM.2 hk
     ·rw [tb_ack hm hk, ho]; simp only; rw [tellB_nil]; exact hM.1 hk
    ·have hp2 : e.phase = 2 := by
      have := (hG.cl hp).2.2.2; omega
     have hlP : (l.setEnd i e).setNow i (-1) = l := by rw [← hE, setEnd_self hi, setNow_self hi ((h.now i hi).1 (by rw [hE]; exact hp))]
     exact h.opens hi hlP (by rw [hE]; exact fun hq => hp hq.1) hp2 hpr hc hpe hm []
theorem take_shapes {e : En} {p : Pk} (hg : goodB e = true) (hp : properB p = true) {q : Pk} (hq : q ∈ (takeA e p).2.1.packets) : q = helloA (takeA e p).1 ∨ (∃ n, q ∈ fromA (takeA e p).1 n) ∨ (q = reportA (takeA e p).1 ∧ (takeA e p).1.phase = 3) := by
 by_cases hd : p.frm < e.peer
 ·rw [tk_old hg hp hd] at hq; cases hq
 ·obtain ⟨e1, ls, ho⟩ : ∃ e1 ls, (if e.peer < p.frm then overA e p.frm else (e, [])) = (e1, ls) := ⟨_, _, rfl⟩; have hph : e1.phase ≠ 1 := by
   rcases over_eq e p with ⟨h1, h2⟩ | ⟨h1, h2⟩
   ·rw [h2] at ho; have hA : (overA e p.frm).1 = e1 := by rw [ho]
    rw [← hA]; show ¬ (2 : Int) = 1; omega
   ·rw [h2] at ho; injection ho with h3 _; subst h3; intro h5; have := ((good_iff.1 hg).cl (by omega)).2.2.2; have := (proper_from hp).1; omega
  rw [tk_go hg hp hd ho] at hq ⊢; have hG : goodB e1 = true := by
   rcases over_eq e p with ⟨h1, h2⟩ | ⟨h1, h2⟩
   ·rw [h2] at ho; have hA : (overA e p.frm).1 = e1 := by rw [ho]
    rw [← hA]; exact good_iff.2 (over_good (good_iff.1 hg) (proper_from hp).1 (proper_from hp).2.1)
   ·rw [h2] at ho; injection ho with h3 _; subst h3; exact hg
  cases hm : (p.to == e1.life) with
  | false =>
   rw [tb_foreign hm] at hq ⊢; simp only [List.nil_append, List.mem_append, List.mem_singleton] at hq ⊢; rcases hq with hq | hq
   ·exact .inl hq
   ·exact .inr (.inl ⟨_, hq⟩)
  | true =>
   have hop : (openE e1).phase = 3 := by
    have := (open_base e1).2.2.2.2; rw [this]; split
    ·rfl
    ·rename_i h2; by_cases h3 : e1.phase = 3
     ·exact h3
     ·have := ((good_iff.1 hG).cl h3).2.2.2; omega
   rcases proper_kind hp with hk | hk | hk
   ·rw [tb_hello hm hk] at hq ⊢; simp only [List.nil_append, List.mem_append] at hq ⊢; rcases hq with hq | hq
    ·exact .inr (.inl ⟨_, hq⟩)
    ·split at hq
     ·simp at hq; exact .inr (.inr ⟨hq, hop⟩)
     ·cases hq
   ·rw [tb_data hm hk] at hq ⊢; simp only [List.nil_append, List.mem_append, List.mem_singleton] at hq ⊢; rcases hq with hq | hq
    ·exact .inr (.inl ⟨_, hq⟩)
    ·refine .inr (.inr ⟨hq, ?_⟩); rw [(came_base _ p).2.2.1, (acked_base _ p _).2.2.2.2]; exact hop
   ·rw [tb_ack hm hk] at hq ⊢; simp only [List.nil_append] at hq ⊢; exact .inr (.inl ⟨_, hq⟩)
theorem takenL_ends {l : Lp} {i : Int} (hi : i = 0 ∨ i = 1) (p : Pk) : (takenL l i p).end_ i = (takeA (l.end_ i) p).1 ∧ (takenL l i p).end_ (1 - i) = l.end_ (1 - i) := by
 unfold takenL; obtain ⟨h1, h2⟩ := tellB_end (l := lostL l i (takeA (l.end_ i) p).2.1.lost) hi (takeA (l.end_ i) p).1 (takeA (l.end_ i) p).2.1.taken; exact ⟨h1, by rw [h2, lostL_end]⟩
theorem Saf.carry {l : Lp} (h : Saf l) {k : Nat} (hk : k < l.wire.length) : Saf (carryA l k) := by
 obtain ⟨x, hx⟩ : ∃ x, l.wire[k]? = some x := ⟨_, List.getElem?_eq_getElem hk⟩; have hm := List.mem_of_getElem? hx; have ht := h.ok.wire x hm; have hto : x.to = 0 ∨ x.to = 1 := by
  rcases ht.2 with h | h
  ·exact .inl h.1
  ·exact .inr h.1
 have hfr : x.p.frm ≤ (l.end_ (1 - x.to)).life := by
  rcases ht.2 with ⟨h1, h2⟩ | ⟨h1, h2⟩
  ·rw [h1]; exact h2
  ·rw [h1]; exact h2
 rw [carry_way hx]; have h0 : Saf { l with wire := l.wire.eraseIdx k } := h.wires (fr := l.free) (fun y hy => .inl (List.mem_of_mem_eraseIdx hy)); have hL := h0.take hto ht.1 hfr (fun hk => (h.wire x hm hk).wires _ l.free); obtain ⟨e1, e2⟩ := takenL_ends (l := { l with wire := l.wire.eraseIdx k }) hto x.p; have hend : ({ l with wire := l.wire.eraseIdx k } : Lp).end_ x.to = l.end_ x.to := rfl; rw [hend] at e1; have hg := h.ok.good x.to; have hw4 := (take_weight hg ht.1 hfr (h.ok.peer hto)); refine hL.way hto (fun q hq => ⟨(hw4.2.2.2.1 q hq).1, by rw [e1, hw4.1]; exact (hw4.2.2.2.1 q hq).2, fun hk => ?_⟩); rcases take_shapes hg ht.1 hq with h1 | ⟨n, h1⟩ | ⟨h1, h2⟩
 ·rw [h1] at hk; exact absurd rfl hk
 ·rw [← e1] at h1; exact (hL.from_ hto h1).2.2 hk
 ·rw [← e1] at h1 h2; rw [h1]; exact hL.report hto h2 3 0 emptyT (fun h => by cases h)
theorem Saf.tick {l : Lp} (h : Saf l) {i : Int} (hi : i = 0 ∨ i = 1) : Saf (wayA l i (tickA (l.end_ i)).1) := by
 have hg := h.ok.good i; have ht := tick_ok hg; refine h.way hi (fun q hq => ⟨(ht.2 q hq).1, (ht.2 q hq).2, fun hk => ?_⟩); unfold tickA at hq; rw [hg] at hq; simp only [Bool.true_eq_false, if_false] at hq; by_cases hp : (l.end_ i).phase = 3
 ·rw [if_neg (by simpa using hp)] at hq; rcases List.mem_append.1 hq with hq | hq
  ·obtain ⟨j, hj, rfl⟩ := List.mem_map.1 hq; have := freeIx_lt _ _ _ hj; rw [List.length_take] at this; exact h.data hi hp (by omega)
  ·simp at hq; subst hq; exact h.report hi hp 3 0 emptyT (fun h => by cases h)
 ·rw [if_pos hp] at hq; simp at hq; subst hq; exact absurd rfl hk
theorem Saf.does {l : Lp} (h : Saf l) {d : Dd} (hd : deedB d = true) : Saf (doesA l d) := by
 have hi := deed_end hd; unfold doesA; simp only; split
 ·split
  ·rename_i hs; have hb := h.send hi hs; have he := (becomes_ends (l := l) hi (sendA (l.end_ d.end_) d.t).1).1; obtain ⟨_, _, s3⟩ := send_ok (h.ok.good d.end_) hs; refine hb.way hi (fun q hq => ⟨(s3 q hq).1, ?_, fun hk => ?_⟩)
   ·rw [he, (send_ok (h.ok.good d.end_) hs).1]; exact (s3 q hq).2
   ·have hg := h.ok.good d.end_; have hP : (sendA (l.end_ d.end_) d.t).2.1 = fromA (sendA (l.end_ d.end_) d.t).1 (flyN (l.end_ d.end_)) := by
     unfold sendA at hs ⊢; rw [hg] at hs ⊢; simp only [Bool.true_eq_false, if_false] at hs ⊢; split at hs
     ·simp at hs
     ·rename_i hc; rw [if_neg hc]
    rw [hP] at hq; have hq' : q ∈ fromA ((becomesA l d.end_ (sendA (l.end_ d.end_) d.t).1).end_ d.end_) (flyN (l.end_ d.end_)) := by rw [he]; exact hq
    exact (hb.from_ hi hq').2.2 hk
  ·exact h
 ·split
  ·exact h.tick hi
  ·split
   ·split
    ·rename_i hs; exact h.again hi hs
    ·exact h
   ·split
    ·exact h
    ·rename_i hw; split
     ·refine h.carry ?_; have h2 := Int.emod_lt_of_pos d.at_ (show (0 : Int) < (l.wire.length : Int) by omega); have h1 := Int.emod_nonneg d.at_ (show (l.wire.length : Int) ≠ 0 by omega); omega
     ·split
      ·exact h.wires (fr := l.free) (fun y hy => .inl (List.mem_of_mem_eraseIdx hy))
      ·split
       ·exact h
       ·rename_i x hx; have hm := List.mem_of_getElem? hx; have ht := h.ok.wire x hm; rw [way_eq]; refine h.wires (fr := l.free) (fun y hy => ?_); rcases List.mem_append.1 hy with hy | hy
        ·exact .inl hy
        ·obtain ⟨q, hq, rfl⟩ := List.mem_map.1 hy; have hq' := List.mem_of_mem_take hq; simp at hq'; subst hq'; rw [other_ne]; exact .inl hm
theorem first_saf : Saf firstA := by
 refine ⟨first_ok, first_k.now, List.Pairwise.nil, fun t ht => (by cases ht), fun i _ a b t ht => (by cases ht), fun i _ a b => List.nil_prefix, fun i hi hp => ?_, fun i _ b t ht => (by cases ht), fun x hx => (by cases hx)⟩; rcases hi with rfl | rfl <;> cases hp
theorem folds_saf : ∀ (m : List Dd) (x : Lp), (∀ d ∈ m, deedB d = true) → Saf x → Saf (m.foldl doesA x)
 | [], _, _, hx => hx
 | d :: m, x, hm, hx => folds_saf m (doesA x d) (fun y hy => hm y (List.mem_cons_of_mem _ hy)) (hx.does (hm d List.mem_cons_self))
theorem SameL.tales_app {l r : Lp} (h : SameL l r) (t : Ta) : SameL { l with tales := l.tales ++ [t] } { r with tales := r.tales ++ [t] } := ⟨h.e0, h.e1, h.wire, by show l.tales ++ [t] = r.tales ++ [t]; rw [h.tales], h.free⟩
theorem SameL.wires {l r : Lp} (h : SameL l r) (k : Nat) : SameL { l with wire := l.wire.eraseIdx k } { r with wire := r.wire.eraseIdx k } := ⟨h.e0, h.e1, by show l.wire.eraseIdx k = r.wire.eraseIdx k; rw [h.wire], h.tales, h.free⟩
theorem SameL.setNow (l : Lp) (i j : Int) : SameL (l.setNow i j) l := by
 unfold Lp.setNow; split <;> exact ⟨rfl, rfl, rfl, rfl, rfl⟩
theorem SameL.rsends {l r : Lp} (h : SameL l r) (i : Int) (t : ByteArray) : SameL (rSends l i t) (rSends r i t) := by
 unfold rSends; simp only [h.end_]; split
 ·exact SameL.way _ _ ((h.setEnd i _).onTale i _)
 ·exact h
theorem SameL.rtakes {l r : Lp} (h : SameL l r) (x : Tp) : SameL (rTakes l x) (rTakes r x) := by
 unfold rTakes; simp only [h.end_]; have h1 := (h.onTale x.to (fun v => { v with lost := v.lost ++ (takeA (r.end_ x.to) x.p).2.1.lost })).setEnd x.to (takeA (r.end_ x.to) x.p).1; refine SameL.way _ _ (SameL.onTale ?_ _ _); rw [h1.tales]; split
 ·have := h1.tales_app ⟨x.to, (takeA (r.end_ x.to) x.p).1.life, (takeA (r.end_ x.to) x.p).1.peer, [], [], []⟩; rw [h1.tales] at this; exact this
 ·exact h1
theorem SameL.rdoes {l r : Lp} (h : SameL l r) (d : Dd) : SameL (rDoes l d) (rDoes r d) := by
 unfold rDoes; simp only [h.end_, h.wire]; split
 ·exact h.rsends _ _
 ·split
  ·exact SameL.way _ _ h
  ·split
   ·split
    ·exact h.setEnd _ _
    ·exact h
   ·split
    ·exact h
    ·split
     ·exact h
     ·have hw := h.wires (d.at_ % (r.wire.length : Int)).toNat; rw [h.wire] at hw; split
      ·exact SameL.way _ _ h
      ·split
       ·exact SameL.rtakes hw _
       ·exact hw
theorem does_same {l : Lp} (h : Saf l) {d : Dd} (hd : deedB d = true) (hc : ∀ k x, l.wire[k]? = some x → SameL (carryA l k) (rTakes { l with wire := l.wire.eraseIdx k } x)) : SameL (doesA l d) (rDoes l d) := by
 have hi := deed_end hd; unfold doesA rDoes; simp only; by_cases h1 : d.do_ = 1
 ·rw [if_pos h1, if_pos h1]; unfold rSends; simp only; by_cases hs : (sendA (l.end_ d.end_) d.t).2.2 = 0
  ·rw [if_pos hs, if_pos hs]; exact SameL.way _ _ (sends_same h.now h.ord hi (h.ok.good _) hs)
  ·rw [if_neg hs, if_neg hs]; exact SameL.refl l
 ·rw [if_neg h1, if_neg h1]; by_cases h2 : d.do_ = 2
  ·rw [if_pos h2, if_pos h2]; exact SameL.refl _
  ·rw [if_neg h2, if_neg h2]; by_cases h3 : d.do_ = 3
   ·rw [if_pos h3, if_pos h3]; by_cases hs : (againA (l.end_ d.end_)).2 = 0
    ·rw [if_pos hs, if_pos hs]; have s1 := (again_ok (h.ok.good _) hs).1; rw [becomes_closed (by rw [s1]; show ¬ (1 : Int) = 3; omega)]; exact SameL.setNow _ _ _
    ·rw [if_neg hs, if_neg hs]; exact SameL.refl l
   ·rw [if_neg h3, if_neg h3]; by_cases h0 : l.wire.length = 0
    ·rw [if_pos h0, if_pos h0]; exact SameL.refl l
    ·rw [if_neg h0, if_neg h0]; have hlt := Int.emod_lt_of_pos d.at_ (show (0 : Int) < (l.wire.length : Int) by omega); have hge := Int.emod_nonneg d.at_ (show (l.wire.length : Int) ≠ 0 by omega); obtain ⟨x, hx⟩ : ∃ x, l.wire[(d.at_ % (l.wire.length : Int)).toNat]? = some x := ⟨_, List.getElem?_eq_getElem (by omega)⟩; rw [hx]; simp only; by_cases h4 : d.do_ = 4
     ·rw [if_pos h4, if_neg (by omega), if_pos h4]; exact hc _ x hx
     ·rw [if_neg h4]; by_cases h5 : d.do_ = 5
      ·rw [if_pos h5, if_neg (by omega), if_neg h4]; exact SameL.refl _
      ·rw [if_neg h5]; have h6 : d.do_ = 6 := by
        unfold deedB at hd; rw [if_neg h1, if_neg (by omega)] at hd; split at hd
        ·omega
        ·cases hd
       rw [if_pos h6]; exact SameL.refl _
end Go.Proofs.Ytejabnoidhlfaaa
