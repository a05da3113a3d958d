/- Contracts and lemmas that the claim uses. -/
import Derived.Test.YtejabnoidhlfaaaV14
set_option maxRecDepth 100000
set_option maxHeartbeats 16000000
namespace Go.Proofs.Ytejabnoidhlfaaa
def NowAt (l : Lp) (i : Int) : Prop := ((l.end_ i).phase ≠ 3 → l.now i = -1) ∧
 ((l.end_ i).phase = 3 → ∃ (k : Nat) (t : Ta), l.now i = (k : Int) ∧ l.tales[k]? = some t ∧ t.end_ = i ∧ t.life = (l.end_ i).life ∧ t.peer = (l.end_ i).peer ∧ (t.sent.length : Int) = (l.end_ i).base + flyN (l.end_ i))
def NowOk (l : Lp) : Prop := ∀ i, (i = 0 ∨ i = 1) → NowAt l i
def Cont (a e : En) : Prop := 0 ≤ e.base ∧ (e.phase = 3 → ((a.phase = 3 ∧ a.peer = e.peer ∧ a.life = e.life) → e.base ≤ a.base + flyN a ∧ a.base + flyN a ≤ e.base + flyN e) ∧ (¬ (a.phase = 3 ∧ a.peer = e.peer ∧ a.life = e.life) → e.base = 0))
theorem sentA_len {e : En} {t : Ta} (h0 : 0 ≤ e.base) (h1 : e.base ≤ t.sent.length) (h2 : (t.sent.length : Int) ≤ e.base + flyN e) : ((sentA e t).sent.length : Int) = e.base + flyN e := by
 have hf := (fly_le e).1; simp only [sentA, List.length_append, List.length_map, List.length_drop, List.length_take]; omega
theorem setAt_get {α : Type} (f : α → α) : ∀ (l : List α) (k j : Nat), (setAt f k l)[j]? = if j = k then (l[j]?).map f else l[j]?
 | [], k, j => by simp [setAt]
 | x :: l, 0, 0 => by simp [setAt]
 | x :: l, 0, j + 1 => by simp [setAt]
 | x :: l, k + 1, 0 => by simp [setAt]
 | x :: l, k + 1, j + 1 => by
  have ih := setAt_get f l k j; simp only [setAt, List.getElem?_cons_succ, ih]; by_cases e : j = k
  ·rw [if_pos e, if_pos (by omega)]
  ·rw [if_neg e, if_neg (by omega)]
theorem setAt_len {α : Type} (f : α → α) : ∀ (l : List α) (k : Nat), (setAt f k l).length = l.length
 | [], k => by simp [setAt]
 | x :: l, 0 => by simp [setAt]
 | x :: l, k + 1 => by simp [setAt, setAt_len f l k]
theorem setAt_last {α : Type} (f : α → α) (x : α) : ∀ (l : List α), setAt f l.length (l ++ [x]) = l ++ [f x]
 | [] => by simp [setAt]
 | y :: l => by simp [setAt, setAt_last f x l]
theorem setAt_mem {α : Type} {f : α → α} {y : α} : ∀ {l : List α} {k : Nat}, y ∈ setAt f k l → y ∈ l ∨ ∃ x ∈ l, y = f x
 | [], k, h => by simp [setAt] at h
 | x :: l, 0, h => by
  rcases List.mem_cons.1 h with rfl | h
  ·exact .inr ⟨x, List.mem_cons_self, rfl⟩
  ·exact .inl (List.mem_cons_of_mem _ h)
 | x :: l, k + 1, h => by
  rcases List.mem_cons.1 h with rfl | h
  ·exact .inl List.mem_cons_self
  ·rcases setAt_mem h with h | ⟨z, hz, rfl⟩
   ·exact .inl (List.mem_cons_of_mem _ h)
   ·exact .inr ⟨z, List.mem_cons_of_mem _ hz, rfl⟩
def sameS (a e : En) : Prop := a.phase = 3 ∧ a.peer = e.peer ∧ a.life = e.life
theorem becomes_closed {l : Lp} {i : Int} {e : En} (hp : e.phase ≠ 3) : becomesA l i e = (l.setEnd i e).setNow i (-1) := by
 unfold becomesA; simp only; rw [if_pos hp]
theorem becomes_new {l : Lp} {i : Int} {e : En} (hi : i = 0 ∨ i = 1) (hp : e.phase = 3) (hn : ¬ sameS (l.end_ i) e) :
  becomesA l i e = { (l.setEnd i e).setNow i l.tales.length with tales := l.tales ++ [sentA e ⟨i, e.life, e.peer, [], [], []⟩] } := by
 have h1 : (l.end_ i).phase ≠ 3 ∨ (l.end_ i).peer ≠ e.peer ∨ (l.end_ i).life ≠ e.life := by
  unfold sameS at hn; by_cases a : (l.end_ i).phase = 3
  ·by_cases b : (l.end_ i).peer = e.peer
   ·by_cases c : (l.end_ i).life = e.life
    ·exact absurd ⟨a, b, c⟩ hn
    ·exact .inr (.inr c)
   ·exact .inr (.inl b)
  ·exact .inl a
 unfold becomesA; simp only; rw [if_neg (fun h => h hp), if_pos h1]; rcases hi with rfl | rfl
 ·have := setAt_last (sentA e) ⟨0, e.life, e.peer, [], [], []⟩ l.tales; unfold Lp.setEnd Lp.setNow Lp.now; simp only [if_true, Int.toNat_natCast]; rw [this]
 ·have := setAt_last (sentA e) ⟨1, e.life, e.peer, [], [], []⟩ l.tales; unfold Lp.setEnd Lp.setNow Lp.now; simp only [show ¬ (1 : Int) = 0 by omega, if_false, Int.toNat_natCast]; rw [this]
theorem becomes_same {l : Lp} {i : Int} {e : En} (hi : i = 0 ∨ i = 1) (hp : e.phase = 3) (hn : sameS (l.end_ i) e) :
  becomesA l i e = { l.setEnd i e with tales := setAt (sentA e) (l.now i).toNat l.tales } := by
 have h1 : ¬ ((l.end_ i).phase ≠ 3 ∨ (l.end_ i).peer ≠ e.peer ∨ (l.end_ i).life ≠ e.life) := by
  rintro (h | h | h)
  ·exact h hn.1
  ·exact h hn.2.1
  ·exact h hn.2.2
 unfold becomesA; simp only; rw [if_neg (fun h => h hp), if_neg h1]; rcases hi with rfl | rfl <;> rfl
section
variable {l : Lp} {i j : Int} {e : En}
theorem now_setEnd : (l.setEnd i e).now j = l.now j := by unfold Lp.setEnd Lp.now; split <;> split <;> rfl
theorem now_setNow (hi : i = 0 ∨ i = 1) (hj : j = 0 ∨ j = 1) (n : Int) : (l.setNow i n).now j = if j = i then n else l.now j := by
 rcases hi with rfl | rfl <;> rcases hj with rfl | rfl <;> rfl
theorem end_setNow (n : Int) : (l.setNow i n).end_ j = l.end_ j := by unfold Lp.setNow Lp.end_; split <;> split <;> rfl
theorem end_setEnd (hi : i = 0 ∨ i = 1) (hj : j = 0 ∨ j = 1) : (l.setEnd i e).end_ j = if j = i then e else l.end_ j := by
 rcases hi with rfl | rfl <;> rcases hj with rfl | rfl <;> rfl
theorem end_tales (ts : List Ta) : ({ l with tales := ts } : Lp).end_ j = l.end_ j := rfl
theorem now_tales (ts : List Ta) : ({ l with tales := ts } : Lp).now j = l.now j := rfl
theorem tales_setEnd : (l.setEnd i e).tales = l.tales := by unfold Lp.setEnd; split <;> rfl
theorem tales_setNow (n : Int) : (l.setNow i n).tales = l.tales := by unfold Lp.setNow; split <;> rfl
end
theorem becomes_now {l : Lp} (h : NowOk l) {i : Int} (hi : i = 0 ∨ i = 1) {e : En} (hc : Cont (l.end_ i) e) : NowOk (becomesA l i e) := by
 obtain ⟨hb, hc⟩ := hc; intro j hj; have hjn := h j hj; by_cases hp : e.phase = 3
 ·obtain ⟨hc1, hc2⟩ := hc hp; by_cases hs : sameS (l.end_ i) e
  ·rw [becomes_same hi hp hs]; obtain ⟨k, t, hk, ht, he, hl, hpr, hsn⟩ := (h i hi).2 hs.1; have hcc := hc1 hs; refine ⟨?_, ?_⟩ <;> rw [end_tales, now_tales, now_setEnd, end_setEnd hi hj]
   ·intro hn; by_cases e1 : j = i
    ·rw [if_pos e1] at hn; exact absurd hp hn
    ·rw [if_neg e1] at hn; exact hjn.1 hn
   ·intro hn; by_cases e1 : j = i
    ·subst e1; rw [if_pos rfl]; refine ⟨k, sentA e t, hk, ?_, he, ?_, ?_, ?_⟩
     ·show (setAt (sentA e) (l.now j).toNat l.tales)[k]? = _; rw [setAt_get, hk, if_pos (by omega), ht]; rfl
     ·show t.life = e.life; rw [hl]; exact hs.2.2
     ·show t.peer = e.peer; rw [hpr]; exact hs.2.1
     ·exact sentA_len hb (by omega) (by omega)
    ·rw [if_neg e1] at hn ⊢; obtain ⟨k', t', hk', ht', he', hr⟩ := hjn.2 hn; refine ⟨k', t', hk', ?_, he', hr⟩; show (setAt (sentA e) (l.now i).toNat l.tales)[k']? = _; rw [setAt_get, hk, if_neg ?_, ht']; intro e2; have e3 : k' = k := by omega
     subst e3; rw [ht] at ht'; injection ht' with e4; rw [← e4, he] at he'; exact e1 he'.symm
  ·rw [becomes_new hi hp hs]; refine ⟨?_, ?_⟩ <;> rw [end_tales, now_tales, now_setNow hi hj, end_setNow, now_setEnd, end_setEnd hi hj]
   ·intro hn; by_cases e1 : j = i
    ·rw [if_pos e1] at hn; exact absurd hp hn
    ·rw [if_neg e1] at hn ⊢; exact hjn.1 hn
   ·intro hn; by_cases e1 : j = i
    ·subst e1; rw [if_pos rfl, if_pos rfl]; refine ⟨l.tales.length, _, rfl, List.getElem?_concat_length, rfl, rfl, rfl, ?_⟩; have hb0 := hc2 hs; exact sentA_len hb (by rw [hb0]; exact Int.le_refl _) (by simp; omega)
    ·rw [if_neg e1] at hn ⊢; rw [if_neg e1]; obtain ⟨k', t', hk', ht', hr⟩ := hjn.2 hn; have := (List.getElem?_eq_some_iff.1 ht').1; exact ⟨k', t', hk', by show (l.tales ++ _)[k']? = _; rw [List.getElem?_append_left this]; exact ht', hr⟩
 ·rw [becomes_closed hp]; refine ⟨?_, ?_⟩ <;> rw [now_setNow hi hj, end_setNow, now_setEnd, end_setEnd hi hj]
  ·intro hn; by_cases e1 : j = i
   ·rw [if_pos e1]
   ·rw [if_neg e1] at hn ⊢; exact hjn.1 hn
  ·intro hn; by_cases e1 : j = i
   ·rw [if_pos e1] at hn; exact absurd hn hp
   ·rw [if_neg e1] at hn ⊢; rw [if_neg e1, tales_setNow, tales_setEnd]; exact hjn.2 hn
theorem NowOk.upd {l : Lp} (h : NowOk l) (f : Ta → Ta) (hf : ∀ t, (f t).end_ = t.end_ ∧ (f t).life = t.life ∧ (f t).peer = t.peer ∧ (f t).sent = t.sent) (k : Nat) : NowOk { l with tales := setAt f k l.tales } := by
 intro j hj; refine ⟨(h j hj).1, fun hn => ?_⟩; obtain ⟨k', t', hk', ht', h1, h2, h3, h4⟩ := (h j hj).2 hn; by_cases e : k' = k
 ·obtain ⟨f1, f2, f3, f4⟩ := hf t'; exact ⟨k', f t', hk', by show (setAt f k l.tales)[k']? = _; rw [setAt_get, if_pos e, ht']; rfl, by rw [f1]; exact h1, by rw [f2]; exact h2, by rw [f3]; exact h3, by rw [f4]; exact h4⟩
 ·exact ⟨k', t', hk', by show (setAt f k l.tales)[k']? = _; rw [setAt_get, if_neg e]; exact ht', h1, h2, h3, h4⟩
theorem NowOk.way {l : Lp} (h : NowOk l) (i : Int) (ps : List Pk) : NowOk (wayA l i ps) := by rw [way_eq]; exact h
theorem cont_refl {e : En} (h : GoodP e) : Cont e e := by
 refine ⟨h.base, fun hp => ⟨fun _ => ?_, fun hn => absurd ⟨hp, rfl, rfl⟩ hn⟩⟩; omega
theorem send_cont {e : En} {t : ByteArray} (h : goodB e = true) (hs : (sendA e t).2.2 = 0) : Cont e (sendA e t).1 := by
 have hG := good_iff.1 h; rw [(send_ok h hs).1]; refine ⟨hG.base, fun hp => ⟨fun _ => ?_, fun hn => absurd ⟨hp, rfl, rfl⟩ hn⟩⟩; have hp' : e.phase = 3 := hp; rw [fly_snoc, if_pos hp']; unfold flyN; rw [if_pos hp']; show e.base ≤ _ ∧ _ ≤ e.base + _; omega
theorem again_cont {e : En} (h : goodB e = true) (hs : (againA e).2 = 0) : Cont e (againA e).1 := by
 rw [(again_ok h hs).1]; exact ⟨Int.le_refl _, fun hp => by cases hp⟩
theorem over_eq (e : En) (p : Pk) : (e.peer < p.frm ∧ (if e.peer < p.frm then overA e p.frm else (e, [])) = overA e p.frm) ∨ (¬ e.peer < p.frm ∧ (if e.peer < p.frm then overA e p.frm else (e, [])) = (e, [])) := by
 by_cases h : e.peer < p.frm
 ·exact .inl ⟨h, if_pos h⟩
 ·exact .inr ⟨h, if_neg h⟩
theorem tk_old {e : En} {p : Pk} (hg : goodB e = true) (hp : properB p = true) (hd : p.frm < e.peer) : takeA e p = (e, noGn, 0) := by
 unfold takeA; rw [hg, hp]; simp only [Bool.and_self, Bool.true_eq_false, if_false]; rw [if_pos hd]
theorem open_base (e : En) : (openE e).base = e.base ∧ (openE e).out = e.out ∧ (openE e).life = e.life ∧ (openE e).peer = e.peer ∧ ((openE e).phase = if e.phase = 2 then 3 else e.phase) := by
 unfold openE; by_cases h : e.phase = 2
 ·rw [if_pos (by simpa using h), if_pos h]; exact ⟨rfl, rfl, rfl, rfl, rfl⟩
 ·rw [if_neg (by simpa using h), if_neg h]; exact ⟨rfl, rfl, rfl, rfl, rfl⟩
theorem acked_fly (e : En) (p : Pk) (n : Nat) (_hn : n ≤ e.out.length) : (ackedA e p n).out.length = e.out.length - goneA e p n := by
 unfold ackedA goneA; split
 ·simp
 ·simp only [markA_len, List.length_drop]
theorem take_shape {e : En} {p : Pk} (hg : goodB e = true) (hp : properB p = true) : (takeA e p = (e, noGn, 0) ∧ p.frm < e.peer) ∨
  ∃ e1 ls, ¬ p.frm < e.peer ∧ (if e.peer < p.frm then overA e p.frm else (e, [])) = (e1, ls) ∧ e1.peer = p.frm ∧ e1.life = e.life ∧ GoodP e1 ∧
   (((takeA e p).1 = e1 ∧ (p.to == e1.life) = false) ∨ ((p.to == e1.life) = true ∧ ((takeA e p).1 = openE e1 ∨ (takeA e p).1 = ackedA (openE e1) p (flyN e1) ∨ (takeA e p).1 = (cameA (ackedA (openE e1) p (flyN e1)) p).1))) := by
 by_cases hd : p.frm < e.peer
 ·exact .inl ⟨tk_old hg hp hd, hd⟩
 ·refine .inr ?_; have hG := good_iff.1 hg; have hf := proper_from hp; obtain ⟨e1, ls, ho⟩ : ∃ e1 ls, (if e.peer < p.frm then overA e p.frm else (e, [])) = (e1, ls) := ⟨_, _, rfl⟩; have h1 : e1.peer = p.frm ∧ e1.life = e.life ∧ GoodP e1 := by
   rcases over_eq e p with ⟨h1, h2⟩ | ⟨h1, h2⟩
   ·rw [h2] at ho; have := congrArg Prod.fst ho; simp only at this; rw [← this]; exact ⟨rfl, rfl, over_good hG hf.1 hf.2.1⟩
   ·rw [h2] at ho; injection ho with e2 _; subst e2; exact ⟨by omega, rfl, hG⟩
  refine ⟨e1, ls, hd, ho, h1.1, h1.2.1, h1.2.2, ?_⟩; rw [tk_go hg hp hd ho]; cases hm : (p.to == e1.life) with
  | false => exact .inl ⟨by rw [tb_foreign hm], rfl⟩
  | true =>
   refine .inr ⟨rfl, ?_⟩; have hk : p.kind = 1 ∨ p.kind = 2 ∨ p.kind = 3 := by
    unfold properB at hp; simp only [Bool.and_eq_true] at hp; obtain ⟨_, hp⟩ := hp; split at hp
    ·left; assumption
    ·split at hp
     ·right; left; assumption
     ·split at hp
      ·right; right; assumption
      ·cases hp
   rcases hk with hk | hk | hk
   ·exact .inl (by rw [tb_hello hm hk])
   ·exact .inr (.inr (by rw [tb_data hm hk]))
   ·exact .inr (.inl (by rw [tb_ack hm hk]))
theorem take_cont {e : En} {p : Pk} (hg : goodB e = true) (hp : properB p = true) : Cont e (takeA e p).1 := by
 have hG := good_iff.1 hg; rcases take_shape hg hp with ⟨h, _⟩ | ⟨e1, ls, hd, ho, hpr, hlf, hG1, h⟩
 ·rw [h]; exact cont_refl hG
 ·have h1 : Cont e e1 := by
   rcases over_eq e p with ⟨h1, h2⟩ | ⟨h1, h2⟩
   ·rw [h2] at ho; have := congrArg Prod.fst ho; simp only at this; rw [← this]; exact ⟨Int.le_refl _, fun hp => by cases hp⟩
   ·rw [h2] at ho; injection ho with e2 _; subst e2; exact cont_refl hG
  have hB : e1.phase ≠ 3 → e1.base = 0 := fun hn => (hG1.cl hn).1; have hs : e1.phase = 3 → e1 = e := fun hn => by
   rcases over_eq e p with ⟨h1, h2⟩ | ⟨h1, h2⟩
   ·rw [h2] at ho; have := congrArg Prod.fst ho; simp only at this; rw [← this] at hn; cases hn
   ·rw [h2] at ho; injection ho with e2 _; exact e2.symm
  have hsm : ¬ e1.phase = 3 → ∀ e2 : En, e2.peer = e1.peer → ¬ (e.phase = 3 ∧ e.peer = e2.peer ∧ e.life = e2.life) := fun hn e2 h2 h3 => by
   rcases over_eq e p with ⟨h4, h5⟩ | ⟨h4, h5⟩
   ·omega
   ·rw [h5] at ho; injection ho with e2 _; subst e2; exact hn h3.1
  obtain ⟨o1, o2, o3, o4, o5⟩ := open_base e1; have key : ∀ e2 : En, e2.peer = e1.peer → e2.life = e1.life → e2.phase = (openE e1).phase → (∃ g : Nat, g ≤ flyN e1 ∧ e2.base = e1.base + g ∧ e2.out.length = e1.out.length - g) → Cont e e2 := by
   rintro e2 p1 p2 p3 ⟨g, g1, g2, g3⟩; have hb1 := hG1.base; have hf1 := fly_le e1; refine ⟨by omega, fun hp3 => ⟨fun hsame => ?_, fun hns => ?_⟩⟩
   ·by_cases h3 : e1.phase = 3
    ·have := hs h3; subst this; unfold flyN at g1 ⊢; rw [if_pos h3] at g1 ⊢; rw [if_pos hp3]; omega
    ·exact absurd hsame (hsm h3 e2 p1)
   ·by_cases h3 : e1.phase = 3
    ·have := hs h3; subst this; exact absurd ⟨h3, p1.symm, p2.symm⟩ hns
    ·have hb := hB h3; have : flyN e1 = 0 := by unfold flyN; rw [if_neg h3]
     omega
  have ka : ∀ e2 : En, e2.peer = e1.peer → e2.life = e1.life → e2.phase = (openE e1).phase → e2.base = (ackedA (openE e1) p (flyN e1)).base → e2.out.length = (ackedA (openE e1) p (flyN e1)).out.length → Cont e e2 := fun e2 p1 p2 p3 p4 p5 => by
   obtain ⟨a1, a2, _⟩ := acked_base (openE e1) p (flyN e1); refine key e2 p1 p2 p3 ⟨goneA (openE e1) p (flyN e1), a2, by rw [p4, a1, o1], ?_⟩; rw [p5, acked_fly _ _ _ (by rw [o2]; exact (fly_le e1).1), o2]
  obtain ⟨a1, a2, a3, a4, a5⟩ := acked_base (openE e1) p (flyN e1); rcases h with ⟨h, _⟩ | ⟨_, h | h | h⟩
  ·rw [h]; exact h1
  ·rw [h]; exact key _ o4 o3 rfl ⟨0, Nat.zero_le _, by rw [o1]; simp, by rw [o2]; simp⟩
  ·rw [h]; exact ka _ (by rw [a4, o4]) (by rw [a3, o3]) a5 rfl rfl
  ·rw [h]; obtain ⟨c1, c2, c3, c4, c5⟩ := came_base (ackedA (openE e1) p (flyN e1)) p; exact ka _ (by rw [c4, a4, o4]) (by rw [c5, a3, o3]) (by rw [c3, a5]) c1 (by rw [c2])
structure Bulk (l : Lp) (n : Nat) : Prop where
 wire : l.wire.length ≤ n
 tales : l.tales.length ≤ n
 txt : ∀ t ∈ l.tales, t.sent.length ≤ n ∧ t.lost.length ≤ n ∧ t.taken.length ≤ n
theorem Bulk.mono {l : Lp} {n n' : Nat} (h : Bulk l n) (hn : n ≤ n') : Bulk l n' := ⟨by have := h.wire; omega, by have := h.tales; omega, fun t ht => by have := h.txt t ht; omega⟩
theorem sentA_bulk (e : En) (t : Ta) : (sentA e t).sent.length ≤ t.sent.length + 4 := by
 have h1 := (fly_le e).1; have h2 := (fly_le e).2; simp only [sentA, List.length_append, List.length_map, List.length_drop, List.length_take]; omega
theorem becomes_tales {l : Lp} {i : Int} (hi : i = 0 ∨ i = 1) (e : En) : (becomesA l i e).tales = l.tales ∨ (becomesA l i e).tales = l.tales ++ [sentA e ⟨i, e.life, e.peer, [], [], []⟩] ∨ (becomesA l i e).tales = setAt (sentA e) (l.now i).toNat l.tales := by
 by_cases hp : e.phase = 3
 ·by_cases hs : sameS (l.end_ i) e
  ·rw [becomes_same hi hp hs]; exact .inr (.inr rfl)
  ·rw [becomes_new hi hp hs]; exact .inr (.inl rfl)
 ·rw [becomes_closed hp, tales_setNow, tales_setEnd]; exact .inl rfl
theorem becomes_bulk {l : Lp} {n : Nat} (h : Bulk l n) {i : Int} (hi : i = 0 ∨ i = 1) (e : En) : Bulk (becomesA l i e) (n + 4) := by
 have hw := (becomes_e l i e).2.2.1; have hwl := h.wire; have htl := h.tales; rcases becomes_tales hi e with ht | ht | ht
 ·exact ⟨by rw [hw]; omega, by rw [ht]; omega, fun t hx => by rw [ht] at hx; have := h.txt t hx; omega⟩
 ·refine ⟨by rw [hw]; omega, by rw [ht]; simp; omega, fun t hx => ?_⟩; rw [ht] at hx; rcases List.mem_append.1 hx with hx | hx
  ·have := h.txt t hx; omega
  ·simp at hx; subst hx; have := sentA_bulk e ⟨i, e.life, e.peer, [], [], []⟩; refine ⟨?_, Nat.zero_le _, Nat.zero_le _⟩; simp at this; omega
 ·refine ⟨by rw [hw]; omega, by rw [ht, setAt_len]; omega, fun t hx => ?_⟩; rw [ht] at hx; rcases setAt_mem hx with hx | ⟨y, hy, rfl⟩
  ·have := h.txt t hx; omega
  ·have h1 := h.txt y hy; have h2 := sentA_bulk e y; refine ⟨by omega, ?_, ?_⟩
   ·show y.lost.length ≤ _; omega
   ·show y.taken.length ≤ _; omega
theorem Bulk.upd {l : Lp} {n : Nat} (h : Bulk l n) (f : Ta → Ta) (c : Nat) (hf : ∀ t, (f t).sent.length ≤ t.sent.length + c ∧ (f t).lost.length ≤ t.lost.length + c ∧ (f t).taken.length ≤ t.taken.length + c) (k : Nat) : Bulk { l with tales := setAt f k l.tales } (n + c) := by
 refine ⟨by have := h.wire; show l.wire.length ≤ _; omega, by have := h.tales; show (setAt f k l.tales).length ≤ _; rw [setAt_len]; omega, fun t hx => ?_⟩; rcases setAt_mem hx with hx | ⟨y, hy, rfl⟩
 ·have := h.txt t hx; omega
 ·have h1 := h.txt y hy; have h2 := hf y; omega
theorem Bulk.way {l : Lp} {n : Nat} (h : Bulk l n) (i : Int) (ps : List Pk) : Bulk (wayA l i ps) (n + ps.length) := by
 rw [way_eq]; refine ⟨?_, by have := h.tales; show l.tales.length ≤ _; omega, fun t hx => by have := h.txt t hx; omega⟩; have := h.wire; simp only [List.length_append, List.length_map, List.length_take]; omega
theorem take_packets {e : En} {p : Pk} (hg : goodB e = true) (hp : properB p = true) : (takeA e p).2.1.packets.length ≤ 6 ∧ (takeA e p).2.1.taken.length ≤ 4 ∧ (takeA e p).2.1.lost.length ≤ 4 := by
 have hG := good_iff.1 hg; by_cases hd : p.frm < e.peer
 ·rw [tk_old hg hp hd]; exact ⟨by simp [noGn], by simp [noGn], by simp [noGn]⟩
 obtain ⟨e1, ls, ho⟩ : ∃ e1 ls, (if e.peer < p.frm then overA e p.frm else (e, [])) = (e1, ls) := ⟨_, _, rfl⟩; have hls : ls.length ≤ 4 := by
  rcases over_eq e p with ⟨_, h2⟩ | ⟨_, h2⟩
  ·rw [h2] at ho; have := congrArg Prod.snd ho; simp only at this; rw [← this]; have := (fly_le e).2; simp only [overA, List.length_map, List.length_take]; omega
  ·rw [h2] at ho; injection ho with _ e2; rw [← e2]; simp
 have hf : ∀ (x : En) (n : Nat), (fromA x n).length ≤ 4 := fun x n => by rw [fromA_len]; have := (fly_le x).2; omega
 have hg1 : GoodP e1 := by
  rcases over_eq e p with ⟨h1, h2⟩ | ⟨h1, h2⟩
  ·rw [h2] at ho; have := congrArg Prod.fst ho; simp only at this; rw [← this]; exact over_good hG (proper_from hp).1 (proper_from hp).2.1
  ·rw [h2] at ho; injection ho with e2 _; rw [← e2]; exact hG
 rw [tk_go hg hp hd ho]; cases hm : (p.to == e1.life) with
 | false =>
  rw [tb_foreign hm]; have := hf e1 (flyN e1); refine ⟨?_, Nat.zero_le _, hls⟩; simp only [List.length_append, List.length_cons, List.length_nil]; omega
 | true =>
  have hph1 : e1.phase ≠ 1 := fun h1 => by
   rcases over_eq e p with ⟨h3, h2⟩ | ⟨h3, h2⟩
   ·rw [h2] at ho; have := congrArg Prod.fst ho; simp only at this; rw [← this] at h1; cases h1
   ·rw [h2] at ho; injection ho with e2 _; subst e2; have := (hG.cl (by omega)).2.2.2; have := (proper_from hp).1; omega
  have hop : GoodP (openE e1) ∧ (openE e1).phase = 3 := by
   have hq := (open_base e1).2.2.2.2; by_cases h2 : e1.phase = 2
   ·have : openE e1 = { e1 with phase := 3 } := by unfold openE; rw [if_pos (by simpa using h2)]
    rw [this]; exact ⟨opened_good hg1 h2, rfl⟩
   ·have h3 : e1.phase = 3 := by
     by_cases h3 : e1.phase = 3
     ·exact h3
     ·have := (hg1.cl h3).2.2.2; omega
    have : openE e1 = e1 := by unfold openE; rw [if_neg (by simpa using h2)]
    rw [this]; exact ⟨hg1, h3⟩
  have hk : p.kind = 1 ∨ p.kind = 2 ∨ p.kind = 3 := by
   unfold properB at hp; simp only [Bool.and_eq_true] at hp; obtain ⟨_, hp⟩ := hp; split at hp
   ·left; assumption
   ·split at hp
    ·right; left; assumption
    ·split at hp
     ·right; right; assumption
     ·cases hp
  rcases hk with hk | hk | hk
  ·rw [tb_hello hm hk]; have := hf (openE e1) (flyN e1); refine ⟨?_, Nat.zero_le _, hls⟩; simp only [List.length_append, List.length_nil]; split <;> simp only [List.length_cons, List.length_nil] <;> omega
  ·rw [tb_data hm hk]; have h1 := hf (cameA (ackedA (openE e1) p (flyN e1)) p).1 (flyN e1 - goneA (openE e1) p (flyN e1)); have hfl : flyN e1 ≤ flyN (openE e1) := by
    unfold flyN; rw [if_pos hop.2, (open_base e1).2.1]; split <;> omega
   have h2 := came_len (p := p) (acked_good hop.1 hop.2 p hfl); refine ⟨?_, h2, hls⟩; simp only [List.length_append, List.length_cons, List.length_nil]; omega
  ·rw [tb_ack hm hk]; have := hf (ackedA (openE e1) p (flyN e1)) (flyN e1 - goneA (openE e1) p (flyN e1)); refine ⟨?_, Nat.zero_le _, hls⟩; simp only [List.length_append, List.length_nil]; omega
structure LineK (l : Lp) (n : Nat) : Prop where
 ok : LineOk l
 now : NowOk l
 bulk : Bulk l n
theorem tell_k {l : Lp} {n : Nat} (hn : NowOk l) (hb : Bulk l n) {i : Int} (hi : i = 0 ∨ i = 1) {e : En} {g : Gn} (hc : Cont (l.end_ i) e) (h1 : g.packets.length ≤ 6) (h2 : g.taken.length ≤ 4) : NowOk (tellA l i e g) ∧ Bulk (tellA l i e g) (n + 14) := by
 have a1 := becomes_now hn hi hc; have a2 := becomes_bulk hb hi e; have key : ∀ (L : Lp) (m : Nat), NowOk L → Bulk L m → m ≤ n + 8 → NowOk (wayA L i g.packets) ∧ Bulk (wayA L i g.packets) (n + 14) := fun L m b1 b2 hm => ⟨b1.way i g.packets, (b2.way i g.packets).mono (by omega)⟩; unfold tellA; simp only; split
 ·refine key _ (n + 4 + 4) (a1.upd (fun t => { t with taken := t.taken ++ g.taken }) (fun t => ⟨rfl, rfl, rfl, rfl⟩) _) (a2.upd (fun t => { t with taken := t.taken ++ g.taken }) 4 (fun t => ⟨by simp, by simp, ?_⟩) _) (by omega); show (t.taken ++ g.taken).length ≤ _; rw [List.length_append]; omega
 ·exact key _ (n + 4) a1 a2 (by omega)
theorem carry_k {l : Lp} {n : Nat} (h : LineK l n) {k : Nat} (hk : k < l.wire.length) : LineK (carryA l k) (n + 20) := by
 suffices hh : NowOk (carryA l k) ∧ Bulk (carryA l k) (n + 20) from ⟨(carry_less h.ok hk).1, hh.1, hh.2⟩
 have hx : l.wire[k]? = some l.wire[k] := List.getElem?_eq_getElem hk; obtain ⟨x, hxe⟩ : ∃ x, l.wire[k] = x := ⟨_, rfl⟩; rw [hxe] at hx; have ht := h.ok.wire x (List.mem_of_getElem? hx); have hto : x.to = 0 ∨ x.to = 1 := by
  rcases ht.2 with h | h
  ·exact .inl h.1
  ·exact .inr h.1
 have hg := h.ok.good x.to; have htk := take_packets hg ht.1; have hct := take_cont hg ht.1; have hb1 : Bulk { l with wire := l.wire.eraseIdx k } n := ⟨by have := h.bulk.wire; show (l.wire.eraseIdx k).length ≤ n; rw [List.length_eraseIdx]; split <;> omega, h.bulk.tales, h.bulk.txt⟩
 have hn1 : NowOk { l with wire := l.wire.eraseIdx k } := h.now; have key : ∀ (L : Lp) (m : Nat), NowOk L → Bulk L m → m ≤ n + 4 → L.end_ x.to = l.end_ x.to → NowOk (tellA L x.to (takeA (l.end_ x.to) x.p).1 (takeA (l.end_ x.to) x.p).2.1) ∧ Bulk (tellA L x.to (takeA (l.end_ x.to) x.p).1 (takeA (l.end_ x.to) x.p).2.1) (n + 20) := fun L m b1 b2 hm he => by
  obtain ⟨c1, c2⟩ := tell_k b1 b2 hto (e := (takeA (l.end_ x.to) x.p).1) (g := (takeA (l.end_ x.to) x.p).2.1) (by rw [he]; exact hct) htk.1 htk.2.1; exact ⟨c1, c2.mono (by omega)⟩
 unfold carryA; rw [hx]; simp only; split
 ·refine key _ (n + 4) (hn1.upd (fun t => { t with lost := t.lost ++ (takeA (l.end_ x.to) x.p).2.1.lost }) (fun t => ⟨rfl, rfl, rfl, rfl⟩) _) (hb1.upd (fun t => { t with lost := t.lost ++ (takeA (l.end_ x.to) x.p).2.1.lost }) 4 (fun t => ⟨by simp, ?_, by simp⟩) _) (by omega) rfl; show (t.lost ++ _).length ≤ _; rw [List.length_append]; have h3 := htk.2.2; show _ + (takeA (l.end_ x.to) x.p).2.1.lost.length ≤ _; omega
 ·exact key _ n hn1 hb1 (by omega) rfl
theorem tick_packets (e : En) : (tickA e).1.length ≤ 5 := by
 have h0 := (fly_le e).2; unfold tickA; split
 ·simp
 ·split
  ·simp
  ·simp only [List.length_append, List.length_map, List.length_cons, List.length_nil]; have : ∀ (l : List Ou) (i : Nat), (freeIx i l).length ≤ l.length := by
    intro l; induction l with
    | nil => intro i; simp [freeIx]
    | cons x l ih =>
     intro i; have := ih (i + 1); simp only [freeIx]; split <;> simp only [List.length_cons] <;> omega
   have := this (e.out.take (flyN e)) 0; rw [List.length_take] at this; omega
theorem send_packets (e : En) (t : ByteArray) : (sendA e t).2.1.length ≤ 4 := by
 unfold sendA; split
 ·simp
 ·split
  ·simp
  ·simp only; rw [fromA_len]; have := (fly_le { e with out := e.out ++ [⟨t, false⟩] }).2; omega
theorem does_k {l : Lp} {n : Nat} (h : LineK l n) {d : Dd} (hd : deedB d = true) : LineK (doesA l d) (n + 20) := by
 suffices hh : NowOk (doesA l d) ∧ Bulk (doesA l d) (n + 20) from ⟨does_ok h.ok hd, hh.1, hh.2⟩
 have hi := deed_end hd; have hwk : ∀ {a b : Prop} {L : Lp}, True → True := fun _ => trivial; have hself : NowOk l ∧ Bulk l (n + 20) := ⟨h.now, h.bulk.mono (by omega)⟩; unfold doesA; simp only; split
 ·split
  ·rename_i hs; have hc := send_cont (h.ok.good d.end_) hs; have a1 := becomes_now h.now hi hc; have a2 := becomes_bulk h.bulk hi (sendA (l.end_ d.end_) d.t).1; have := send_packets (l.end_ d.end_) d.t; exact ⟨a1.way _ _, (a2.way _ _).mono (by omega)⟩
  ·exact hself
 ·split
  ·have := tick_packets (l.end_ d.end_); exact ⟨h.now.way _ _, (h.bulk.way _ _).mono (by omega)⟩
  ·split
   ·split
    ·rename_i hs; have hc := again_cont (h.ok.good d.end_) hs; exact ⟨becomes_now h.now hi hc, (becomes_bulk h.bulk hi _).mono (by omega)⟩
    ·exact hself
   ·split
    ·exact hself
    ·rename_i hw; have hklt : (d.at_ % (l.wire.length : Int)).toNat < l.wire.length := by
      have h2 := Int.emod_lt_of_pos d.at_ (show (0 : Int) < (l.wire.length : Int) by omega); have h1 := Int.emod_nonneg d.at_ (show (l.wire.length : Int) ≠ 0 by omega); omega
     split
     ·have := carry_k h hklt; exact ⟨this.now, this.bulk⟩
     ·split
      ·refine ⟨h.now, ⟨?_, by have := h.bulk.tales; show l.tales.length ≤ _; omega, fun t ht => by have := h.bulk.txt t ht; omega⟩⟩; have := h.bulk.wire; show (l.wire.eraseIdx _).length ≤ _; rw [List.length_eraseIdx]; split <;> omega
      ·split
       ·exact hself
       ·exact ⟨h.now.way _ _, (h.bulk.way _ _).mono (by simp)⟩
theorem first_k : LineK firstA 0 := by
 refine ⟨first_ok, fun i hi => ?_, ⟨by simp [firstA], by simp [firstA], fun t ht => by simp [firstA] at ht⟩⟩; rcases hi with rfl | rfl
 ·exact ⟨fun _ => rfl, fun hn => by cases hn⟩
 ·exact ⟨fun _ => rfl, fun hn => by cases hn⟩
theorem folds_k : ∀ (m : List Dd) (x : Lp) (n : Nat), (∀ d ∈ m, deedB d = true) → LineK x n → LineK (m.foldl doesA x) (n + 20 * m.length)
 | [], x, n, _, hx => hx
 | d :: m, x, n, hm, hx => by
  have := folds_k m (doesA x d) (n + 20) (fun y hy => hm y (List.mem_cons_of_mem _ hy)) (does_k hx (hm d List.mem_cons_self)); rw [List.length_cons, show n + 20 * (m.length + 1) = n + 20 + 20 * m.length by omega]; exact this
end Go.Proofs.Ytejabnoidhlfaaa
