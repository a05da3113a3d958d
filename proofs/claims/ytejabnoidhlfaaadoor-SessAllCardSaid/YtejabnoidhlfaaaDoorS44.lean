/- Safe lines: a step within a session. -/
import Derived.Test.YtejabnoidhlfaaaDoorS28

/- Tales by their keys: an end, its life, the other one's. -/
namespace Go.Proofs.YtejabnoidhlfaaaDoor

def isKey (i a b : Int) (t : Ta) : Bool := t.end_ == i && t.life == a && t.peer == b
theorem isKey_iff {i a b : Int} {t : Ta} : isKey i a b t = true ↔ t.end_ = i ∧ t.life = a ∧ t.peer = b := by
 unfold isKey
 simp only [Bool.and_eq_true, beq_iff_eq, and_assoc]
def tale (ts : List Ta) (i a b : Int) : Option Ta := ts.find? (isKey i a b)
def sentOf (ts : List Ta) (i a b : Int) : List ByteArray := match tale ts i a b with
 | some t => t.sent
 | none => []
def takenOf (ts : List Ta) (i a b : Int) : List ByteArray := match tale ts i a b with
 | some t => t.taken
 | none => []
/-- Tales of one life are in the order of the other end's lives. -/
def Ord (ts : List Ta) : Prop := ts.Pairwise fun t u => t.end_ = u.end_ → t.life = u.life → t.peer < u.peer
theorem tale_key {ts : List Ta} {i a b : Int} {t : Ta} (h : tale ts i a b = some t) : t ∈ ts ∧ t.end_ = i ∧ t.life = a ∧ t.peer = b := ⟨List.mem_of_find?_eq_some h, isKey_iff.1 (List.find?_some h)⟩
theorem tale_of_mem : ∀ {ts : List Ta}, Ord ts → ∀ {t : Ta}, t ∈ ts → tale ts t.end_ t.life t.peer = some t
 | [], _, t, h => by cases h
 | u :: ts, ho, t, h => by
  have ho' := List.pairwise_cons.1 ho
  unfold tale
  rw [List.find?_cons]
  cases hk : isKey t.end_ t.life t.peer u with
  | true =>
   obtain ⟨h1, h2, h3⟩ := isKey_iff.1 hk
   rcases List.mem_cons.1 h with rfl | h
   ·rfl
   ·have := ho'.1 t h h1 h2
    omega
  | false =>
   rcases List.mem_cons.1 h with rfl | h
   ·have : isKey t.end_ t.life t.peer t = true := isKey_iff.2 ⟨rfl, rfl, rfl⟩
    rw [this] at hk
    cases hk
   ·exact tale_of_mem ho'.2 h
theorem tale_at {ts : List Ta} (ho : Ord ts) {k : Nat} {t : Ta} (h : ts[k]? = some t) {i a b : Int} (h1 : t.end_ = i) (h2 : t.life = a) (h3 : t.peer = b) : tale ts i a b = some t := by
 subst h1 h2 h3
 exact tale_of_mem ho (List.mem_of_getElem? h)
theorem setAt_split {α : Type} (f : α → α) : ∀ {l : List α} {k : Nat} {x : α}, l[k]? = some x → ∃ p s, l = p ++ x :: s ∧ p.length = k ∧ setAt f k l = p ++ f x :: s
 | [], k, x, h => by simp at h
 | y :: l, 0, x, h => by
  have e : y = x := by simpa using h
  subst e
  exact ⟨[], l, rfl, rfl, rfl⟩
 | y :: l, k + 1, x, h => by
  obtain ⟨p, s, h1, h2, h3⟩ := setAt_split f (l := l) (k := k) (x := x) (by simpa using h)
  exact ⟨y :: p, s, by rw [h1]; rfl, by simp [h2], by rw [setAt, h3]; rfl⟩
/-- Tale k is changed, its key is not. -/
theorem tale_set {ts : List Ta} (ho : Ord ts) {k : Nat} {t : Ta} (h : ts[k]? = some t) {f : Ta → Ta} (hf : (f t).end_ = t.end_ ∧ (f t).life = t.life ∧ (f t).peer = t.peer) (i a b : Int) :
  tale (setAt f k ts) i a b = if isKey i a b t = true then some (f t) else tale ts i a b := by
 obtain ⟨p, s, h1, h2, h3⟩ := setAt_split f h
 have hk : isKey i a b (f t) = isKey i a b t := by unfold isKey; rw [hf.1, hf.2.1, hf.2.2]
 rw [h3]
 unfold tale
 rw [h1, List.find?_append, List.find?_append, List.find?_cons, List.find?_cons, hk]
 cases hq : isKey i a b t with
 | false => rfl
 | true =>
  have hn : p.find? (isKey i a b) = none := by
   rw [List.find?_eq_none]
   intro u hu hku
   obtain ⟨q1, q2, q3⟩ := isKey_iff.1 hq
   obtain ⟨r1, r2, r3⟩ := isKey_iff.1 hku
   rw [h1] at ho
   have := (List.pairwise_append.1 ho).2.2 u hu t List.mem_cons_self (by rw [r1, q1]) (by rw [r2, q2])
   omega
  rw [hn]
  rfl
theorem ord_set {ts : List Ta} (ho : Ord ts) {k : Nat} {f : Ta → Ta} (hf : ∀ t, (f t).end_ = t.end_ ∧ (f t).life = t.life ∧ (f t).peer = t.peer) : Ord (setAt f k ts) := by
 cases h : ts[k]? with
 | none =>
  have : setAt f k ts = ts := by
   apply List.ext_getElem?
   intro j
   rw [setAt_get]
   split
   ·rename_i e
    rw [e, h]; rfl
   ·rfl
  rw [this]; exact ho
 | some t =>
  obtain ⟨p, s, h1, h2, h3⟩ := setAt_split f h
  rw [h3]
  rw [h1] at ho
  have hp := List.pairwise_append.1 ho
  have hc := List.pairwise_cons.1 hp.2.1
  obtain ⟨f1, f2, f3⟩ := hf t
  refine List.pairwise_append.2 ⟨hp.1, List.pairwise_cons.2 ⟨fun u hu => ?_, hc.2⟩, fun u hu v hv => ?_⟩
  ·rw [f1, f2, f3]; exact hc.1 u hu
  ·rcases List.mem_cons.1 hv with rfl | hv
   ·rw [f1, f2, f3]; exact hp.2.2 u hu t List.mem_cons_self
   ·exact hp.2.2 u hu v (List.mem_cons_of_mem _ hv)
theorem tale_app {ts : List Ta} {n : Ta} (hn : tale ts n.end_ n.life n.peer = none) (i a b : Int) : tale (ts ++ [n]) i a b = if isKey i a b n = true then some n else tale ts i a b := by
 unfold tale
 rw [List.find?_append]
 cases hk : isKey i a b n with
 | true =>
  obtain ⟨h1, h2, h3⟩ := isKey_iff.1 hk
  subst h1 h2 h3
  unfold tale at hn
  rw [hn]
  simp [hk]
 | false => simp [hk]
theorem ord_app {ts : List Ta} (ho : Ord ts) {n : Ta} (h : ∀ t ∈ ts, t.end_ = n.end_ → t.life = n.life → t.peer < n.peer) : Ord (ts ++ [n]) := by
 refine List.pairwise_append.2 ⟨ho, List.pairwise_cons.2 ⟨fun u hu => (by cases hu), List.Pairwise.nil⟩, fun u hu v hv => ?_⟩
 have : v = n := by simpa using hv
 subst this
 exact h u hu
/-- Two tales of the same key are one. -/
theorem ord_lt {ts : List Ta} (ho : Ord ts) {j k : Nat} {t u : Ta} (hj : ts[j]? = some t) (hk : ts[k]? = some u) (hlt : j < k) (h1 : t.end_ = u.end_) (h2 : t.life = u.life) : t.peer < u.peer := by
 obtain ⟨hj1, hj2⟩ := List.getElem?_eq_some_iff.1 hj
 obtain ⟨hk1, hk2⟩ := List.getElem?_eq_some_iff.1 hk
 have := (List.pairwise_iff_getElem.1 ho) j k hj1 hk1 hlt
 rw [hj2, hk2] at this
 exact this h1 h2
end Go.Proofs.YtejabnoidhlfaaaDoor

/- Safe lines: what is taken in a session was sent in it, in order. -/
namespace Go.Proofs.YtejabnoidhlfaaaDoor

def lostOf (ts : List Ta) (i a b : Int) : List ByteArray := match tale ts i a b with
 | some t => t.lost
 | none => []
/-- An end took a message of a session, or holds it, as long as it is in this session. -/
def Got (l : Lp) (j a b m : Int) : Prop := (tale l.tales j a b).isSome = true ∧ ((l.end_ j).life = a → (l.end_ j).peer = b → m < ((takenOf l.tales j a b).length : Int) ∨ hasN (l.end_ j).inn m = true)
/-- What a packet of a session claims is so. -/
structure Wc (l : Lp) (i : Int) (p : Pk) : Prop where
 tale : (tale l.tales (1 - i) p.frm p.to).isSome = true
 ack : p.ack ≤ ((takenOf l.tales (1 - i) p.frm p.to).length : Int)
 held : ∀ k : Nat, 1 ≤ k → k ≤ 3 → p.held / 2 ^ (k - 1) % 2 = 1 → Got l (1 - i) p.frm p.to (p.ack + k)
 txt : p.kind = 2 → (sentOf l.tales (1 - i) p.frm p.to)[p.num.toNat]? = some p.t
/-- What holds of the session in which an end is. -/
structure Cur (l : Lp) (i : Int) (e : En) : Prop where
 sent : (sentOf l.tales i e.life e.peer).drop e.base.toNat = (e.out.take (flyN e)).map (·.t)
 taken : ((takenOf l.tales i e.life e.peer).length : Int) = e.want
 lost : lostOf l.tales i e.life e.peer = []
 base : e.base ≤ ((takenOf l.tales (1 - i) e.peer e.life).length : Int)
 held : ∀ (k : Nat) (x : Ou), e.out[k]? = some x → x.h = true → Got l (1 - i) e.peer e.life (e.base + k)
 inn : ∀ x ∈ e.inn, (sentOf l.tales (1 - i) e.peer e.life)[x.n.toNat]? = some x.t
structure Saf (l : Lp) : Prop where
 ok : LineOk l
 now : NowOk l
 ord : Ord l.tales
 ends : ∀ t ∈ l.tales, t.end_ = 0 ∨ t.end_ = 1
 key : ∀ i, (i = 0 ∨ i = 1) → ∀ a b t, tale l.tales i a b = some t → a ≤ (l.end_ i).life ∧ 1 ≤ b ∧ b ≤ (l.end_ (1 - i)).life ∧ (a = (l.end_ i).life → b ≤ (l.end_ i).peer ∧ (b = (l.end_ i).peer → (l.end_ i).phase = 3))
 pre : ∀ i, (i = 0 ∨ i = 1) → ∀ a b, takenOf l.tales i a b <+: sentOf l.tales (1 - i) b a
 cur : ∀ i, (i = 0 ∨ i = 1) → (l.end_ i).phase = 3 → Cur l i (l.end_ i)
 told : ∀ i, (i = 0 ∨ i = 1) → ∀ b t, tale l.tales i (l.end_ i).life b = some t → b ≠ (l.end_ i).peer → t.lost.length ≤ t.sent.length ∧ t.sent.length ≤ t.lost.length + (takenOf l.tales (1 - i) b (l.end_ i).life).length
 wire : ∀ x ∈ l.wire, x.p.kind ≠ 1 → Wc l x.to x.p

theorem other_i {i : Int} (hi : i = 0 ∨ i = 1) : 1 - i = 0 ∨ 1 - i = 1 := by omega
theorem other_ne {i : Int} : 1 - (1 - i) = i := by omega
theorem two_i {i j : Int} (hi : i = 0 ∨ i = 1) (hj : j = 0 ∨ j = 1) : j = i ∨ j = 1 - i := by omega
theorem pre_get {a b : List ByteArray} (h : a <+: b) {k : Nat} {x : ByteArray} (hk : a[k]? = some x) : b[k]? = some x := by
 obtain ⟨c, rfl⟩ := h
 rw [List.getElem?_append_left (List.getElem?_eq_some_iff.1 hk).1]
 exact hk
theorem sentOf_some {ts : List Ta} {i a b : Int} {t : Ta} (h : tale ts i a b = some t) : sentOf ts i a b = t.sent := by unfold sentOf; rw [h]
theorem takenOf_some {ts : List Ta} {i a b : Int} {t : Ta} (h : tale ts i a b = some t) : takenOf ts i a b = t.taken := by unfold takenOf; rw [h]
theorem lostOf_some {ts : List Ta} {i a b : Int} {t : Ta} (h : tale ts i a b = some t) : lostOf ts i a b = t.lost := by unfold lostOf; rw [h]
theorem sentOf_none {ts : List Ta} {i a b : Int} (h : tale ts i a b = none) : sentOf ts i a b = [] := by unfold sentOf; rw [h]
theorem takenOf_none {ts : List Ta} {i a b : Int} (h : tale ts i a b = none) : takenOf ts i a b = [] := by unfold takenOf; rw [h]

/-- Tales become longer. -/
def Ext (l l' : Lp) : Prop := ∀ i a b t, tale l.tales i a b = some t → ∃ t', tale l'.tales i a b = some t' ∧ t.sent <+: t'.sent ∧ t.taken <+: t'.taken
theorem Ext.sent {l l' : Lp} (h : Ext l l') (i a b : Int) : sentOf l.tales i a b <+: sentOf l'.tales i a b := by
 cases ht : tale l.tales i a b with
 | none => rw [sentOf_none ht]; exact List.nil_prefix
 | some t =>
  obtain ⟨t', h1, h2, _⟩ := h i a b t ht
  rw [sentOf_some ht, sentOf_some h1]; exact h2
theorem Ext.taken {l l' : Lp} (h : Ext l l') (i a b : Int) : takenOf l.tales i a b <+: takenOf l'.tales i a b := by
 cases ht : tale l.tales i a b with
 | none => rw [takenOf_none ht]; exact List.nil_prefix
 | some t =>
  obtain ⟨t', h1, _, h2⟩ := h i a b t ht
  rw [takenOf_some ht, takenOf_some h1]; exact h2
theorem Ext.is {l l' : Lp} (h : Ext l l') {i a b : Int} (hs : (tale l.tales i a b).isSome = true) : (tale l'.tales i a b).isSome = true := by
 obtain ⟨t, ht⟩ := Option.isSome_iff_exists.1 hs
 obtain ⟨t', h1, _⟩ := h i a b t ht
 rw [h1]; rfl
theorem Wc.ext {l l' : Lp} {i : Int} {p : Pk} (h : Wc l i p) (he : Ext l l') (hg : ∀ m, Got l (1 - i) p.frm p.to m → Got l' (1 - i) p.frm p.to m) : Wc l' i p :=
 ⟨he.is h.tale, by have := h.ack; have := (he.taken (1 - i) p.frm p.to).length_le; omega, fun k h1 h2 h3 => hg _ (h.held k h1 h2 h3), fun hk => pre_get (he.sent _ _ _) (h.txt hk)⟩
/-- One end and its tales are changed. -/
theorem Saf.chg {l l' : Lp} (h : Saf l) {i : Int} (hi : i = 0 ∨ i = 1) (hoth : l'.end_ (1 - i) = l.end_ (1 - i)) (hw : l'.wire = l.wire) (hso : ∀ a b, tale l'.tales (1 - i) a b = tale l.tales (1 - i) a b) (he : Ext l l') (hg : ∀ a b m, Got l i a b m → Got l' i a b m)
  (hok : LineOk l') (hnow : NowOk l') (hord : Ord l'.tales) (hends : ∀ t ∈ l'.tales, t.end_ = 0 ∨ t.end_ = 1) (hli : (l.end_ i).life ≤ (l'.end_ i).life)
  (hkey : ∀ a b t, tale l'.tales i a b = some t → a ≤ (l'.end_ i).life ∧ 1 ≤ b ∧ b ≤ (l'.end_ (1 - i)).life ∧ (a = (l'.end_ i).life → b ≤ (l'.end_ i).peer ∧ (b = (l'.end_ i).peer → (l'.end_ i).phase = 3)))
  (hpre : ∀ a b, takenOf l'.tales i a b <+: sentOf l'.tales (1 - i) b a) (hcur : (l'.end_ i).phase = 3 → Cur l' i (l'.end_ i))
  (htold : ∀ b t, tale l'.tales i (l'.end_ i).life b = some t → b ≠ (l'.end_ i).peer → t.lost.length ≤ t.sent.length ∧ t.sent.length ≤ t.lost.length + (takenOf l'.tales (1 - i) b (l'.end_ i).life).length) : Saf l' := by
 have hGo : ∀ a b m, Got l (1 - i) a b m → Got l' (1 - i) a b m := fun a b m hg => by
  have ht : takenOf l'.tales (1 - i) a b = takenOf l.tales (1 - i) a b := by unfold takenOf; rw [hso]
  unfold Got
  rw [hso, hoth, ht]
  exact hg
 have hGa : ∀ j, (j = 0 ∨ j = 1) → ∀ a b m, Got l j a b m → Got l' j a b m := fun j hj => by
  rcases two_i hi hj with rfl | rfl
  ·exact hg
  ·exact hGo
 refine ⟨hok, hnow, hord, hends, fun j hj a b t ht => ?_, fun j hj a b => ?_, fun j hj hp => ?_, fun j hj b t ht hb => ?_, fun x hx hk => ?_⟩
 ·rcases two_i hi hj with rfl | rfl
  ·exact hkey a b t ht
  ·rw [hso] at ht
   rw [hoth, other_ne]
   have := h.key (1 - i) (other_i hi) a b t ht
   rw [other_ne] at this
   exact ⟨this.1, this.2.1, by omega, this.2.2.2⟩
 ·rcases two_i hi hj with rfl | rfl
  ·exact hpre a b
  ·have h1 : takenOf l'.tales (1 - i) a b = takenOf l.tales (1 - i) a b := by unfold takenOf; rw [hso]
   rw [h1]
   exact (h.pre (1 - i) (other_i hi) a b).trans (he.sent _ _ _)
 ·rcases two_i hi hj with rfl | rfl
  ·exact hcur hp
  ·rw [hoth] at hp ⊢
   have hc := h.cur (1 - i) (other_i hi) hp
   have h1 : sentOf l'.tales (1 - i) (l.end_ (1 - i)).life (l.end_ (1 - i)).peer = sentOf l.tales (1 - i) (l.end_ (1 - i)).life (l.end_ (1 - i)).peer := by unfold sentOf; rw [hso]
   have h2 : takenOf l'.tales (1 - i) (l.end_ (1 - i)).life (l.end_ (1 - i)).peer = takenOf l.tales (1 - i) (l.end_ (1 - i)).life (l.end_ (1 - i)).peer := by unfold takenOf; rw [hso]
   have h3 : lostOf l'.tales (1 - i) (l.end_ (1 - i)).life (l.end_ (1 - i)).peer = lostOf l.tales (1 - i) (l.end_ (1 - i)).life (l.end_ (1 - i)).peer := by unfold lostOf; rw [hso]
   refine ⟨by rw [h1]; exact hc.sent, by rw [h2]; exact hc.taken, by rw [h3]; exact hc.lost, ?_, fun k x hx hh => hGa _ (other_i (other_i hi)) _ _ _ (hc.held k x hx hh), fun x hx => pre_get (he.sent _ _ _) (hc.inn x hx)⟩
   have h4 := (he.taken (1 - (1 - i)) (l.end_ (1 - i)).peer (l.end_ (1 - i)).life).length_le
   have h5 := hc.base
   omega
 ·rcases two_i hi hj with rfl | rfl
  ·exact htold b t ht hb
  ·rw [hoth] at ht hb ⊢
   rw [hso] at ht
   have h1 := h.told (1 - i) (other_i hi) b t ht hb
   have h4 := (he.taken (1 - (1 - i)) b (l.end_ (1 - i)).life).length_le
   exact ⟨h1.1, by omega⟩
 ·rw [hw] at hx
  have h1 : x.to = 0 ∨ x.to = 1 := by
   rcases (h.ok.wire x hx).2 with h | h
   ·exact .inl h.1
   ·exact .inr h.1
  exact (h.wire x hx hk).ext he (hGa _ (other_i h1) _ _)
theorem Wc.wires {l : Lp} {i : Int} {p : Pk} (h : Wc l i p) (ws : List Tp) (fr : Bool) : Wc { l with wire := ws, free := fr } i p := ⟨h.tale, h.ack, h.held, h.txt⟩
theorem Cur.wires {l : Lp} {i : Int} {e : En} (h : Cur l i e) (ws : List Tp) (fr : Bool) : Cur { l with wire := ws, free := fr } i e := ⟨h.sent, h.taken, h.lost, h.base, h.held, h.inn⟩
/-- Only the wire is changed. -/
theorem Saf.wires {l : Lp} (h : Saf l) {ws : List Tp} {fr : Bool} (hw : ∀ x ∈ ws, x ∈ l.wire ∨ (TripOk l.e0.life l.e1.life x ∧ (x.p.kind ≠ 1 → Wc l x.to x.p))) : Saf { l with wire := ws, free := fr } :=
 ⟨⟨h.ok.g0, h.ok.g1, h.ok.p0, h.ok.p1, fun x hx => by
   rcases hw x hx with h1 | h1
   ·exact h.ok.wire x h1
   ·exact h1.1⟩, h.now, h.ord, h.ends, h.key, h.pre, fun i hi hp => (h.cur i hi hp).wires ws fr, h.told, fun x hx hk => by
   rcases hw x hx with h1 | h1
   ·exact (h.wire x h1 hk).wires ws fr
   ·exact (h1.2 hk).wires ws fr⟩
theorem Saf.way {l : Lp} (h : Saf l) {i : Int} (hi : i = 0 ∨ i = 1) {ps : List Pk} (hp : ∀ q ∈ ps, properB q = true ∧ q.frm = (l.end_ i).life ∧ (q.kind ≠ 1 → Wc l (1 - i) q)) : Saf (wayA l i ps) := by
 rw [way_eq]
 have hk := way_ok h.ok hi (ps := ps) (fun q hq => ⟨(hp q hq).1, (hp q hq).2.1⟩)
 rw [way_eq] at hk
 refine h.wires (fr := l.free) fun x hx => ?_
 rcases List.mem_append.1 hx with h1 | h1
 ·exact .inl h1
 ·refine .inr ⟨hk.wire x hx, ?_⟩
  obtain ⟨q, hq, rfl⟩ := List.mem_map.1 h1
  exact (hp q (List.mem_of_mem_take hq)).2.2
/-- The tale of the session in which an end is. -/
theorem Saf.nowT {l : Lp} (h : Saf l) {i : Int} (hi : i = 0 ∨ i = 1) (hp : (l.end_ i).phase = 3) : ∃ (k : Nat) (t : Ta), l.now i = (k : Int) ∧ l.tales[k]? = some t ∧ t.end_ = i ∧ t.life = (l.end_ i).life ∧ t.peer = (l.end_ i).peer ∧ (t.sent.length : Int) = (l.end_ i).base + flyN (l.end_ i) ∧ tale l.tales i (l.end_ i).life (l.end_ i).peer = some t := by
 obtain ⟨k, t, h1, h2, h3, h4, h5, h6⟩ := (h.now i hi).2 hp
 exact ⟨k, t, h1, h2, h3, h4, h5, h6, tale_at h.ord h2 h3 h4 h5⟩
/-- What an end in a session sends claims what is so. -/
theorem Saf.report {l : Lp} (h : Saf l) {i : Int} (hi : i = 0 ∨ i = 1) (hp : (l.end_ i).phase = 3) (kind num : Int) (t : ByteArray) (ht : kind = 2 → (sentOf l.tales i (l.end_ i).life (l.end_ i).peer)[num.toNat]? = some t) :
  Wc l (1 - i) ⟨kind, (l.end_ i).life, (l.end_ i).peer, num, t, (l.end_ i).want, bitsA (l.end_ i)⟩ := by
 obtain ⟨k, v, _, _, _, _, _, _, hv⟩ := h.nowT hi hp
 have hc := h.cur i hi hp
 have hs : (tale l.tales i (l.end_ i).life (l.end_ i).peer).isSome = true := by rw [hv]; rfl
 refine ⟨?_, ?_, fun k h1 h2 h3 => ?_, fun hk => ?_⟩
 ·rw [other_ne]; exact hs
 ·rw [other_ne]
  exact Int.le_of_eq hc.taken.symm
 ·rw [other_ne]
  refine ⟨hs, fun _ _ => .inr ?_⟩
  simp only at h3
  unfold bitsA at h3
  have hk : k = 1 ∨ k = 2 ∨ k = 3 := by omega
  show hasN (l.end_ i).inn ((l.end_ i).want + (k : Int)) = true
  rcases hk with rfl | rfl | rfl
  ·by_cases hb : hasN (l.end_ i).inn ((l.end_ i).want + 1) = true
   ·exact hb
   ·rw [if_neg hb] at h3
    split at h3 <;> split at h3 <;> simp at h3
  ·by_cases hb : hasN (l.end_ i).inn ((l.end_ i).want + 2) = true
   ·exact hb
   ·rw [if_neg hb] at h3
    split at h3 <;> split at h3 <;> simp at h3
  ·by_cases hb : hasN (l.end_ i).inn ((l.end_ i).want + 3) = true
   ·exact hb
   ·rw [if_neg hb] at h3
    split at h3 <;> split at h3 <;> simp at h3
 ·rw [other_ne]; exact ht hk
theorem Saf.data {l : Lp} (h : Saf l) {i : Int} (hi : i = 0 ∨ i = 1) (hp : (l.end_ i).phase = 3) {j : Nat} (hj : j < flyN (l.end_ i)) : Wc l (1 - i) (dataA (l.end_ i) j) := by
 refine h.report hi hp 2 _ _ (fun _ => ?_)
 have hc := (h.cur i hi hp).sent
 have hG := good_iff.1 (h.ok.good i)
 have hb := hG.base
 have hl := (fly_le (l.end_ i)).1
 have h1 : ((sentOf l.tales i (l.end_ i).life (l.end_ i).peer).drop (l.end_ i).base.toNat)[j]? = some ((l.end_ i).out.getD j ⟨emptyT, false⟩).t := by
  rw [hc, List.getElem?_map, List.getElem?_take, if_pos hj, List.getElem?_eq_getElem (by omega), List.getD_eq_getElem?_getD, List.getElem?_eq_getElem (by omega)]
  rfl
 rw [List.getElem?_drop] at h1
 rw [show ((l.end_ i).base + (j : Int)).toNat = (l.end_ i).base.toNat + j by omega]
 exact h1
theorem Saf.from_ {l : Lp} (h : Saf l) {i : Int} (hi : i = 0 ∨ i = 1) {n : Nat} {q : Pk} (hq : q ∈ fromA (l.end_ i) n) : properB q = true ∧ q.frm = (l.end_ i).life ∧ (q.kind ≠ 1 → Wc l (1 - i) q) := by
 obtain ⟨j, _, hj, rfl⟩ := fromA_mem hq
 have hG := good_iff.1 (h.ok.good i)
 have hp : (l.end_ i).phase = 3 := by
  by_cases hp : (l.end_ i).phase = 3
  ·exact hp
  ·unfold flyN at hj; rw [if_neg hp] at hj; omega
 exact ⟨data_proper hG hp hj, rfl, fun _ => h.data hi hp hj⟩
end Go.Proofs.YtejabnoidhlfaaaDoor

/- Safe lines stay safe: a step within a session, an end that leaves its session, a session that begins. -/
namespace Go.Proofs.YtejabnoidhlfaaaDoor

theorem LineOk.of {l l' : Lp} (h : LineOk l) {i : Int} (hi : i = 0 ∨ i = 1) (ho : l'.end_ (1 - i) = l.end_ (1 - i)) (hw : l'.wire = l.wire) (hg : goodB (l'.end_ i) = true) (hl : (l.end_ i).life ≤ (l'.end_ i).life) (hp : (l'.end_ i).peer ≤ (l.end_ (1 - i)).life) : LineOk l' := by
 rcases hi with rfl | rfl
 ·have e1 : l'.e1 = l.e1 := ho
  have hg' : goodB l'.e0 = true := hg
  have hl' : l.e0.life ≤ l'.e0.life := hl
  have hp' : l'.e0.peer ≤ l.e1.life := hp
  exact ⟨hg', by rw [e1]; exact h.g1, by rw [e1]; exact hp', by rw [e1]; have := h.p1; omega, fun x hx => by rw [hw] at hx; rw [e1]; exact (h.wire x hx).mono hl' (Int.le_refl _)⟩
 ·have e1 : l'.e0 = l.e0 := ho
  have hg' : goodB l'.e1 = true := hg
  have hl' : l.e1.life ≤ l'.e1.life := hl
  have hp' : l'.e1.peer ≤ l.e0.life := hp
  exact ⟨by rw [e1]; exact h.g0, hg', by rw [e1]; have := h.p0; omega, by rw [e1]; exact hp', fun x hx => by rw [hw] at hx; rw [e1]; exact (h.wire x hx).mono (Int.le_refl _) hl'⟩
theorem NowOk.of {l l' : Lp} (h : NowOk l) {i : Int} (hi : i = 0 ∨ i = 1) (ho : l'.end_ (1 - i) = l.end_ (1 - i)) (hn : l'.now (1 - i) = l.now (1 - i)) (hk : ∀ (k : Nat) (t : Ta), l.tales[k]? = some t → t.end_ = 1 - i → l'.tales[k]? = some t) (hat : NowAt l' i) : NowOk l' := by
 intro j hj
 rcases two_i hi hj with rfl | rfl
 ·exact hat
 ·have h1 := h (1 - i) hj
  refine ⟨fun hp => by rw [ho] at hp; rw [hn]; exact h1.1 hp, fun hp => ?_⟩
  rw [ho] at hp ⊢
  rw [hn]
  obtain ⟨k, t, a1, a2, a3, a4⟩ := h1.2 hp
  exact ⟨k, t, a1, hk k t a2 a3, a3, a4⟩
theorem end_same {l : Lp} {i : Int} (hi : i = 0 ∨ i = 1) (e : En) : (l.setEnd i e).end_ i = e := by rw [end_setEnd hi hi, if_pos rfl]
theorem end_other {l : Lp} {i : Int} (hi : i = 0 ∨ i = 1) (e : En) : (l.setEnd i e).end_ (1 - i) = l.end_ (1 - i) := by rw [end_setEnd hi (other_i hi), if_neg (by omega)]
theorem wire_setEnd {l : Lp} {i : Int} {e : En} : (l.setEnd i e).wire = l.wire := by unfold Lp.setEnd; split <;> rfl
theorem wire_setNow {l : Lp} {i : Int} {n : Int} : (l.setNow i n).wire = l.wire := by unfold Lp.setNow; split <;> rfl

/-- A step within a session. -/
theorem Saf.same {l : Lp} (h : Saf l) {i : Int} (hi : i = 0 ∨ i = 1) {e e' : En} (hE : l.end_ i = e) (hg : goodB e' = true) (hl : e'.life = e.life) (hpr : e'.peer = e.peer) (hp' : e'.phase = 3) {k : Nat} {t : Ta} (hn : l.now i = (k : Int)) (hk : l.tales[k]? = some t)
  (hv : tale l.tales i e.life e.peer = some t) {f : Ta → Ta} (hft : ∀ v, (f v).end_ = v.end_ ∧ (f v).life = v.life ∧ (f v).peer = v.peer) {S T : List ByteArray} (fs : (f t).sent = t.sent ++ S) (ftk : (f t).taken = t.taken ++ T) (fl : (f t).lost = t.lost)
  (cs : (t.sent ++ S).drop e'.base.toNat = (e'.out.take (flyN e')).map (·.t)) (cn : ((t.sent ++ S).length : Int) = e'.base + flyN e') (ct : ((t.taken ++ T).length : Int) = e'.want) (cb : e'.base ≤ ((takenOf l.tales (1 - i) e.peer e.life).length : Int))
  (ch : ∀ (k : Nat) (x : Ou), e'.out[k]? = some x → x.h = true → Got l (1 - i) e.peer e.life (e'.base + k)) (ci : ∀ x ∈ e'.inn, (sentOf l.tales (1 - i) e.peer e.life)[x.n.toNat]? = some x.t)
  (cg : ∀ m, hasN e.inn m = true → m < ((t.taken ++ T).length : Int) ∨ hasN e'.inn m = true) (cp : t.taken ++ T <+: sentOf l.tales (1 - i) e.peer e.life) : Saf { l.setEnd i e' with tales := setAt f k l.tales } := by
 obtain ⟨l', hl'⟩ : ∃ l', ({ l.setEnd i e' with tales := setAt f k l.tales } : Lp) = l' := ⟨_, rfl⟩
 have te : l'.end_ i = e' := by rw [← hl', end_tales, end_same hi]
 have to_ : l'.end_ (1 - i) = l.end_ (1 - i) := by rw [← hl', end_tales, end_other hi]
 have tw' : l'.wire = l.wire := by rw [← hl']; exact wire_setEnd
 have tn : ∀ j, l'.now j = l.now j := fun j => by rw [← hl', now_tales, now_setEnd]
 have tt : l'.tales = setAt f k l.tales := by rw [← hl']
 obtain ⟨_, k1, k2, k3⟩ := tale_key hv
 have hT : ∀ j a b, tale l'.tales j a b = if isKey j a b t = true then some (f t) else tale l.tales j a b := fun j a b => by rw [tt]; exact tale_set h.ord hk (hft t) j a b
 have hTi : tale l'.tales i e.life e.peer = some (f t) := by rw [hT, if_pos (isKey_iff.2 ⟨k1, k2, k3⟩)]
 have hTo : ∀ a b, tale l'.tales (1 - i) a b = tale l.tales (1 - i) a b := fun a b => by
  rw [hT, if_neg]
  intro hq
  have := (isKey_iff.1 hq).1
  omega
 have hso : ∀ a b, sentOf l'.tales (1 - i) a b = sentOf l.tales (1 - i) a b := fun a b => by unfold sentOf; rw [hTo]
 have hto : ∀ a b, takenOf l'.tales (1 - i) a b = takenOf l.tales (1 - i) a b := fun a b => by unfold takenOf; rw [hTo]
 have hext : Ext l l' := fun j a b v hj => by
  rw [hT]
  by_cases hq : isKey j a b t = true
  ·obtain ⟨q1, q2, q3⟩ := isKey_iff.1 hq
   have hjv : tale l.tales j a b = some t := by rw [← q1, k1, ← q2, k2, ← q3, k3]; exact hv
   rw [hj] at hjv
   injection hjv with e1
   rw [if_pos hq, e1]
   exact ⟨_, rfl, by rw [fs]; exact List.prefix_append _ _, by rw [ftk]; exact List.prefix_append _ _⟩
  ·rw [if_neg hq]
   exact ⟨v, hj, List.prefix_refl _, List.prefix_refl _⟩
 have hcur0 := h.cur i hi (by rw [hE]; exact (by
  have := h.key i hi e.life e.peer t hv
  rw [hE] at this
  exact (this.2.2.2 rfl).2 rfl))
 rw [hE] at hcur0
 have hlost : lostOf l.tales i e.life e.peer = t.lost := lostOf_some hv
 have hpo : e.peer ≤ (l.end_ (1 - i)).life := by have := h.ok.peer hi; rw [hE] at this; exact this
 have hgo : ∀ a b m, Got l (1 - i) a b m → Got l' (1 - i) a b m := fun a b m hg => by
  unfold Got
  rw [hTo, to_, hto]
  exact hg
 rw [hl']
 refine h.chg hi to_ tw' hTo hext (fun a b m hgt => ⟨hext.is hgt.1, fun q1 q2 => ?_⟩) (h.ok.of hi to_ tw' (by rw [te]; exact hg) (by rw [te, hE, hl]; exact Int.le_refl _) (by rw [te, hpr]; exact hpo)) (h.now.of hi to_ (tn _) (fun k' t' q1 q2 => ?_) ⟨fun hq => absurd (by rw [te]; exact hp') hq, fun _ => ?_⟩) (by rw [tt]; exact ord_set h.ord hft) (fun v hv' => ?_) (by rw [te, hE, hl]; exact Int.le_refl _) (fun a b v hq => ?_) (fun a b => ?_) (fun _ => ?_) (fun b v hq hb => ?_)
 ·rw [te] at q1 q2 ⊢
  rw [hl] at q1
  rw [hpr] at q2
  subst q1 q2
  rw [takenOf_some hTi, ftk]
  have h2 := hgt.2 (by rw [hE]) (by rw [hE])
  rw [hE, takenOf_some hv] at h2
  rcases h2 with h2 | h2
  ·left
   rw [List.length_append]
   omega
  ·exact cg m h2
 ·rw [tt, setAt_get, if_neg, q1]
  intro e1
  rw [e1, hk] at q1
  injection q1 with e2
  rw [← e2, k1] at q2
  omega
 ·rw [te, tn]
  refine ⟨k, f t, hn, ?_, by rw [(hft t).1]; exact k1, by rw [(hft t).2.1, hl]; exact k2, by rw [(hft t).2.2, hpr]; exact k3, by rw [fs]; exact cn⟩
  rw [tt, setAt_get, if_pos rfl, hk]
  rfl
 ·rw [tt] at hv'
  rcases setAt_mem hv' with h1 | ⟨x, hx, rfl⟩
  ·exact h.ends v h1
  ·rw [(hft x).1]
   exact h.ends x hx
 ·rw [te, to_]
  have hsome : ∃ v0, tale l.tales i a b = some v0 := by
   rw [hT] at hq
   by_cases hq2 : isKey i a b t = true
   ·obtain ⟨_, q2, q3⟩ := isKey_iff.1 hq2
    exact ⟨t, by rw [← q2, ← q3, k2, k3]; exact hv⟩
   ·rw [if_neg hq2] at hq
    exact ⟨v, hq⟩
  obtain ⟨v0, hv0⟩ := hsome
  have := h.key i hi a b v0 hv0
  rw [hE] at this
  rw [hl, hpr]
  exact ⟨this.1, this.2.1, this.2.2.1, fun h1 => ⟨(this.2.2.2 h1).1, fun _ => hp'⟩⟩
 ·rw [hso]
  by_cases hq : isKey i a b t = true
  ·obtain ⟨_, q2, q3⟩ := isKey_iff.1 hq
   rw [← q2, ← q3, k2, k3, takenOf_some hTi, ftk]
   exact cp
  ·have : takenOf l'.tales i a b = takenOf l.tales i a b := by unfold takenOf; rw [hT, if_neg hq]
   rw [this]
   exact h.pre i hi a b
 ·rw [te]
  refine ⟨?_, ?_, ?_, ?_, fun k x hx hh => ?_, fun x hx => ?_⟩
  ·rw [hl, hpr, sentOf_some hTi, fs]; exact cs
  ·rw [hl, hpr, takenOf_some hTi, ftk]; exact ct
  ·rw [hl, hpr, lostOf_some hTi, fl, ← hlost]; exact hcur0.lost
  ·rw [hl, hpr, hto]; exact cb
  ·rw [hl, hpr]; exact hgo _ _ _ (ch k x hx hh)
  ·rw [hl, hpr, hso]; exact ci x hx
 ·rw [te] at hb hq ⊢
  rw [hl] at hq ⊢
  rw [hpr] at hb
  rw [hT, if_neg (fun hq2 => hb (by have := (isKey_iff.1 hq2).2.2; omega))] at hq
  rw [hto]
  have := h.told i hi b v (by rw [hE]; exact hq) (by rw [hE]; exact hb)
  rw [hE] at this
  exact this
/-- An end leaves its session, or is in none before and behind. -/
theorem Saf.closed {l l' : Lp} (h : Saf l) {i : Int} (hi : i = 0 ∨ i = 1) {e e' : En} (hE : l.end_ i = e) (te : l'.end_ i = e') (to_ : l'.end_ (1 - i) = l.end_ (1 - i)) (tw' : l'.wire = l.wire) (tn : l'.now i = -1) (tno : l'.now (1 - i) = l.now (1 - i))
  (hg : goodB e' = true) (hp' : e'.phase ≠ 3) (hl : e.life ≤ e'.life) (hpr : e'.peer ≤ (l.end_ (1 - i)).life)
  (hT : ∀ j a b v, tale l'.tales j a b = some v → ∃ v0, tale l.tales j a b = some v0 ∧ v.sent = v0.sent ∧ v.taken = v0.taken) (hT' : ∀ j a b v0, tale l.tales j a b = some v0 → ∃ v, tale l'.tales j a b = some v ∧ v.sent = v0.sent ∧ v.taken = v0.taken)
  (hTo : ∀ a b, tale l'.tales (1 - i) a b = tale l.tales (1 - i) a b) (hord : Ord l'.tales) (hends : ∀ v ∈ l'.tales, v.end_ = 0 ∨ v.end_ = 1) (hk : ∀ (k : Nat) (t : Ta), l.tales[k]? = some t → t.end_ = 1 - i → l'.tales[k]? = some t)
  (hnone : ∀ b v0, tale l.tales i e'.life b = some v0 → b < e'.peer ∨ b ≤ e'.peer ∧ b ≠ e'.peer)
  (htold : ∀ b v, tale l'.tales i e'.life b = some v → v.lost.length ≤ v.sent.length ∧ v.sent.length ≤ v.lost.length + (takenOf l.tales (1 - i) b e'.life).length) : Saf l' := by
 have hext : Ext l l' := fun j a b v hj => by
  obtain ⟨v', h1, h2, h3⟩ := hT' j a b v hj
  exact ⟨v', h1, by rw [h2]; exact List.prefix_refl _, by rw [h3]; exact List.prefix_refl _⟩
 have htk : ∀ j a b, takenOf l'.tales j a b = takenOf l.tales j a b := fun j a b => by
  cases h1 : tale l.tales j a b with
  | none =>
   cases h2 : tale l'.tales j a b with
   | none => rw [takenOf_none h1, takenOf_none h2]
   | some v => obtain ⟨v0, h3, _⟩ := hT j a b v h2; rw [h1] at h3; cases h3
  | some v0 =>
   obtain ⟨v, h2, _, h3⟩ := hT' j a b v0 h1
   rw [takenOf_some h1, takenOf_some h2, h3]
 refine h.chg hi to_ tw' hTo hext (fun a b m hgt => ⟨hext.is hgt.1, fun q1 q2 => ?_⟩) (h.ok.of hi to_ tw' (by rw [te]; exact hg) (by rw [te, hE]; exact hl) (by rw [te]; exact hpr)) (h.now.of hi to_ tno hk ⟨fun _ => tn, fun hq => absurd (by rw [te] at hq; exact hq) hp'⟩) hord hends (by rw [te, hE]; exact hl) (fun a b v hq => ?_) (fun a b => ?_) (fun hq => absurd (by rw [te] at hq; exact hq) hp') (fun b v hq _ => ?_)
 ·rw [te] at q1 q2
  obtain ⟨v0, hv0⟩ := Option.isSome_iff_exists.1 hgt.1
  rw [← q1] at hv0
  have := hnone b v0 hv0
  omega
 ·rw [te, to_]
  obtain ⟨v0, hv0, _⟩ := hT i a b v hq
  have h1 := h.key i hi a b v0 hv0
  rw [hE] at h1
  refine ⟨by omega, h1.2.1, h1.2.2.1, fun h2 => ?_⟩
  rw [h2] at hv0
  have := hnone b v0 hv0
  exact ⟨by omega, fun h3 => by omega⟩
 ·rw [htk]
  exact (h.pre i hi a b).trans (hext.sent _ _ _)
 ·rw [te] at hq ⊢
  rw [htk]
  exact htold b v hq
/-- A session begins. -/
theorem Saf.open_ {l : Lp} (h : Saf l) {i : Int} (hi : i = 0 ∨ i = 1) (hp : (l.end_ i).phase = 2) : Saf (becomesA l i { l.end_ i with phase := 3 }) := by
 obtain ⟨e, hE⟩ : ∃ e, l.end_ i = e := ⟨_, rfl⟩
 have hG := good_iff.1 (h.ok.good i)
 rw [hE] at hp hG ⊢
 have hp3 : e.phase ≠ 3 := by omega
 obtain ⟨c1, c2, c3, c4⟩ := hG.cl hp3
 obtain ⟨e', he'⟩ : ∃ e', ({ e with phase := 3 } : En) = e' := ⟨_, rfl⟩
 have d1 : e'.life = e.life := by rw [← he']
 have d2 : e'.peer = e.peer := by rw [← he']
 have d3 : e'.phase = 3 := by rw [← he']
 have d4 : e'.base = 0 := by rw [← he']; exact c1
 have d5 : e'.want = 0 := by rw [← he']; exact c2
 have d6 : e'.inn = [] := by rw [← he']; exact c3
 have d7 : e'.out = e.out := by rw [← he']
 have hns : ¬ sameS (l.end_ i) e' := fun hs => by have := hs.1; rw [hE] at this; omega
 have hg' : goodB e' = true := by rw [← he']; exact good_iff.2 (opened_good hG hp)
 obtain ⟨n, hn⟩ : ∃ n, sentA e' ⟨i, e'.life, e'.peer, [], [], []⟩ = n := ⟨_, rfl⟩
 have n1 : n.end_ = i := by rw [← hn]; rfl
 have n2 : n.life = e.life := by rw [← hn, ← d1]; rfl
 have n3 : n.peer = e.peer := by rw [← hn, ← d2]; rfl
 have n4 : n.sent = (e'.out.take (flyN e')).map (·.t) := by
  rw [← hn]
  show [] ++ ((e'.out.take (flyN e')).drop (0 - e'.base.toNat)).map (·.t) = _
  rw [d4]
  rfl
 have n5 : n.lost = [] ∧ n.taken = [] := by rw [← hn]; exact ⟨rfl, rfl⟩
 rw [he', becomes_new hi d3 hns, hn]
 obtain ⟨l', hl'⟩ : ∃ l', ({ (l.setEnd i e').setNow i (l.tales.length : Int) with tales := l.tales ++ [n] } : Lp) = l' := ⟨_, rfl⟩
 have te : l'.end_ i = e' := by rw [← hl', end_tales, end_setNow, end_same hi]
 have to_ : l'.end_ (1 - i) = l.end_ (1 - i) := by rw [← hl', end_tales, end_setNow, end_other hi]
 have tw' : l'.wire = l.wire := by rw [← hl']; show ((l.setEnd i e').setNow i (l.tales.length : Int)).wire = _; rw [wire_setNow, wire_setEnd]
 have tn : l'.now i = (l.tales.length : Int) := by rw [← hl', now_tales, now_setNow hi hi, if_pos rfl]
 have tno : l'.now (1 - i) = l.now (1 - i) := by rw [← hl', now_tales, now_setNow hi (other_i hi), if_neg (by omega), now_setEnd]
 have tt : l'.tales = l.tales ++ [n] := by rw [← hl']
 -- no tale of this session yet, and none of a later one
 have hlow : ∀ b v, tale l.tales i e.life b = some v → b < e.peer := fun b v hv => by
  have h1 := h.key i hi _ _ _ hv
  rw [hE] at h1
  have h2 := h1.2.2.2 rfl
  by_cases h3 : b = e.peer
  ·exact absurd (h2.2 h3) hp3
  ·omega
 have hnone : tale l.tales i e.life e.peer = none := by
  cases hv : tale l.tales i e.life e.peer with
  | none => rfl
  | some v => have := hlow _ _ hv; omega
 have hT : ∀ j a b, tale l'.tales j a b = if isKey j a b n = true then some n else tale l.tales j a b := fun j a b => by rw [tt]; exact tale_app (by rw [n1, n2, n3]; exact hnone) j a b
 have hTi : tale l'.tales i e.life e.peer = some n := by rw [hT, if_pos (isKey_iff.2 ⟨n1, n2, n3⟩)]
 have hTn : ∀ j a b, isKey j a b n = true → tale l.tales j a b = none := fun j a b hq => by
  obtain ⟨q1, q2, q3⟩ := isKey_iff.1 hq
  rw [← q1, ← q2, ← q3, n1, n2, n3]; exact hnone
 have hTo : ∀ a b, tale l'.tales (1 - i) a b = tale l.tales (1 - i) a b := fun a b => by
  rw [hT, if_neg]
  intro hq
  have := (isKey_iff.1 hq).1
  omega
 have hext : Ext l l' := fun j a b v hj => by
  rw [hT]
  by_cases hq : isKey j a b n = true
  ·rw [hTn j a b hq] at hj; cases hj
  ·rw [if_neg hq]
   exact ⟨v, hj, List.prefix_refl _, List.prefix_refl _⟩
 have htk : ∀ a b, takenOf l'.tales i a b = takenOf l.tales i a b := fun a b => by
  by_cases hq : isKey i a b n = true
  ·rw [takenOf_none (hTn i a b hq)]
   unfold takenOf
   rw [hT, if_pos hq]
   exact n5.2
  ·unfold takenOf; rw [hT, if_neg hq]
 have hpo : e.peer ≤ (l.end_ (1 - i)).life := by have := h.ok.peer hi; rw [hE] at this; exact this
 have hpos : 1 ≤ e.peer := by rcases c4 with c4 | c4 <;> omega
 have hord' : Ord l'.tales := by
  rw [tt]
  refine ord_app h.ord (fun v hv a1 a2 => ?_)
  rw [n1] at a1
  rw [n2] at a2
  rw [n3]
  exact hlow v.peer v (by rw [← a1, ← a2]; exact tale_of_mem h.ord hv)
 rw [hl']
 refine h.chg hi to_ tw' hTo hext (fun a b m hgt => ⟨hext.is hgt.1, fun q1 q2 => ?_⟩) (h.ok.of hi to_ tw' (by rw [te]; exact hg') (by rw [te, hE, d1]; exact Int.le_refl _) (by rw [te, d2]; exact hpo)) (h.now.of hi to_ tno (fun k' t' q1 q2 => ?_) ⟨fun hq => absurd (by rw [te]; exact d3) hq, fun _ => ?_⟩) hord' (fun v hv' => ?_) (by rw [te, hE, d1]; exact Int.le_refl _) (fun a b v hq => ?_) (fun a b => ?_) (fun _ => ?_) (fun b v hq hb => ?_)
 ·rw [te] at q1 q2
  obtain ⟨v0, hv0⟩ := Option.isSome_iff_exists.1 hgt.1
  rw [← q1, ← q2, d1, d2, hnone] at hv0
  cases hv0
 ·rw [tt, List.getElem?_append_left (List.getElem?_eq_some_iff.1 q1).1]; exact q1
 ·rw [te, tn]
  refine ⟨l.tales.length, n, rfl, by rw [tt]; exact List.getElem?_concat_length, n1, by rw [n2, d1], by rw [n3, d2], ?_⟩
  rw [n4, d4, List.length_map, List.length_take]
  have := (fly_le e').1
  omega
 ·rw [tt] at hv'
  rcases List.mem_append.1 hv' with h1 | h1
  ·exact h.ends v h1
  ·simp at h1
   rw [h1, n1]; exact hi
 ·rw [te, to_, d1, d2]
  rw [hT] at hq
  by_cases hq2 : isKey i a b n = true
  ·obtain ⟨_, q2, q3⟩ := isKey_iff.1 hq2
   exact ⟨by omega, by omega, by omega, fun _ => ⟨by omega, fun _ => d3⟩⟩
  ·rw [if_neg hq2] at hq
   have h1 := h.key i hi a b v hq
   rw [hE] at h1
   exact ⟨h1.1, h1.2.1, h1.2.2.1, fun h2 => ⟨(h1.2.2.2 h2).1, fun _ => d3⟩⟩
 ·rw [htk]
  exact (h.pre i hi a b).trans (hext.sent _ _ _)
 ·rw [te]
  refine ⟨?_, ?_, ?_, ?_, fun k x hx hh => ?_, fun x hx => ?_⟩
  ·rw [d1, d2, d4, sentOf_some hTi, n4]; rfl
  ·rw [d1, d2, d5, takenOf_some hTi, n5.2]; rfl
  ·rw [d1, d2, lostOf_some hTi, n5.1]
  ·rw [d4]; omega
  ·rw [d7] at hx
   rw [hG.no_held hp3 hx] at hh
   cases hh
  ·rw [d6] at hx
   cases hx
 ·rw [te] at hb hq ⊢
  rw [d1] at hq ⊢
  rw [d2] at hb
  rw [hT, if_neg (fun hq2 => hb (by have := (isKey_iff.1 hq2).2.2; omega))] at hq
  have h1 : takenOf l'.tales (1 - i) b e.life = takenOf l.tales (1 - i) b e.life := by unfold takenOf; rw [hTo]
  rw [h1]
  have := h.told i hi b v (by rw [hE]; exact hq) (by rw [hE]; exact hb)
  rw [hE] at this
  exact this
end Go.Proofs.YtejabnoidhlfaaaDoor
