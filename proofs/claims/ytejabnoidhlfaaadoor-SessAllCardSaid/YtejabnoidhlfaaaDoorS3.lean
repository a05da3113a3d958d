/- What a good end is. -/
import Derived.Test.YtejabnoidhlfaaaDoorS1
import Derived.Test.YtejabnoidhlfaaaDoorS2

/- Messages that came early: the sorted list and its content as a function. -/
namespace Go.Proofs.YtejabnoidhlfaaaDoor

def getN (l : List Im) (k : Int) : Option ByteArray := (l.find? fun x => x.n == k).map (·.t)
def srt : Int → List Im → Prop
 | _, [] => True
 | lo, x :: l => lo < x.n ∧ srt x.n l
theorem srt.low {lo lo' : Int} {l : List Im} (h : srt lo l) (hl : lo' ≤ lo) : srt lo' l := by
 cases l with
 | nil => trivial
 | cons x l => exact ⟨by have := h.1; omega, h.2⟩
theorem srt.gt : ∀ {l : List Im} {lo : Int}, srt lo l → ∀ x ∈ l, lo < x.n
 | [], _, _, x, hx => by cases hx
 | y :: l, lo, h, x, hx => by
  rcases List.mem_cons.1 hx with e | hx
  ·subst e; exact h.1
  ·have := srt.gt h.2 x hx
   have := h.1
   omega
theorem getN_cons (x : Im) (l : List Im) (k : Int) : getN (x :: l) k = if x.n = k then some x.t else getN l k := by
 unfold getN
 rw [List.find?_cons]
 by_cases h : x.n = k
 ·simp [h]
 ·have : (x.n == k) = false := by simpa using h
  rw [this, if_neg h]
theorem getN_none {l : List Im} {k : Int} : getN l k = none ↔ ∀ x ∈ l, x.n ≠ k := by
 unfold getN
 rw [Option.map_eq_none_iff, List.find?_eq_none]
 simp
theorem hasN_get (l : List Im) (k : Int) : hasN l k = (getN l k).isSome := by
 induction l with
 | nil => rfl
 | cons x l ih =>
  rw [getN_cons]
  unfold hasN at ih ⊢
  rw [List.any_cons, ih]
  by_cases h : x.n = k
  ·simp [h]
  ·simp [h]
theorem srt_none {l : List Im} {lo k : Int} (h : srt lo l) (hk : k ≤ lo) : getN l k = none := by
 rw [getN_none]
 intro x hx e
 have := h.gt x hx
 omega
theorem putA_get (x : Im) : ∀ {l : List Im} {lo : Int}, srt lo l → getN l x.n = none → getN (putA x l) = updG (getN l) x.n (some x.t)
 | [], _, _, _ => by
  funext k
  simp only [putA, getN_cons, updG]
  by_cases h : k = x.n
  ·simp [h]
  ·rw [if_neg (fun e => h e.symm), if_neg h]
 | y :: l, lo, hs, hn => by
  rw [getN_cons] at hn
  have hy : y.n ≠ x.n := by
   intro e
   rw [if_pos e] at hn
   cases hn
  rw [if_neg hy] at hn
  funext k
  rw [putA]
  by_cases hlt : x.n < y.n
  ·rw [if_pos hlt, getN_cons]
   unfold updG
   by_cases h : k = x.n
   ·rw [if_pos h.symm, if_pos h]
   ·rw [if_neg (fun e => h e.symm), if_neg h]
  ·rw [if_neg hlt, getN_cons, putA_get x hs.2 hn]
   unfold updG
   rw [getN_cons]
   by_cases h : y.n = k
   ·rw [if_pos h, if_pos h, if_neg (by rintro rfl; exact hy h)]
   ·rw [if_neg h, if_neg h]
theorem putA_srt (x : Im) : ∀ {l : List Im} {lo : Int}, srt lo l → getN l x.n = none → lo < x.n → srt lo (putA x l)
 | [], _, _, _, h => ⟨h, trivial⟩
 | y :: l, lo, hs, hn, h => by
  rw [getN_cons] at hn
  have hy : y.n ≠ x.n := by
   intro e
   rw [if_pos e] at hn
   cases hn
  rw [if_neg hy] at hn
  rw [putA]
  by_cases hlt : x.n < y.n
  ·rw [if_pos hlt]
   exact ⟨h, hlt, hs.2⟩
  ·rw [if_neg hlt]
   exact ⟨hs.1, putA_srt x hs.2 hn (by omega)⟩
theorem putA_mem (x : Im) : ∀ (l : List Im) (y : Im), y ∈ putA x l ↔ y = x ∨ y ∈ l
 | [], y => by simp [putA]
 | z :: l, y => by
  rw [putA]
  split
  ·simp
  ·rw [List.mem_cons, putA_mem x l y, List.mem_cons]
   constructor
   ·rintro (h | h | h)
    ·exact .inr (.inl h)
    ·exact .inl h
    ·exact .inr (.inr h)
   ·rintro (h | h | h)
    ·exact .inr (.inl h)
    ·exact .inl h
    ·exact .inr (.inr h)
theorem get_head {x : Im} {l : List Im} (hs : srt x.n l) : updG (getN (x :: l)) x.n none = getN l := by
 funext k
 unfold updG
 rw [getN_cons]
 by_cases h : k = x.n
 ·rw [if_pos h, h, srt_none hs (Int.le_refl _)]
 ·rw [if_neg h, if_neg (fun e => h e.symm)]
/-- The list again, out of its content. -/
def inOf (g : Int → Option ByteArray) (want : Int) (j : Nat) : List Im :=
 match g (want + 1 + j) with
 | some s => [⟨want + 1 + j, s⟩]
 | none => []
def insOf (g : Int → Option ByteArray) (want : Int) (n : Nat) : List Im := (List.range n).flatMap (inOf g want)
theorem insOf_succ (g : Int → Option ByteArray) (want : Int) (n : Nat) : insOf g want (n + 1) = insOf g want n ++ inOf g want n := by
 unfold insOf
 rw [List.range_succ, List.flatMap_append]
 simp
/-- All that lies beyond lo, up to lo + n. -/
theorem list_of_get : ∀ (n : Nat) (l : List Im) (want lo : Int), srt lo l → (∀ x ∈ l, x.n ≤ lo + n) → want ≤ lo → (List.range n).flatMap (fun j => inOf (getN l) lo j) = l
 | 0, l, want, lo, hs, hb, _ => by
  cases l with
  | nil => rfl
  | cons x l =>
   have := hb x List.mem_cons_self
   have := hs.1
   omega
 | n + 1, l, want, lo, hs, hb, hw => by
  have hsh : ∀ (l' : List Im), (List.range (n + 1)).flatMap (fun j => inOf (getN l') lo j) = inOf (getN l') lo 0 ++ (List.range n).flatMap (fun j => inOf (getN l') (lo + 1) j) := by
   intro l'
   rw [List.range_succ_eq_map, List.flatMap_cons, List.flatMap_map]
   congr 1
   congr 1
   funext j
   unfold inOf
   have : lo + 1 + ((j + 1 : Nat) : Int) = lo + 1 + 1 + (j : Int) := by push_cast; omega
   simp only [Nat.succ_eq_add_one, this]
  rw [hsh]
  cases l with
  | nil =>
   have : inOf (getN []) lo 0 = [] := by simp [inOf, getN]
   rw [this, list_of_get n [] want (lo + 1) trivial (fun x hx => by cases hx) (by omega)]
   rfl
  | cons x l =>
   by_cases h : x.n = lo + 1
   ·have e1 : inOf (getN (x :: l)) lo 0 = [x] := by
     unfold inOf
     rw [getN_cons, if_pos (by rw [h]; simp)]
     simp only [Int.natCast_zero, Int.add_zero, ← h]
    have e2 : (List.range n).flatMap (fun j => inOf (getN (x :: l)) (lo + 1) j) = (List.range n).flatMap (fun j => inOf (getN l) (lo + 1) j) := by
     congr 1
     funext j
     unfold inOf
     rw [getN_cons, if_neg (by rw [h]; omega)]
    rw [e1, e2, list_of_get n l want (lo + 1) (by rw [← h]; exact hs.2) (fun y hy => by have := hb y (List.mem_cons_of_mem _ hy); push_cast at this; omega) (by omega)]
    rfl
   ·have hs1 := hs.1
    have e1 : inOf (getN (x :: l)) lo 0 = [] := by
     unfold inOf
     rw [srt_none (lo := lo + 1) (l := x :: l) ⟨by omega, hs.2⟩ (by simp)]
    rw [e1, list_of_get n (x :: l) want (lo + 1) ⟨by omega, hs.2⟩ (fun y hy => by have := hb y hy; push_cast at this; omega) (by omega)]
    rfl
theorem insOf_get {l : List Im} {want : Int} (hs : srt want l) (hb : ∀ x ∈ l, x.n < want + 4) : insOf (getN l) want 3 = l :=
 list_of_get 3 l want want hs (fun x hx => by have := hb x hx; omega) (Int.le_refl _)
theorem inOk_srt {want : Int} : ∀ {l : List Im} {lo : Int}, inOk want lo l = true → srt lo l ∧ ∀ x ∈ l, x.n < want + 4 ∧ x.n < most ∧ x.t.size ≤ 20
 | [], _, _ => ⟨trivial, fun x hx => by cases hx⟩
 | x :: l, lo, h => by
  simp only [inOk, Bool.and_eq_true, decide_eq_true_eq] at h
  obtain ⟨⟨⟨⟨h1, h2⟩, h3⟩, h4⟩, h5⟩ := h
  obtain ⟨i1, i2⟩ := inOk_srt h5
  refine ⟨⟨h1, i1⟩, fun y hy => ?_⟩
  rcases List.mem_cons.1 hy with e | hy
  ·subst e; exact ⟨h2, h3, h4⟩
  ·exact i2 y hy
end Go.Proofs.YtejabnoidhlfaaaDoor

/- Ends stay as defined. -/
namespace Go.Proofs.YtejabnoidhlfaaaDoor

structure GoodP (e : En) : Prop where
 life : 1 ≤ e.life ∧ e.life ≤ most
 peer : 0 ≤ e.peer ∧ e.peer ≤ most
 base : 0 ≤ e.base
 want : 0 ≤ e.want ∧ e.want ≤ most
 len : e.out.length ≤ 12
 room : e.base + e.out.length ≤ most
 outs : ∀ (j : Nat) (x : Ou), e.out[j]? = some x → x.t.size ≤ 20 ∧ (x.h = true → 1 ≤ j ∧ j < flyN e)
 op : e.phase = 3 → 0 < e.peer ∧ srt e.want e.inn ∧ ∀ x ∈ e.inn, x.n < e.want + 4 ∧ x.n < most ∧ x.t.size ≤ 20
 cl : e.phase ≠ 3 → e.base = 0 ∧ e.want = 0 ∧ e.inn = [] ∧ ((e.phase = 1 ∧ e.peer = 0) ∨ (e.phase = 2 ∧ 0 < e.peer))

theorem outOk_iff (fly : Nat) : ∀ (l : List Ou) (i : Nat), outOk fly i l = true ↔ ∀ (j : Nat) (x : Ou), l[j]? = some x → x.t.size ≤ 20 ∧ (x.h = true → 1 ≤ i + j ∧ i + j < fly)
 | [], i => by simp [outOk]
 | y :: l, i => by
  rw [outOk, Bool.and_eq_true, outOk_iff fly l (i + 1)]
  constructor
  ·rintro ⟨h1, h2⟩ j x hx
   cases j with
   | zero =>
    simp at hx
    subst hx
    simp only [Bool.and_eq_true, decide_eq_true_eq, Bool.or_eq_true] at h1
    refine ⟨h1.1, fun hh => ?_⟩
    rcases h1.2 with h3 | h3
    ·rw [hh] at h3; cases h3
    ·exact h3
   | succ j =>
    have := h2 j x (by simpa using hx)
    rw [show i + (j + 1) = i + 1 + j by omega]
    exact this
  ·intro h
   refine ⟨?_, fun j x hx => ?_⟩
   ·have := h 0 y rfl
    simp only [Bool.and_eq_true, decide_eq_true_eq, Bool.or_eq_true]
    refine ⟨this.1, ?_⟩
    cases hh : y.h with
    | false => exact .inl rfl
    | true => exact .inr (this.2 hh)
   ·have := h (j + 1) x (by simpa using hx)
    rw [show i + 1 + j = i + (j + 1) by omega]
    exact this
theorem inOk_iff {want : Int} : ∀ {l : List Im} {lo : Int}, inOk want lo l = true ↔ srt lo l ∧ ∀ x ∈ l, x.n < want + 4 ∧ x.n < most ∧ x.t.size ≤ 20
 | [], _ => ⟨fun h => inOk_srt h, fun _ => rfl⟩
 | x :: l, lo => by
  refine ⟨fun h => inOk_srt h, fun h => ?_⟩
  simp only [inOk, Bool.and_eq_true, decide_eq_true_eq]
  have hx := h.2 x List.mem_cons_self
  exact ⟨⟨⟨⟨h.1.1, hx.1⟩, hx.2.1⟩, hx.2.2⟩, inOk_iff.2 ⟨h.1.2, fun y hy => h.2 y (List.mem_cons_of_mem _ hy)⟩⟩
theorem good_iff {e : En} : goodB e = true ↔ GoodP e := by
 unfold goodB
 simp only [Bool.and_eq_true, decide_eq_true_eq]
 rw [outOk_iff]
 constructor
 ·rintro ⟨⟨⟨⟨⟨⟨⟨⟨⟨⟨h1, h2⟩, h3⟩, h4⟩, h5⟩, h6⟩, h7⟩, h8⟩, h9⟩, h10⟩, h11⟩
  refine ⟨⟨h1, h2⟩, ⟨h3, h4⟩, h5, ⟨h6, h7⟩, h8, by omega, fun j x hx => by have := h10 j x hx; rwa [Nat.zero_add] at this, fun hp => ?_, fun hp => ?_⟩
  ·rw [if_pos hp] at h11
   simp only [Bool.and_eq_true, decide_eq_true_eq] at h11
   exact ⟨h11.1, inOk_iff.1 h11.2⟩
  ·rw [if_neg hp] at h11
   simp only [Bool.and_eq_true, decide_eq_true_eq, Bool.or_eq_true] at h11
   exact ⟨h11.1.1.1, h11.1.1.2, h11.1.2, h11.2⟩
 ·intro h
  refine ⟨⟨⟨⟨⟨⟨⟨⟨⟨⟨h.life.1, h.life.2⟩, h.peer.1⟩, h.peer.2⟩, h.base⟩, h.want.1⟩, h.want.2⟩, h.len⟩, by have := h.room; omega⟩, fun j x hx => by rw [Nat.zero_add]; exact h.outs j x hx⟩, ?_⟩
  by_cases hp : e.phase = 3
  ·rw [if_pos hp]
   simp only [Bool.and_eq_true, decide_eq_true_eq]
   exact ⟨(h.op hp).1, inOk_iff.2 (h.op hp).2⟩
  ·rw [if_neg hp]
   simp only [Bool.and_eq_true, decide_eq_true_eq, Bool.or_eq_true]
   obtain ⟨a, b, c, d⟩ := h.cl hp
   exact ⟨⟨⟨a, b⟩, c⟩, d⟩
theorem GoodP.no_held {e : En} (h : GoodP e) (hp : e.phase ≠ 3) {j : Nat} {x : Ou} (hx : e.out[j]? = some x) : x.h = false := by
 cases hh : x.h with
 | false => rfl
 | true =>
  have := (h.outs j x hx).2 hh
  unfold flyN at this
  rw [if_neg hp] at this
  omega
theorem fly_le (e : En) : flyN e ≤ e.out.length ∧ flyN e ≤ 4 := by
 unfold flyN
 split <;> omega
/-! ### the steps -/
theorem over_good {e : En} (h : GoodP e) {life : Int} (h1 : 1 ≤ life) (h2 : life ≤ most) : GoodP (overA e life).1 := by
 have hf := fly_le e
 refine ⟨h.life, ⟨by show 0 ≤ life; omega, h2⟩, Int.le_refl _, ⟨Int.le_refl _, by show (0 : Int) ≤ most; unfold most; omega⟩, ?_, ?_, fun j x hx => ?_, fun hp => ?_, fun _ => ⟨rfl, rfl, rfl, .inr ⟨rfl, by show 0 < life; omega⟩⟩⟩
 ·show ((e.out.drop (flyN e)).map _).length ≤ 12
  have := h.len
  simp; omega
 ·show (0 : Int) + (((e.out.drop (flyN e)).map _).length : Nat) ≤ most
  have := h.len
  unfold most
  simp; omega
 ·have hx' : ((e.out.drop (flyN e)).map (fun x => (⟨x.t, false⟩ : Ou)))[j]? = some x := hx
  rw [List.getElem?_map, Option.map_eq_some_iff] at hx'
  obtain ⟨y, hy, rfl⟩ := hx'
  rw [List.getElem?_drop] at hy
  exact ⟨(h.outs _ _ hy).1, fun hh => by cases hh⟩
 ·exact absurd hp (by show ¬ (2 : Int) = 3; omega)
theorem opened_good {e : En} (h : GoodP e) (hp : e.phase = 2) : GoodP { e with phase := 3 } := by
 have h3 : e.phase ≠ 3 := by omega
 obtain ⟨c1, c2, c3, c4⟩ := h.cl h3
 refine ⟨h.life, h.peer, h.base, h.want, h.len, h.room, fun j x hx => ⟨(h.outs j x hx).1, fun hh => ?_⟩, fun _ => ⟨?_, ?_, ?_⟩, fun hn => absurd rfl hn⟩
 ·rw [h.no_held h3 hx] at hh; cases hh
 ·rcases c4 with c4 | c4
  ·omega
  ·exact c4.2
 ·show srt e.want e.inn
  rw [c3]; trivial
 ·show ∀ x ∈ e.inn, _
  rw [c3]
  intro x hx
  cases hx
theorem markA_get (held : Int) (n : Nat) : ∀ (l : List Ou) (i j : Nat), (markA held n i l)[j]? = (l[j]?).map fun x => ⟨x.t, if i + j = 0 then false else x.h || (decide (i + j < n) && decide (i + j ≤ 3) && decide (held / 2 ^ (i + j - 1) % 2 = 1))⟩
 | [], i, j => by simp [markA]
 | x :: l, i, j => by
  rw [markA]
  cases j with
  | zero => simp
  | succ j =>
   rw [List.getElem?_cons_succ, List.getElem?_cons_succ, markA_get held n l (i + 1) j, show i + 1 + j = i + (j + 1) by omega]
theorem markA_len (held : Int) (n : Nat) : ∀ (l : List Ou) (i : Nat), (markA held n i l).length = l.length
 | [], i => rfl
 | x :: l, i => by rw [markA, List.length_cons, List.length_cons, markA_len held n l (i + 1)]
theorem acked_good {e : En} (h : GoodP e) (hp : e.phase = 3) (p : Pk) {n : Nat} (hn : n ≤ flyN e) : GoodP (ackedA e p n) := by
 unfold ackedA
 split
 ·exact h
 ·rename_i hc
  have hf := fly_le e
  have hg : ((p.ack - e.base).toNat : Int) = p.ack - e.base := by omega
  have hgn : (p.ack - e.base).toNat ≤ n := by omega
  have hlen : (markA p.held (n - (p.ack - e.base).toNat) 0 (e.out.drop (p.ack - e.base).toNat)).length = e.out.length - (p.ack - e.base).toNat := by rw [markA_len]; simp
  refine ⟨h.life, h.peer, by show 0 ≤ p.ack; have := h.base; omega, h.want, ?_, ?_, fun j x hx => ?_, fun _ => h.op hp, fun hq => absurd hp hq⟩
  ·show (markA _ _ _ _).length ≤ 12
   rw [hlen]; have := h.len; omega
  ·show p.ack + ((markA _ _ _ _).length : Nat) ≤ most
   rw [hlen]; have := h.room; omega
  ·have hx' : (markA p.held (n - (p.ack - e.base).toNat) 0 (e.out.drop (p.ack - e.base).toNat))[j]? = some x := hx
   rw [markA_get, Option.map_eq_some_iff] at hx'
   obtain ⟨y, hy, rfl⟩ := hx'
   rw [List.getElem?_drop] at hy
   have hjl := (List.getElem?_eq_some_iff.1 hy).1
   have ho := h.outs _ _ hy
   refine ⟨ho.1, fun hh => ?_⟩
   have hff : flyN { e with out := markA p.held (n - (p.ack - e.base).toNat) 0 (e.out.drop (p.ack - e.base).toNat), base := p.ack } = min (e.out.length - (p.ack - e.base).toNat) 4 := by
    unfold flyN
    rw [if_pos hp]
    show min (markA _ _ _ _).length 4 = _
    rw [hlen]
   have hfe : flyN e = min e.out.length 4 := by unfold flyN; rw [if_pos hp]
   show 1 ≤ j ∧ j < flyN { e with out := markA p.held (n - (p.ack - e.base).toNat) 0 (e.out.drop (p.ack - e.base).toNat), base := p.ack }
   rw [hff]
   simp only [Nat.zero_add] at hh
   by_cases hj : j = 0
   ·rw [if_pos hj] at hh; cases hh
   ·rw [if_neg hj] at hh
    simp only [Bool.or_eq_true, Bool.and_eq_true, decide_eq_true_eq] at hh
    rcases hh with hh | hh
    ·have := (ho.2 hh).2
     omega
    ·omega
theorem takeIn_good : ∀ (f : Nat) (l : List Im) (want : Int), l.length ≤ f → srt (want - 1) l → 0 ≤ want → want ≤ most → (∀ x ∈ l, x.n < want + 4 ∧ x.n < most ∧ x.t.size ≤ 20) →
  want ≤ (takeIn f want l).1 ∧ (takeIn f want l).1 ≤ most ∧ srt (takeIn f want l).1 (takeIn f want l).2.1 ∧ ∀ x ∈ (takeIn f want l).2.1, x.n < (takeIn f want l).1 + 4 ∧ x.n < most ∧ x.t.size ≤ 20
 | f, [], want, _, _, h0, h1, hb => by
  cases f <;> exact ⟨Int.le_refl _, h1, trivial, hb⟩
 | 0, x :: l, want, hf, _, _, _, _ => by simp at hf
 | f + 1, x :: l, want, hf, hs, h0, h1, hb => by
  rw [takeIn]
  have hx := hb x List.mem_cons_self
  have hs1 := hs.1
  split
  ·rename_i he
   have ih := takeIn_good f l (want + 1) (by simpa using hf) (by rw [show want + 1 - 1 = want by omega, ← he]; exact hs.2) (by omega) (by omega) (fun y hy => by have := hb y (List.mem_cons_of_mem _ hy); exact ⟨by omega, this.2⟩)
   simp only
   exact ⟨by omega, ih.2⟩
  ·rename_i he
   exact ⟨Int.le_refl _, h1, ⟨by omega, hs.2⟩, hb⟩
theorem came_good {e : En} (h : GoodP e) (hp : e.phase = 3) {p : Pk} (hp1 : p.num < most) (hp2 : p.t.size ≤ 20) : GoodP (cameA e p).1 := by
 unfold cameA
 split
 ·exact h
 ·rename_i hc
  obtain ⟨o1, o2, o3⟩ := h.op hp
  have hn : getN e.inn p.num = none := by
   have : ¬ hasN e.inn p.num = true := fun hh => hc (.inr (.inr hh))
   rw [hasN_get] at this
   cases hg : getN e.inn p.num with
   | none => rfl
   | some s => rw [hg] at this; exact absurd rfl this
  have hs := putA_srt ⟨p.num, p.t⟩ (o2.low (show e.want - 1 ≤ e.want by omega)) hn (by show e.want - 1 < p.num; omega)
  have hlen : ∀ (x : Im) (l : List Im), (putA x l).length = l.length + 1 := by
   intro x l
   induction l with
   | nil => rfl
   | cons y l ih => rw [putA]; split <;> simp [ih]
  have ht := takeIn_good (e.inn.length + 1) (putA ⟨p.num, p.t⟩ e.inn) e.want (by rw [hlen]; omega) hs h.want.1 h.want.2 (fun x hx => by
   rcases (putA_mem _ _ _).1 hx with e1 | hx
   ·subst e1; exact ⟨by show p.num < _; omega, hp1, hp2⟩
   ·exact o3 x hx)
  refine ⟨h.life, h.peer, h.base, ⟨?_, ht.2.1⟩, h.len, h.room, h.outs, fun _ => ⟨o1, ht.2.2.1, ht.2.2.2⟩, fun hq => absurd hp hq⟩
  have := h.want.1
  show 0 ≤ (takeIn _ _ _).1
  have := ht.1
  omega
theorem proper_data {p : Pk} (h : properB p = true) (hk : p.kind = 2) : p.num < most ∧ p.t.size ≤ 20 := by
 unfold properB at h
 rw [if_neg (by omega), if_pos hk] at h
 simp only [Bool.and_eq_true, decide_eq_true_eq] at h
 exact ⟨h.2.1.1.1.1.1.2, h.2.1.1.1.1.2⟩
theorem proper_from {p : Pk} (h : properB p = true) : 1 ≤ p.frm ∧ p.frm ≤ most ∧ 0 ≤ p.to ∧ p.to ≤ most := by
 unfold properB at h
 simp only [Bool.and_eq_true, decide_eq_true_eq] at h
 exact ⟨h.1.1.1.1, h.1.1.1.2, h.1.1.2, h.1.2⟩
theorem take_good {e : En} {p : Pk} (h : goodB e = true) (hp : properB p = true) : goodB (takeA e p).1 = true := by
 have hg := good_iff.1 h
 have hf := proper_from hp
 unfold takeA
 rw [h, hp]
 simp only [Bool.and_self, Bool.true_eq_false, if_false]
 split
 ·exact h
 ·rename_i hpe
  rw [good_iff]
  simp only
  have h1 : GoodP (if e.peer < p.frm then overA e p.frm else (e, [])).1 ∧ (if e.peer < p.frm then overA e p.frm else (e, [])).1.phase ≠ 1 := by
   split
   ·exact ⟨over_good hg hf.1 hf.2.1, by show ¬ (2 : Int) = 1; omega⟩
   ·refine ⟨hg, fun h1 => ?_⟩
    have := (hg.cl (by show ¬ e.phase = 3; have : e.phase = 1 := h1; omega)).2.2.2
    have h1' : e.phase = 1 := h1
    omega
  generalize (if e.peer < p.frm then overA e p.frm else (e, [])).1 = e1 at h1 ⊢
  obtain ⟨h1, hph⟩ := h1
  have h2 : GoodP (if (p.to == e1.life && e1.phase == 2) = true then { e1 with phase := 3 } else e1) ∧ flyN e1 ≤ flyN (if (p.to == e1.life && e1.phase == 2) = true then { e1 with phase := 3 } else e1) ∧ ((p.to == e1.life) = true → (if (p.to == e1.life && e1.phase == 2) = true then { e1 with phase := 3 } else e1).phase = 3) := by
   split
   ·rename_i hc
    simp only [Bool.and_eq_true, beq_iff_eq] at hc
    refine ⟨opened_good h1 hc.2, ?_, fun _ => rfl⟩
    unfold flyN
    rw [if_neg (by omega)]
    omega
   ·rename_i hc
    refine ⟨h1, Nat.le_refl _, fun hm => ?_⟩
    rw [hm, Bool.true_and, beq_iff_eq] at hc
    by_cases h3 : e1.phase = 3
    ·exact h3
    ·have := (h1.cl h3).2.2.2
     omega
  generalize (if (p.to == e1.life && e1.phase == 2) = true then { e1 with phase := 3 } else e1) = e2 at h2 ⊢
  obtain ⟨h2, hfl, hm⟩ := h2
  have h3 : GoodP (if (p.to == e1.life && p.kind != 1) = true then ackedA e2 p (flyN e1) else e2) ∧ ((p.to == e1.life) = true → (if (p.to == e1.life && p.kind != 1) = true then ackedA e2 p (flyN e1) else e2).phase = 3) := by
   split
   ·rename_i hc
    simp only [Bool.and_eq_true] at hc
    refine ⟨acked_good h2 (hm hc.1) p hfl, fun _ => ?_⟩
    unfold ackedA
    split <;> exact hm hc.1
   ·exact ⟨h2, hm⟩
  generalize (if (p.to == e1.life && p.kind != 1) = true then ackedA e2 p (flyN e1) else e2) = e3 at h3 ⊢
  split
  ·rename_i hc
   simp only [Bool.and_eq_true, beq_iff_eq] at hc
   have := proper_data hp hc.2
   exact came_good h3.1 (h3.2 (by rw [hc.1]; simp)) this.1 this.2
  ·exact h3.1
end Go.Proofs.YtejabnoidhlfaaaDoor

/- The steps of taking messages, over the content of the map. -/
namespace Go.Proofs.YtejabnoidhlfaaaDoor

theorem takeIn_none {f : Nat} {want : Int} {l : List Im} (hs : srt (want - 1) l) (hg : getN l want = none) : takeIn f want l = (want, l, []) := by
 cases f with
 | zero => rfl
 | succ f =>
  cases l with
  | nil => rfl
  | cons x l =>
   rw [takeIn, if_neg]
   intro e
   rw [getN_cons, if_pos e] at hg
   cases hg
theorem takeIn_some {f : Nat} {want : Int} {l : List Im} {s : ByteArray} (hs : srt (want - 1) l) (hg : getN l want = some s) (hf : l.length ≤ f + 1) :
  ∃ l', l = ⟨want, s⟩ :: l' ∧ srt want l' ∧ updG (getN l) want none = getN l' ∧ takeIn (f + 1) want l = ((takeIn f (want + 1) l').1, (takeIn f (want + 1) l').2.1, s :: (takeIn f (want + 1) l').2.2) := by
 cases l with
 | nil => cases hg
 | cons x l =>
  have hs1 := hs.1
  have hx : x.n = want := by
   rw [getN_cons] at hg
   by_cases e : x.n = want
   ·exact e
   ·rw [if_neg e] at hg
    have hnone := srt_none (k := want) hs.2 (by omega)
    rw [hnone] at hg
    cases hg
  have ht : x.t = s := by
   rw [getN_cons, if_pos hx] at hg
   injection hg
  obtain ⟨xn, xt⟩ := x
  simp only at hx ht
  subst hx ht
  exact ⟨l, rfl, hs.2, get_head hs.2, by rw [takeIn, if_pos rfl]⟩
theorem putA_len (x : Im) (l : List Im) : (putA x l).length = l.length + 1 := by
 induction l with
 | nil => rfl
 | cons y l ih => rw [putA]; split <;> simp [ih]
/-- What is taken, where something is. -/
theorem came_yes {e : En} {p : Pk} (h1 : ¬ p.num < e.want) (h2 : ¬ e.want + 4 ≤ p.num) (h3 : getN e.inn p.num = none) :
  cameA e p = ({ e with want := (takeIn (e.inn.length + 1) e.want (putA ⟨p.num, p.t⟩ e.inn)).1, inn := (takeIn (e.inn.length + 1) e.want (putA ⟨p.num, p.t⟩ e.inn)).2.1 }, (takeIn (e.inn.length + 1) e.want (putA ⟨p.num, p.t⟩ e.inn)).2.2) := by
 unfold cameA
 rw [if_neg]
 rintro (h | h | h)
 ·exact h1 h
 ·exact h2 h
 ·rw [hasN_get, h3] at h; cases h
theorem came_no {e : En} {p : Pk} (h : p.num < e.want ∨ e.want + 4 ≤ p.num ∨ (getN e.inn p.num).isSome = true) : cameA e p = (e, []) := by
 unfold cameA
 rw [if_pos]
 rw [hasN_get]
 exact h
theorem bits_get (e : En) : bitsA e = (if (getN e.inn (e.want + 1)).isSome then 1 else 0) + (if (getN e.inn (e.want + 2)).isSome then 2 else 0) + (if (getN e.inn (e.want + 3)).isSome then 4 else 0) := by
 unfold bitsA
 simp only [hasN_get]
theorem bits_bd (e : En) : 0 ≤ bitsA e ∧ bitsA e ≤ 7 := by
 unfold bitsA
 split <;> split <;> split <;> omega
theorem GoodP.ins {e : En} (h : GoodP e) : srt e.want e.inn ∧ ∀ x ∈ e.inn, x.n < e.want + 4 ∧ x.n < most ∧ x.t.size ≤ 20 := by
 by_cases hp : e.phase = 3
 ·exact (h.op hp).2
 ·have := (h.cl hp).2.2.1
  rw [this]
  exact ⟨trivial, fun x hx => by cases hx⟩
theorem ins_len {want : Int} : ∀ (n : Nat) (l : List Im) (lo : Int), srt lo l → (∀ x ∈ l, x.n ≤ lo + n) → l.length ≤ n
 | 0, [], _, _, _ => Nat.le_refl _
 | 0, x :: l, lo, hs, hb => by
  have := hb x List.mem_cons_self
  have := hs.1
  omega
 | n + 1, [], _, _, _ => Nat.zero_le _
 | n + 1, x :: l, lo, hs, hb => by
  have hs1 := hs.1
  have := ins_len (want := want) n l (lo + 1) (hs.2.low (by omega)) (fun y hy => by have := hb y (List.mem_cons_of_mem _ hy); push_cast at this; omega)
  simp only [List.length_cons]
  omega
theorem GoodP.ins_len {e : En} (h : GoodP e) : e.inn.length ≤ 3 := by
 obtain ⟨h1, h2⟩ := h.ins
 exact Go.Proofs.YtejabnoidhlfaaaDoor.ins_len (want := 0) 3 e.inn e.want h1 (fun x hx => by have := (h2 x hx).1; push_cast; omega)
end Go.Proofs.YtejabnoidhlfaaaDoor
