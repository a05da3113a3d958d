/- The quiet round. -/
import Derived.Test.YtejabnoidhlfaaaDoorS45

/- The quiet round: what holds while it runs. -/
namespace Go.Proofs.YtejabnoidhlfaaaDoor

/-- The two ends. -/
structure Two (i j : Int) : Prop where
 hi : i = 0 ∨ i = 1
 hj : j = 1 - i
theorem Two.sw {i j : Int} (h : Two i j) : Two j i := ⟨by have := h.hi; have := h.hj; omega, by have := h.hj; omega⟩
/-- An end is in a session with the present life of the other one. -/
def Opn (l : Lp) (i j : Int) : Prop := (l.end_ i).phase = 3 ∧ (l.end_ i).peer = (l.end_ j).life
instance (l : Lp) (i j : Int) : Decidable (Opn l i j) := by unfold Opn; exact inferInstance
/-- How many messages an end took in this session. -/
def Wn (l : Lp) (i j : Int) : Int := if Opn l i j then (l.end_ i).want else 0
/-- Some packet is under way to an end. -/
def On (l : Lp) (i j : Int) (P : Pk → Prop) : Prop := ∃ x ∈ l.wire, x.to = i ∧ x.p.frm = (l.end_ j).life ∧ P x.p
/-- An end has a message. -/
def HasM (l : Lp) (i j m : Int) : Prop := Opn l i j ∧ (m < (l.end_ i).want ∨ hasN (l.end_ i).inn m = true)
structure Qt (l : Lp) (i j : Int) : Prop where
 op : Opn l i j ∨ On l i j (fun p => p.to = (l.end_ i).life) ∨ (¬ Opn l j i ∧ (On l j i (fun p => p.kind = 1 ∧ p.to = (l.end_ j).life) ∨ On l i j (fun _ => True)))
 dat : Opn l i j → ∀ k : Nat, k < flyN (l.end_ i) → On l j i (fun p => p.kind = 2 ∧ p.to = (l.end_ j).life ∧ p.num = (l.end_ i).base + k) ∨ HasM l j i ((l.end_ i).base + k)
 ack : Opn l i j → (l.end_ i).base = Wn l j i ∨ On l i j (fun p => p.kind ≠ 1 ∧ p.to = (l.end_ i).life ∧ p.ack = Wn l j i)

/-- A tale of the present lives: the end is in this session. -/
theorem Saf.opn {l : Lp} (h : Saf l) {i j : Int} (t2 : Two i j) (ht : (tale l.tales i (l.end_ i).life (l.end_ j).life).isSome = true) : Opn l i j := by
 obtain ⟨hi, rfl⟩ := t2
 obtain ⟨t, ht⟩ := Option.isSome_iff_exists.1 ht
 have h1 := h.key i hi _ _ t ht
 have h2 := h1.2.2.2 rfl
 have h3 := h.ok.peer hi
 exact ⟨h2.2 (by omega), by omega⟩
theorem Saf.wn {l : Lp} (h : Saf l) {i j : Int} (t2 : Two i j) : ((takenOf l.tales i (l.end_ i).life (l.end_ j).life).length : Int) = Wn l i j := by
 unfold Wn
 split
 ·rename_i ho
  rw [← ho.2]
  exact (h.cur i t2.hi ho.1).taken
 ·rename_i ho
  cases ht : tale l.tales i (l.end_ i).life (l.end_ j).life with
  | none => rw [takenOf_none ht]; rfl
  | some t => exact absurd (h.opn t2 (by rw [ht]; rfl)) ho
theorem Saf.base_le {l : Lp} (h : Saf l) {i j : Int} (t2 : Two i j) (ho : Opn l i j) : (l.end_ i).base ≤ Wn l j i := by
 have h1 := (h.cur i t2.hi ho.1).base
 have h2 := h.wn t2.sw
 rw [← t2.hj, ho.2] at h1
 omega
theorem Saf.pre' {l : Lp} (h : Saf l) {i j : Int} (t2 : Two i j) (a b : Int) : takenOf l.tales j b a <+: sentOf l.tales i a b := by
 have := h.pre j t2.sw.hi b a
 rw [← t2.sw.hj] at this
 exact this
theorem Saf.wn_le {l : Lp} (h : Saf l) {i j : Int} (t2 : Two i j) (ho : Opn l i j) : Wn l j i ≤ (l.end_ i).base + flyN (l.end_ i) := by
 obtain ⟨k, t, _, _, _, _, _, a6, a7⟩ := h.nowT t2.hi ho.1
 have h1 := (h.pre' t2 (l.end_ i).life (l.end_ j).life).length_le
 have h2 := h.wn t2.sw
 rw [← ho.2] at h1 h2
 rw [sentOf_some a7] at h1
 omega
theorem Saf.wn_zero {l : Lp} (h : Saf l) {i j : Int} (t2 : Two i j) (ho : ¬ Opn l i j) : Wn l j i = 0 := by
 have h1 := (h.pre' t2 (l.end_ i).life (l.end_ j).life).length_le
 have h2 := h.wn t2.sw
 have h3 : tale l.tales i (l.end_ i).life (l.end_ j).life = none := by
  cases ht : tale l.tales i (l.end_ i).life (l.end_ j).life with
  | none => rfl
  | some t => exact absurd (h.opn t2 (by rw [ht]; rfl)) ho
 rw [sentOf_none h3, List.length_nil] at h1
 omega
/-- A packet of a session of the present lives: its sender is in this session, and what it acknowledges was taken. -/
theorem Saf.sender {l : Lp} (h : Saf l) {i j : Int} (t2 : Two i j) {p : Pk} (hw : Wc l i p) (h1 : p.frm = (l.end_ j).life) (h2 : p.to = (l.end_ i).life) : Opn l j i ∧ p.ack ≤ Wn l j i := by
 have a := hw.tale
 have b := hw.ack
 have c := h.wn t2.sw
 rw [← t2.hj, h1, h2] at a b
 exact ⟨h.opn t2.sw a, by omega⟩
/-- A message that is no further than the window is taken or held. -/
theorem came_has {e : En} {p : Pk} (hw : p.num < e.want + 4) : p.num < (cameA e p).1.want ∨ hasN (cameA e p).1.inn p.num = true := by
 unfold cameA
 split
 ·rename_i hc
  rcases hc with hc | hc | hc
  ·exact .inl hc
  ·omega
  ·exact .inr hc
 ·simp only
  have key : ∀ (f : Nat) (l : List Im) (want : Int), ∀ x ∈ l, x.n < (takeIn f want l).1 ∨ x ∈ (takeIn f want l).2.1 := by
   intro f
   induction f with
   | zero => intro l want x hx; cases l <;> exact .inr hx
   | succ f ih =>
    intro l want x hx
    cases l with
    | nil => exact .inr hx
    | cons y l =>
     rw [takeIn]
     split
     ·rename_i he
      simp only
      have hmono : want + 1 ≤ (takeIn f (want + 1) l).1 := by
       have : ∀ (f : Nat) (l : List Im) (want : Int), want ≤ (takeIn f want l).1 := by
        intro f
        induction f with
        | zero => intro l want; cases l <;> exact Int.le_refl _
        | succ f ih2 =>
         intro l want
         cases l with
         | nil => exact Int.le_refl _
         | cons y l =>
          rw [takeIn]
          split
          ·have := ih2 l (want + 1)
           simp only
           omega
          ·exact Int.le_refl _
       exact this _ _ _
      rcases List.mem_cons.1 hx with rfl | hx
      ·left; omega
      ·exact ih l (want + 1) x hx
     ·exact .inr hx
  rcases key (e.inn.length + 1) (putA ⟨p.num, p.t⟩ e.inn) e.want ⟨p.num, p.t⟩ ((putA_mem _ _ _).2 (.inl rfl)) with h1 | h1
  ·exact .inl h1
  ·exact .inr (hasN_mem.2 ⟨_, h1, rfl⟩)
theorem came_keeps {e : En} {p : Pk} {m : Int} (hm : m < e.want ∨ hasN e.inn m = true) : m < (cameA e p).1.want ∨ hasN (cameA e p).1.inn m = true := by
 unfold cameA
 split
 ·exact hm
 ·simp only
  have hmono : ∀ (f : Nat) (l : List Im) (want : Int), want ≤ (takeIn f want l).1 := by
   intro f
   induction f with
   | zero => intro l want; cases l <;> exact Int.le_refl _
   | succ f ih2 =>
    intro l want
    cases l with
    | nil => exact Int.le_refl _
    | cons y l =>
     rw [takeIn]
     split
     ·have := ih2 l (want + 1)
      simp only
      omega
     ·exact Int.le_refl _
  have key : ∀ (f : Nat) (l : List Im) (want : Int), ∀ x ∈ l, x.n < (takeIn f want l).1 ∨ x ∈ (takeIn f want l).2.1 := by
   intro f
   induction f with
   | zero => intro l want x hx; cases l <;> exact .inr hx
   | succ f ih =>
    intro l want x hx
    cases l with
    | nil => exact .inr hx
    | cons y l =>
     rw [takeIn]
     split
     ·rename_i he
      simp only
      have := hmono f l (want + 1)
      rcases List.mem_cons.1 hx with rfl | hx
      ·left; omega
      ·exact ih l (want + 1) x hx
     ·exact .inr hx
  rcases hm with hm | hm
  ·left
   have := hmono (e.inn.length + 1) (putA ⟨p.num, p.t⟩ e.inn) e.want
   omega
  ·obtain ⟨x, hx, rfl⟩ := hasN_mem.1 hm
   rcases key (e.inn.length + 1) (putA ⟨p.num, p.t⟩ e.inn) e.want x ((putA_mem _ _ _).2 (.inr hx)) with h1 | h1
   ·exact .inl h1
   ·exact .inr (hasN_mem.2 ⟨_, h1, rfl⟩)
theorem fromA_mem' {e : En} {n k : Nat} (h1 : n ≤ k) (h2 : k < flyN e) : dataA e k ∈ fromA e n := by
 unfold fromA
 refine List.mem_map.2 ⟨k, ?_, rfl⟩
 rw [List.mem_iff_getElem?]
 refine ⟨k - n, ?_⟩
 rw [List.getElem?_drop, show n + (k - n) = k by omega, List.getElem?_range h2]
/-- A packet of the present lives, for us. -/
structure Mine (e e' : En) (p : Pk) (ps : List Pk) (was : Prop) [Decidable was] : Prop where
 ph : e'.phase = 3
 peer : e'.peer = p.frm
 life : e'.life = e.life
 fresh : ¬ was → e'.base = 0
 base : was → ∃ g : Nat, e'.base = e.base + g ∧ ((p.kind = 1 ∧ g = 0) ∨ g = goneA e p (flyN e))
 dat : ∀ k : Nat, k < flyN e' → (was ∧ e'.base + k < e.base + flyN e) ∨ dataA e' k ∈ ps
 want : p.kind ≠ 2 → e'.want = (if was then e.want else 0) ∧ (was → e'.inn = e.inn)
 came : p.kind = 2 → (∀ m, was → (m < e.want ∨ hasN e.inn m = true) → m < e'.want ∨ hasN e'.inn m = true) ∧ (p.num < (if was then e.want else 0) + 4 → p.num < e'.want ∨ hasN e'.inn p.num = true)
 rep : p.kind = 2 ∨ (p.kind = 1 ∧ ¬ was) → reportA e' ∈ ps
theorem acked_same (e : En) (p : Pk) (n : Nat) : (ackedA e p n).want = e.want ∧ (ackedA e p n).inn = e.inn := by
 unfold ackedA
 split <;> exact ⟨rfl, rfl⟩
theorem take_mine {e : En} {p : Pk} (hg : goodB e = true) (hp : properB p = true) (hd : ¬ p.frm < e.peer) (hto : p.to = e.life) : Mine e (takeA e p).1 p (takeA e p).2.1.packets (e.phase = 3 ∧ e.peer = p.frm) := by
 have hG := good_iff.1 hg
 have hf := proper_from hp
 obtain ⟨e1, ls, ho⟩ : ∃ e1 ls, (if e.peer < p.frm then overA e p.frm else (e, [])) = (e1, ls) := ⟨_, _, rfl⟩
 rw [tk_go hg hp hd ho]
 -- the end behind an earlier session
 have h1 : e1.peer = p.frm ∧ e1.life = e.life ∧ GoodP e1 ∧ ((e1 = e ∧ e.phase = 3 ∧ e.peer = p.frm) ∨ (e1.phase = 2 ∧ ¬ (e.phase = 3 ∧ e.peer = p.frm))) := by
  rcases over_eq e p with ⟨h1, h2⟩ | ⟨h1, h2⟩
  ·rw [h2] at ho
   have hA : (overA e p.frm).1 = e1 := by rw [ho]
   rw [← hA]
   exact ⟨rfl, rfl, over_good hG hf.1 hf.2.1, .inr ⟨rfl, fun h => by omega⟩⟩
  ·rw [h2] at ho
   injection ho with h3 _
   subst h3
   refine ⟨by omega, rfl, hG, ?_⟩
   by_cases hp3 : e.phase = 3
   ·exact .inl ⟨rfl, hp3, by omega⟩
   ·refine .inr ⟨?_, fun h => hp3 h.1⟩
    have := (hG.cl hp3).2.2.2
    omega
 obtain ⟨q1, q2, hG1, q3⟩ := h1
 have hm : (p.to == e1.life) = true := by rw [q2]; simpa using hto
 obtain ⟨o1, o2, o3, o4, o5⟩ := open_base e1
 have hop : (openE e1).phase = 3 := by
  rw [o5]
  split
  ·rfl
  ·rename_i hno
   rcases q3 with ⟨r1, r2, _⟩ | ⟨r1, _⟩
   ·rw [r1]; exact r2
   ·exact absurd r1 hno
 have ho3 : (openE e1).want = e1.want ∧ (openE e1).inn = e1.inn := by unfold openE; split <;> exact ⟨rfl, rfl⟩
 have hwas : (e.phase = 3 ∧ e.peer = p.frm) → openE e1 = e ∧ e1 = e := fun hw => by
  rcases q3 with ⟨r1, r2, _⟩ | ⟨_, r2⟩
  ·subst r1
   exact ⟨by unfold openE; rw [if_neg (by simp; omega)], rfl⟩
  ·exact absurd hw r2
 have hnot : ¬ (e.phase = 3 ∧ e.peer = p.frm) → e1.phase = 2 ∧ flyN e1 = 0 ∧ e1.base = 0 ∧ e1.want = 0 ∧ e1.inn = [] := fun hw => by
  rcases q3 with ⟨_, r2⟩ | ⟨r1, _⟩
  ·exact absurd r2 hw
  ·obtain ⟨c1, c2, c3, _⟩ := hG1.cl (by omega)
   exact ⟨r1, by unfold flyN; rw [if_neg (by omega)], c1, c2, c3⟩
 -- messages from those on that were not sent before
 have hdat : ∀ (e' : En) (g : Nat), e'.base = e1.base + g → ∀ (ps : List Pk), (∀ q ∈ fromA e' (flyN e1 - g), q ∈ ps) → ∀ k : Nat, k < flyN e' → ((e.phase = 3 ∧ e.peer = p.frm) ∧ e'.base + k < e.base + flyN e) ∨ dataA e' k ∈ ps := fun e' g hb ps hin k hk => by
  by_cases hlt : k < flyN e1 - g
  ·left
   by_cases hw : e.phase = 3 ∧ e.peer = p.frm
   ·have := (hwas hw).2
    subst this
    exact ⟨hw, by omega⟩
   ·have := (hnot hw).2.1
    omega
  ·exact .inr (hin _ (fromA_mem' (by omega) hk))
 obtain ⟨a1, a2, a3, a4, a5⟩ := acked_base (openE e1) p (flyN e1)
 obtain ⟨w1, w2⟩ := acked_same (openE e1) p (flyN e1)
 have hz : ¬ (e.phase = 3 ∧ e.peer = p.frm) → goneA (openE e1) p (flyN e1) = 0 := fun hw => by have := (hnot hw).2.1; omega
 have hgw : (e.phase = 3 ∧ e.peer = p.frm) → goneA (openE e1) p (flyN e1) = goneA e p (flyN e) ∧ e1.base = e.base := fun hw => by rw [(hwas hw).1, (hwas hw).2]; exact ⟨rfl, rfl⟩
 have hwn : (openE e1).want = if (e.phase = 3 ∧ e.peer = p.frm) then e.want else 0 := by
  split
  ·rename_i hw; rw [(hwas hw).1]
  ·rename_i hw; rw [ho3.1]; exact (hnot hw).2.2.2.1
 have hin : (e.phase = 3 ∧ e.peer = p.frm) → (openE e1).inn = e.inn := fun hw => by rw [(hwas hw).1]
 rcases proper_kind hp with hk | hk | hk
 ·rw [tb_hello hm hk]
  refine ⟨hop, by rw [o4]; exact q1, by rw [o3]; exact q2, fun hw => by rw [o1]; exact (hnot hw).2.2.1, fun hw => ⟨0, by rw [o1, (hgw hw).2]; simp, .inl ⟨hk, rfl⟩⟩, hdat _ 0 (by rw [o1]; simp) _ (fun q hq => by simp only [List.nil_append, List.mem_append]; exact .inl hq), fun _ => ⟨hwn, hin⟩, fun h2 => by omega, fun hr => ?_⟩
  have hw : ¬ (e.phase = 3 ∧ e.peer = p.frm) := by
   rcases hr with hr | hr
   ·omega
   ·exact hr.2
  have h2 := (hnot hw).1
  simp only [List.nil_append, List.mem_append]
  right
  rw [if_pos (by simpa using h2)]
  simp
 ·rw [tb_data hm hk]
  obtain ⟨e3, he3⟩ : ∃ e3, ackedA (openE e1) p (flyN e1) = e3 := ⟨_, rfl⟩
  rw [he3] at a1 a3 a4 a5 w1 w2 ⊢
  obtain ⟨c1, c2, c3, c4, c5⟩ := came_base e3 p
  refine ⟨by rw [c3, a5]; exact hop, by rw [c4, a4, o4]; exact q1, by rw [c5, a3, o3]; exact q2, fun hw => by rw [c1, a1, o1, hz hw, (hnot hw).2.2.1]; rfl, fun hw => ⟨goneA e p (flyN e), by rw [c1, a1, o1, (hgw hw).1, (hgw hw).2], .inr rfl⟩, hdat _ (goneA (openE e1) p (flyN e1)) (by rw [c1, a1, o1]) _ (fun q hq => by simp only [List.nil_append, List.mem_append]; exact .inl hq), fun h2 => absurd hk h2, fun _ => ⟨fun m hw hm' => came_keeps (by rw [w1, w2, (hwas hw).1]; exact hm'), fun hlt => came_has (by rw [w1, hwn]; exact hlt)⟩, fun _ => by simp⟩
 ·rw [tb_ack hm hk]
  refine ⟨by rw [a5]; exact hop, by rw [a4, o4]; exact q1, by rw [a3, o3]; exact q2, fun hw => by rw [a1, o1, hz hw, (hnot hw).2.2.1]; rfl, fun hw => ⟨goneA e p (flyN e), by rw [a1, o1, (hgw hw).1, (hgw hw).2], .inr rfl⟩, hdat _ (goneA (openE e1) p (flyN e1)) (by rw [a1, o1]) _ (fun q hq => by simp only [List.nil_append]; exact hq), fun _ => ⟨by rw [w1]; exact hwn, fun hw => by rw [w2]; exact hin hw⟩, fun h2 => by omega, fun hr => by omega⟩
/-- A packet of the present lives that is not for us, or an elder one. -/
theorem take_not {e : En} {p : Pk} {L : Int} (hg : goodB e = true) (hp : properB p = true) (hL : p.frm ≤ L) (hpe : e.peer ≤ L) (hn : ¬ (p.frm = L ∧ p.to = e.life)) :
  ((takeA e p).1 = e ∨ (¬ (e.phase = 3 ∧ e.peer = L) ∧ ¬ ((takeA e p).1.phase = 3 ∧ (takeA e p).1.peer = L))) ∧ (p.frm = L → ∃ q ∈ (takeA e p).2.1.packets, q.kind = 1 ∧ q.to = L) := by
 have hG := good_iff.1 hg
 have hf := proper_from hp
 by_cases hd : p.frm < e.peer
 ·rw [tk_old hg hp hd]
  exact ⟨.inl rfl, fun h => by omega⟩
 ·obtain ⟨e1, ls, ho⟩ : ∃ e1 ls, (if e.peer < p.frm then overA e p.frm else (e, [])) = (e1, ls) := ⟨_, _, rfl⟩
  rw [tk_go hg hp hd ho]
  have h1 : e1.peer = p.frm ∧ e1.life = e.life ∧ (e1 = e ∨ (e1.phase = 2 ∧ e.peer < p.frm)) := by
   rcases over_eq e p with ⟨h1, h2⟩ | ⟨h1, h2⟩
   ·rw [h2] at ho
    have hA : (overA e p.frm).1 = e1 := by rw [ho]
    rw [← hA]
    exact ⟨rfl, rfl, .inr ⟨rfl, h1⟩⟩
   ·rw [h2] at ho
    injection ho with h3 _
    subst h3
    exact ⟨by omega, rfl, .inl rfl⟩
  obtain ⟨q1, q2, q3⟩ := h1
  cases hm : (p.to == e1.life) with
  | false =>
   rw [tb_foreign hm]
   refine ⟨?_, fun hl => ⟨helloA e1, by simp, rfl, by show e1.peer = L; omega⟩⟩
   rcases q3 with q3 | ⟨q3, q4⟩
   ·exact .inl q3
   ·exact .inr ⟨fun h => by omega, fun h => by have := h.1; simp only at this; omega⟩
  | true =>
   have hto : p.to = e.life := by rw [← q2]; simpa using hm
   have hlt : p.frm ≠ L := fun h => hn ⟨h, hto⟩
   have hM := take_mine hg hp hd hto
   rw [tk_go hg hp hd ho] at hM
   refine ⟨.inr ⟨fun h => by omega, fun h => by have := hM.peer; omega⟩, fun h => absurd h hlt⟩
end Go.Proofs.YtejabnoidhlfaaaDoor

/- The quiet round keeps what holds while it runs; at its end all is there. -/
namespace Go.Proofs.YtejabnoidhlfaaaDoor

structure QL (l : Lp) : Prop where
 saf : Saf l
 free : l.free = true
 qt : ∀ i j, Two i j → Qt l i j
/-- What carrying does, seen from the two ends. -/
structure Car (l l' : Lp) (x : Tp) (i j : Int) : Prop where
 dst : x.to = i
 self : l'.end_ i = (takeA (l.end_ i) x.p).1
 oth : l'.end_ j = l.end_ j
 life : (l'.end_ i).life = (l.end_ i).life
 keep : ∀ y ∈ l.wire, y = x ∨ y ∈ l'.wire
 new : ∀ q ∈ (takeA (l.end_ i) x.p).2.1.packets, (⟨j, q⟩ : Tp) ∈ l'.wire
 frm : ∀ q ∈ (takeA (l.end_ i) x.p).2.1.packets, q.frm = (l.end_ i).life
theorem mem_erase_or {α : Type} : ∀ {l : List α} {k : Nat} {x y : α}, l[k]? = some x → y ∈ l → y = x ∨ y ∈ l.eraseIdx k
 | [], k, x, y, hx, hy => by cases hy
 | z :: l, 0, x, y, hx, hy => by
  have e : z = x := by simpa using hx
  subst e
  rcases List.mem_cons.1 hy with h | h
  ·exact .inl h
  ·exact .inr h
 | z :: l, k + 1, x, y, hx, hy => by
  rw [List.eraseIdx_cons_succ]
  rcases List.mem_cons.1 hy with h | h
  ·exact .inr (by rw [h]; exact List.mem_cons_self)
  ·rcases mem_erase_or (l := l) (k := k) (x := x) (by simpa using hx) h with h | h
   ·exact .inl h
   ·exact .inr (List.mem_cons_of_mem _ h)
theorem car_of {l : Lp} (h : Saf l) (hf : l.free = true) {k : Nat} {x : Tp} (hx : l.wire[k]? = some x) : ∃ i j, Two i j ∧ Car l (carryA l k) x i j ∧ x.p.frm ≤ (l.end_ j).life ∧ properB x.p = true ∧ (x.p.kind ≠ 1 → Wc l i x.p) := by
 have hm := List.mem_of_getElem? hx
 have ht := h.ok.wire x hm
 have hto : x.to = 0 ∨ x.to = 1 := by
  rcases ht.2 with h | h
  ·exact .inl h.1
  ·exact .inr h.1
 have hfr : x.p.frm ≤ (l.end_ (1 - x.to)).life := by
  rcases ht.2 with ⟨h1, h2⟩ | ⟨h1, h2⟩
  ·rw [h1]; exact h2
  ·rw [h1]; exact h2
 have hw4 := take_weight (h.ok.good x.to) ht.1 hfr (h.ok.peer hto)
 obtain ⟨e1, e2⟩ := takenL_ends (l := { l with wire := l.wire.eraseIdx k }) hto x.p
 have hend : ∀ j, ({ l with wire := l.wire.eraseIdx k } : Lp).end_ j = l.end_ j := fun j => rfl
 rw [hend] at e1 e2
 have hfree : (takenL { l with wire := l.wire.eraseIdx k } x.to x.p).free = true ∧ (takenL { l with wire := l.wire.eraseIdx k } x.to x.p).wire = l.wire.eraseIdx k := by
  have hb := fun (L : Lp) (e : En) => becomes_e L x.to e
  unfold takenL tellB lostL
  simp only
  split <;> split <;> exact ⟨by simp only [(hb _ _).2.2.2]; exact hf, by simp only [(hb _ _).2.2.1]⟩
 refine ⟨x.to, 1 - x.to, ⟨hto, rfl⟩, ?_, hfr, ht.1, fun hk => h.wire x hm hk⟩
 rw [carry_way hx, way_eq]
 refine ⟨rfl, e1, e2, ?_, fun y hy => ?_, fun q hq => ?_, fun q hq => (hw4.2.2.2.1 q hq).2⟩
 ·show ((takenL _ _ _).end_ x.to).life = _
  rw [e1, hw4.1]
 ·rcases mem_erase_or hx hy with h1 | h1
  ·exact .inl h1
  ·right
   show y ∈ (takenL _ _ _).wire ++ _
   rw [hfree.2]
   exact List.mem_append_left _ h1
 ·show _ ∈ (takenL _ _ _).wire ++ _
  refine List.mem_append_right _ (List.mem_map.2 ⟨q, ?_, rfl⟩)
  unfold roomA
  rw [if_pos hfree.1, List.take_length]
  exact hq
section
variable {l l' : Lp} {x : Tp} {i j : Int}
theorem On.oth (t2 : Two i j) (c : Car l l' x i j) {P : Pk → Prop} (h : On l j i P) : On l' j i P := by
 obtain ⟨y, h1, h2, h3, h4⟩ := h
 rcases c.keep y h1 with e | e
 ·have := c.dst
  have := t2.hi
  have := t2.hj
  rw [e] at h2
  omega
 ·exact ⟨y, e, h2, by rw [c.life]; exact h3, h4⟩
theorem On.self (c : Car l l' x i j) {P : Pk → Prop} (h : On l i j P) : On l' i j P ∨ (x.p.frm = (l.end_ j).life ∧ P x.p) := by
 obtain ⟨y, h1, h2, h3, h4⟩ := h
 rcases c.keep y h1 with e | e
 ·rw [e] at h3 h4
  exact .inr ⟨h3, h4⟩
 ·exact .inl ⟨y, e, h2, by rw [c.oth]; exact h3, h4⟩
theorem On.new (c : Car l l' x i j) {P : Pk → Prop} {q : Pk} (hq : q ∈ (takeA (l.end_ i) x.p).2.1.packets) (hP : P q) : On l' j i P := ⟨_, c.new q hq, rfl, by rw [c.life]; exact c.frm q hq, hP⟩
/-- A packet of the present lives is carried. -/
theorem mine_qt (h : Saf l) (hq : ∀ i j, Two i j → Qt l i j) (t2 : Two i j) (c : Car l l' x i j) (hpr : properB x.p = true) (hw : x.p.kind ≠ 1 → Wc l i x.p) (h1 : x.p.frm = (l.end_ j).life) (h2 : x.p.to = (l.end_ i).life) : Qt l' i j ∧ Qt l' j i := by
 have hg := h.ok.good i
 have hpl := h.ok.peer t2.hi
 rw [← t2.hj] at hpl
 have hM := take_mine hg hpr (by omega) h2
 rw [← c.self] at hM
 have hwas : ((l.end_ i).phase = 3 ∧ (l.end_ i).peer = x.p.frm) ↔ Opn l i j := by rw [h1]; exact Iff.rfl
 have hop : Opn l' i j := ⟨hM.ph, by rw [hM.peer, h1, c.oth]⟩
 have hoj : Opn l' j i ↔ Opn l j i := by unfold Opn; rw [c.oth, c.life]
 have hWj : Wn l' j i = Wn l j i := by
  unfold Wn
  rw [c.oth]
  by_cases ho : Opn l j i
  ·rw [if_pos ho, if_pos (hoj.2 ho)]
  ·rw [if_neg ho, if_neg (fun h => ho (hoj.1 h))]
 have hWi : Wn l' i j = (l'.end_ i).want := by unfold Wn; rw [if_pos hop]
 have hw0 : (if (l.end_ i).phase = 3 ∧ (l.end_ i).peer = x.p.frm then (l.end_ i).want else 0) = Wn l i j := by
  unfold Wn
  by_cases ho : Opn l i j
  ·rw [if_pos ho, if_pos (hwas.2 ho)]
  ·rw [if_neg ho, if_neg (fun h => ho (hwas.1 h))]
 have hwk := hM.want
 have hwc := hM.came
 rw [hw0] at hwk hwc
 -- what the end had it has
 have hhas : ∀ m, HasM l i j m → HasM l' i j m := fun m hm => by
  refine ⟨hop, ?_⟩
  by_cases hk : x.p.kind = 2
  ·exact (hwc hk).1 m (hwas.2 hm.1) hm.2
  ·obtain ⟨k1, k2⟩ := hwk hk
   rw [k1, k2 (hwas.2 hm.1)]
   unfold Wn
   rw [if_pos hm.1]
   exact hm.2
 have hasj : ∀ m, HasM l j i m → HasM l' j i m := fun m hm => ⟨hoj.2 hm.1, by rw [c.oth]; exact hm.2⟩
 have Qi := hq i j t2
 have Qj := hq j i t2.sw
 refine ⟨⟨.inl hop, fun _ k hk => ?_, fun _ => ?_⟩, ⟨?_, fun ho k hk => ?_, fun ho => ?_⟩⟩
 ·rcases hM.dat k hk with ⟨hw1, hlt⟩ | hd
  ·have ho := hwas.1 hw1
   obtain ⟨g, hg1, _⟩ := hM.base hw1
   have h3 := Qi.dat ho (g + k) (by omega)
   rw [show (l.end_ i).base + ((g + k : Nat) : Int) = (l'.end_ i).base + (k : Int) by omega] at h3
   rcases h3 with h3 | h3
   ·left
    have := On.oth t2 c h3
    rw [c.oth]
    exact this
   ·exact .inr (hasj _ h3)
  ·left
   exact On.new c hd ⟨rfl, by show (l'.end_ i).peer = _; rw [hM.peer, h1, c.oth], rfl⟩
 ·rw [hWj]
  by_cases ho : Opn l i j
  ·have hw1 := hwas.2 ho
   obtain ⟨g, hg1, hg2⟩ := hM.base hw1
   have b1 := h.base_le t2 ho
   have b2 := h.wn_le t2 ho
   rcases Qi.ack ho with h3 | h3
   ·left
    rcases hg2 with ⟨_, rfl⟩ | hg2
    ·omega
    ·by_cases hk : x.p.kind = 1
     ·-- a greeting acknowledges nothing
      have hz : x.p.ack = 0 := by
       unfold properB at hpr
       rw [if_pos hk] at hpr
       simp only [Bool.and_eq_true, decide_eq_true_eq] at hpr
       exact hpr.2.1.2
      have hb := (good_iff.1 hg).base
      unfold goneA at hg2
      split at hg2 <;> omega
     ·have := (h.sender t2 (hw hk) h1 h2).2
      unfold goneA at hg2
      split at hg2 <;> omega
   ·rcases On.self c h3 with h4 | ⟨_, hk, _, h5⟩
    ·right
     rw [c.life]
     exact h4
    ·left
     rcases hg2 with ⟨h6, _⟩ | hg2
     ·exact absurd h6 hk
     ·unfold goneA at hg2
      split at hg2 <;> omega
  ·left
   rw [hM.fresh (fun hh => ho (hwas.1 hh)), h.wn_zero t2 ho]
 ·rcases Qj.op with h3 | h3 | ⟨h3, h4⟩
  ·exact .inl (hoj.2 h3)
  ·right; left
   have := On.oth t2 c h3
   rw [c.oth]
   exact this
  ·by_cases hk : x.p.kind = 3
   ·exact .inl (hoj.2 (h.sender t2 (hw (by omega)) h1 h2).1)
   ·right; left
    have hr : reportA (l'.end_ i) ∈ (takeA (l.end_ i) x.p).2.1.packets := by
     refine hM.rep ?_
     rcases proper_kind hpr with hk' | hk' | hk'
     ·exact .inr ⟨hk', fun hh => h3 (hwas.1 hh)⟩
     ·exact .inl hk'
     ·exact absurd hk' hk
    exact On.new c hr (by show (l'.end_ i).peer = _; rw [hM.peer, h1, c.oth])
 ·have ho' := hoj.1 ho
  rw [c.oth] at hk ⊢
  have hle := h.base_le t2.sw ho'
  have hfl := (fly_le (l.end_ j)).2
  rcases Qj.dat ho' k hk with h3 | h3
  ·rcases On.self c h3 with h4 | ⟨_, hk2, _, h5⟩
   ·left
    rw [c.life]
    exact h4
   ·right
    refine ⟨hop, ?_⟩
    have h6 := (hwc hk2).2 (by omega)
    rw [h5] at h6
    exact h6
  ·exact .inr (hhas _ h3)
 ·have ho' := hoj.1 ho
  rw [c.oth, hWi]
  by_cases hk : x.p.kind = 2
  ·right
   exact On.new c (hM.rep (.inl hk)) ⟨by show (3 : Int) ≠ 1; omega, by show (l'.end_ i).peer = _; rw [hM.peer, h1], rfl⟩
  ·rw [(hwk hk).1]
   rcases Qj.ack ho' with h3 | h3
   ·exact .inl h3
   ·right
    exact On.oth t2 c h3
/-- Another packet is carried. -/
theorem not_qt (h : Saf l) (hq : ∀ i j, Two i j → Qt l i j) (t2 : Two i j) (c : Car l l' x i j) (hpr : properB x.p = true) (hfr : x.p.frm ≤ (l.end_ j).life) (hn : ¬ (x.p.frm = (l.end_ j).life ∧ x.p.to = (l.end_ i).life)) : Qt l' i j ∧ Qt l' j i := by
 have hg := h.ok.good i
 have hpl := h.ok.peer t2.hi
 rw [← t2.hj] at hpl
 obtain ⟨hA, hB⟩ := take_not hg hpr hfr hpl hn
 rw [← c.self] at hA
 have hoi : Opn l' i j ↔ Opn l i j := by
  unfold Opn
  rw [c.oth]
  rcases hA with hA | hA
  ·rw [hA]
  ·exact ⟨fun h => absurd h hA.2, fun h => absurd h hA.1⟩
 have hei : Opn l i j → l'.end_ i = l.end_ i := fun ho => by
  rcases hA with hA | hA
  ·exact hA
  ·exact absurd ho hA.1
 have hoj : Opn l' j i ↔ Opn l j i := by unfold Opn; rw [c.oth, c.life]
 have hWj : Wn l' j i = Wn l j i := by
  unfold Wn
  rw [c.oth]
  by_cases ho : Opn l j i
  ·rw [if_pos ho, if_pos (hoj.2 ho)]
  ·rw [if_neg ho, if_neg (fun h => ho (hoj.1 h))]
 have hWi : Wn l' i j = Wn l i j := by
  unfold Wn
  by_cases ho : Opn l i j
  ·rw [if_pos ho, if_pos (hoi.2 ho), hei ho]
  ·rw [if_neg ho, if_neg (fun h => ho (hoi.1 h))]
 have hasi : ∀ m, HasM l i j m → HasM l' i j m := fun m hm => ⟨hoi.2 hm.1, by rw [hei hm.1]; exact hm.2⟩
 have hasj : ∀ m, HasM l j i m → HasM l' j i m := fun m hm => ⟨hoj.2 hm.1, by rw [c.oth]; exact hm.2⟩
 have Qi := hq i j t2
 have Qj := hq j i t2.sw
 refine ⟨⟨?_, fun ho k hk => ?_, fun ho => ?_⟩, ⟨?_, fun ho k hk => ?_, fun ho => ?_⟩⟩
 ·rcases Qi.op with h3 | h3 | ⟨h3, h4 | h4⟩
  ·exact .inl (hoi.2 h3)
  ·rcases On.self c h3 with h5 | ⟨h5, h6⟩
   ·right; left
    rw [c.life]; exact h5
   ·exact absurd ⟨h5, h6⟩ hn
  ·right; right
   refine ⟨fun hh => h3 (hoj.1 hh), .inl ?_⟩
   have := On.oth t2 c h4
   rw [c.oth]
   exact this
  ·right; right
   refine ⟨fun hh => h3 (hoj.1 hh), ?_⟩
   rcases On.self c h4 with h5 | ⟨h5, _⟩
   ·exact .inr h5
   ·left
    obtain ⟨q, hq1, hq2, hq3⟩ := hB h5
    exact On.new c hq1 ⟨hq2, by rw [c.oth]; exact hq3⟩
 ·have ho' := hoi.1 ho
  rw [hei ho'] at hk ⊢
  rcases Qi.dat ho' k hk with h3 | h3
  ·left
   have := On.oth t2 c h3
   rw [c.oth]
   exact this
  ·exact .inr (hasj _ h3)
 ·have ho' := hoi.1 ho
  rw [hWj, hei ho']
  rcases Qi.ack ho' with h3 | h3
  ·exact .inl h3
  ·rcases On.self c h3 with h4 | ⟨h4, _, h5, _⟩
   ·exact .inr h4
   ·exact absurd ⟨h4, h5⟩ hn
 ·rcases Qj.op with h3 | h3 | ⟨h3, h4 | h4⟩
  ·exact .inl (hoj.2 h3)
  ·right; left
   have := On.oth t2 c h3
   rw [c.oth]
   exact this
  ·right; right
   refine ⟨fun hh => h3 (hoi.1 hh), ?_⟩
   rcases On.self c h4 with h5 | ⟨h5, _, h6⟩
   ·left
    rw [c.life]; exact h5
   ·exact absurd ⟨h5, h6⟩ hn
  ·right; right
   exact ⟨fun hh => h3 (hoi.1 hh), .inr (On.oth t2 c h4)⟩
 ·have ho' := hoj.1 ho
  rw [c.oth] at hk ⊢
  rcases Qj.dat ho' k hk with h3 | h3
  ·rcases On.self c h3 with h4 | ⟨h4, _, h5, _⟩
   ·left
    rw [c.life]; exact h4
   ·exact absurd ⟨h4, h5⟩ hn
  ·exact .inr (hasi _ h3)
 ·have ho' := hoj.1 ho
  rw [hWi, c.oth]
  rcases Qj.ack ho' with h3 | h3
  ·exact .inl h3
  ·exact .inr (On.oth t2 c h3)
end
theorem two_cases {i j a b : Int} (t : Two i j) (s : Two a b) : (a = i ∧ b = j) ∨ (a = j ∧ b = i) := by
 have := t.hi; have := t.hj; have := s.hi; have := s.hj
 omega
theorem QL.carry {l : Lp} (h : QL l) {k : Nat} (hk : k < l.wire.length) : QL (carryA l k) := by
 obtain ⟨x, hx⟩ : ∃ x, l.wire[k]? = some x := ⟨_, List.getElem?_eq_getElem hk⟩
 obtain ⟨i, j, t2, c, hfr, hpr, hw⟩ := car_of h.saf h.free hx
 refine ⟨h.saf.carry hk, by rw [(carry_less h.saf.ok hk).2.2.1]; exact h.free, fun a b s => ?_⟩
 have hb : Qt (carryA l k) i j ∧ Qt (carryA l k) j i := by
  by_cases hm : x.p.frm = (l.end_ j).life ∧ x.p.to = (l.end_ i).life
  ·exact mine_qt h.saf h.qt t2 c hpr hw hm.1 hm.2
  ·exact not_qt h.saf h.qt t2 c hpr hfr hm
 rcases two_cases t2 s with ⟨rfl, rfl⟩ | ⟨rfl, rfl⟩
 ·exact hb.1
 ·exact hb.2
theorem free_mem : ∀ (l : List Ou) (i j : Nat) (x : Ou), l[j]? = some x → x.h = false → i + j ∈ freeIx i l
 | [], i, j, x, h, _ => by simp at h
 | y :: l, i, 0, x, h, hf => by
  have e : y = x := by simpa using h
  subst e
  rw [freeIx, if_neg (by rw [hf]; decide)]
  exact List.mem_cons_self
 | y :: l, i, j + 1, x, h, hf => by
  have ih := free_mem l (i + 1) j x (by simpa using h) hf
  rw [show i + 1 + j = i + (j + 1) by omega] at ih
  rw [freeIx]
  split
  ·exact ih
  ·exact List.mem_cons_of_mem _ ih
/-- The quiet round begins. -/
theorem quiet0_ql {l : Lp} (h : Saf l) : QL (quiet0 l) := by
 have h0 : Saf { l with free := true } := h.wires (ws := l.wire) (fr := true) (fun x hx => .inl hx)
 have h1 := h0.tick (.inl rfl)
 have h2 := h1.tick (.inr rfl)
 have hq : wayA (wayA { l with free := true } 0 (tickA (({ l with free := true } : Lp).end_ 0)).1) 1 (tickA ((wayA { l with free := true } 0 (tickA (({ l with free := true } : Lp).end_ 0)).1).end_ 1)).1 = quiet0 l := rfl
 rw [hq] at h2
 obtain ⟨e0, e1⟩ := quiet0_e l
 have hwire : (quiet0 l).free = true ∧ (∀ q ∈ (tickA l.e0).1, (⟨1, q⟩ : Tp) ∈ (quiet0 l).wire) ∧ (∀ q ∈ (tickA l.e1).1, (⟨0, q⟩ : Tp) ∈ (quiet0 l).wire) := by
  unfold quiet0
  simp only
  rw [way_eq, way_eq]
  unfold roomA
  simp only [if_true, List.take_length]
  exact ⟨trivial, fun q hq => List.mem_append_left _ (List.mem_append_right _ (List.mem_map.2 ⟨q, hq, rfl⟩)), fun q hq => List.mem_append_right _ (List.mem_map.2 ⟨q, hq, rfl⟩)⟩
 obtain ⟨l', hl'⟩ : ∃ l', quiet0 l = l' := ⟨_, rfl⟩
 rw [hl'] at h2 e0 e1 hwire ⊢
 have hT : ∀ i j, Two i j → ∀ q ∈ (tickA (l'.end_ i)).1, (⟨j, q⟩ : Tp) ∈ l'.wire := fun i j t2 q hq => by
  rcases t2.hi with rfl | rfl
  ·have : j = 1 := by have := t2.hj; omega
   subst this
   exact hwire.2.1 q (by rw [← e0]; exact hq)
  ·have : j = 0 := by have := t2.hj; omega
   subst this
   exact hwire.2.2 q (by rw [← e1]; exact hq)
 have hOn : ∀ i j, Two i j → ∀ (P : Pk → Prop) (q : Pk), q ∈ (tickA (l'.end_ j)).1 → P q → On l' i j P := fun i j t2 P q hq hP => ⟨_, hT j i t2.sw q hq, rfl, (((tick_ok (h2.ok.good j)).2 q hq).2), hP⟩
 have htk : ∀ i, (l'.end_ i).phase = 3 → (tickA (l'.end_ i)).1 = (freeIx 0 ((l'.end_ i).out.take (flyN (l'.end_ i)))).map (dataA (l'.end_ i)) ++ [reportA (l'.end_ i)] := fun i hp => by
  unfold tickA
  rw [h2.ok.good i]
  simp only [Bool.true_eq_false, if_false]
  rw [if_neg (by simpa using hp)]
 refine ⟨h2, hwire.1, fun i j t2 => ⟨?_, fun ho k hk => ?_, fun ho => ?_⟩⟩
 ·by_cases ho : Opn l' j i
  ·right; left
   exact hOn i j t2 _ (reportA (l'.end_ j)) (by rw [htk j ho.1]; simp) (by show (l'.end_ j).peer = _; exact ho.2)
  ·right; right
   refine ⟨ho, .inr ?_⟩
   have hne : ∃ q, q ∈ (tickA (l'.end_ j)).1 := by
    by_cases hp : (l'.end_ j).phase = 3
    ·exact ⟨reportA (l'.end_ j), by rw [htk j hp]; simp⟩
    ·refine ⟨helloA (l'.end_ j), ?_⟩
     unfold tickA
     rw [h2.ok.good j]
     simp only [Bool.true_eq_false, if_false]
     rw [if_pos hp]
     simp
   obtain ⟨q, hq⟩ := hne
   exact hOn i j t2 _ q hq trivial
 ·have hlen := (fly_le (l'.end_ i)).1
  obtain ⟨x, hx⟩ : ∃ x, (l'.end_ i).out[k]? = some x := ⟨_, List.getElem?_eq_getElem (by omega)⟩
  cases hh : x.h with
  | false =>
   left
   refine hOn j i t2.sw _ (dataA (l'.end_ i) k) ?_ ⟨rfl, ho.2, rfl⟩
   rw [htk i ho.1]
   refine List.mem_append_left _ (List.mem_map.2 ⟨k, ?_, rfl⟩)
   have := free_mem ((l'.end_ i).out.take (flyN (l'.end_ i))) 0 k x (by rw [List.getElem?_take, if_pos hk]; exact hx) hh
   rwa [Nat.zero_add] at this
  | true =>
   right
   have hg := (h2.cur i t2.hi ho.1).held k x hx hh
   rw [← t2.hj, ho.2] at hg
   have hoj := h2.opn t2.sw hg.1
   refine ⟨hoj, ?_⟩
   have := hg.2 rfl hoj.2
   have hwn := h2.wn t2.sw
   unfold Wn at hwn
   rw [if_pos hoj] at hwn
   rcases this with h3 | h3
   ·left; omega
   ·exact .inr h3
 ·by_cases hoj : Opn l' j i
  ·right
   refine hOn i j t2 _ (reportA (l'.end_ j)) (by rw [htk j hoj.1]; simp) ⟨by show (3 : Int) ≠ 1; omega, hoj.2, ?_⟩
   unfold Wn
   rw [if_pos hoj]
   rfl
  ·left
   have := h2.base_le t2 ho
   have hb := (good_iff.1 (h2.ok.good i)).base
   unfold Wn at this ⊢
   rw [if_neg hoj] at this ⊢
   omega
/-- What holds when nothing is under way. -/
structure Still (l : Lp) (i j : Int) : Prop where
 op : Opn l i j
 out : (l.end_ i).out = []
 inn : (l.end_ i).inn = []
 met : ∃ t u, tale l.tales i (l.end_ i).life (l.end_ i).peer = some t ∧ tale l.tales j (l.end_ i).peer (l.end_ i).life = some u ∧ t.taken = u.sent ∧ (l.end_ i).want = (t.taken.length : Int) ∧ (l.end_ i).base = (t.sent.length : Int)
 eq : (l.end_ i).base = (l.end_ j).want
theorem still_of {l : Lp} (h : QL l) (hw : l.wire = []) {i j : Int} (t2 : Two i j) : Still l i j := by
 have hno : ∀ i j (P : Pk → Prop), ¬ On l i j P := fun i j P ⟨x, hx, _⟩ => by rw [hw] at hx; cases hx
 have hop : ∀ i j, Two i j → Opn l i j := fun i j t2 => by
  rcases (h.qt i j t2).op with h3 | h3 | ⟨_, h4 | h4⟩
  ·exact h3
  ·exact absurd h3 (hno _ _ _)
  ·exact absurd h4 (hno _ _ _)
  ·exact absurd h4 (hno _ _ _)
 have hbase : ∀ i j, Two i j → (l.end_ i).base = (l.end_ j).want := fun i j t2 => by
  rcases (h.qt i j t2).ack (hop i j t2) with h3 | h3
  ·unfold Wn at h3
   rw [if_pos (hop j i t2.sw)] at h3
   exact h3
  ·exact absurd h3 (hno _ _ _)
 have hfly : ∀ i j, Two i j → flyN (l.end_ i) = 0 := fun i j t2 => by
  by_cases hz : flyN (l.end_ i) = 0
  ·exact hz
  ·rcases (h.qt i j t2).dat (hop i j t2) 0 (by omega) with h3 | h3
   ·exact absurd h3 (hno _ _ _)
   ·have hb := hbase i j t2
    rcases h3.2 with h4 | h4
    ·omega
    ·obtain ⟨x, hx, hxn⟩ := hasN_mem.1 h4
     have := (good_iff.1 (h.saf.ok.good j)).ins.1.gt x hx
     omega
 have ho := hop i j t2
 obtain ⟨k, t, _, _, _, _, _, a6, a7⟩ := h.saf.nowT t2.hi ho.1
 obtain ⟨k', u, _, _, _, _, _, b6, b7⟩ := h.saf.nowT t2.sw.hi (hop j i t2.sw).1
 have hci := h.saf.cur i t2.hi ho.1
 have hz := hfly i j t2
 have hzj := hfly j i t2.sw
 have hu : tale l.tales j (l.end_ i).peer (l.end_ i).life = some u := by
  have := (hop j i t2.sw).2
  rw [ho.2, ← this]
  exact b7
 have htk := hci.taken
 rw [takenOf_some a7] at htk
 have hpre := h.saf.pre' t2.sw (l.end_ j).life (l.end_ j).peer
 rw [sentOf_some b7, (hop j i t2.sw).2, ← ho.2, takenOf_some a7] at hpre
 have hbj := hbase j i t2.sw
 refine ⟨ho, ?_, ?_, ⟨t, u, a7, hu, ?_, htk.symm, by omega⟩, hbase i j t2⟩
 ·unfold flyN at hz
  rw [if_pos ho.1] at hz
  exact List.eq_nil_of_length_eq_zero (by omega)
 ·cases hin : (l.end_ i).inn with
  | nil => rfl
  | cons x m =>
   exfalso
   have hx := hci.inn x (by rw [hin]; exact List.mem_cons_self)
   rw [← t2.hj, sentOf_some hu] at hx
   have h1 := (List.getElem?_eq_some_iff.1 hx).1
   have h2 := (good_iff.1 (h.saf.ok.good i)).ins.1.gt x (by rw [hin]; exact List.mem_cons_self)
   have h3 := (good_iff.1 (h.saf.ok.good i)).want.1
   omega
 ·refine hpre.eq_of_length ?_
  omega
/-- The quiet round's end. -/
theorem quietN_ql (order : List Int) : ∀ (f n : Nat) (l r : Lp) (m : Nat), QL l → quietN order f n l = some (r, m) → QL r ∧ r.wire = [] ∧ n + l.wire.length ≤ m
 | f, n, l, r, m, h, hq => by
  by_cases h0 : l.wire.length = 0
  ·rw [quietN_end order h0] at hq
   injection hq with hq
   injection hq with h1 h2
   subst h1 h2
   exact ⟨h, List.eq_nil_of_length_eq_zero h0, by omega⟩
  ·cases f with
   | zero =>
    unfold quietN at hq
    rw [if_neg h0] at hq
    cases hq
   | succ f =>
    rw [quietN_step order h0] at hq
    have hk := next_lt order n (len := l.wire.length) (by omega)
    have ih := quietN_ql order f (n + 1) _ r m (h.carry hk) hq
    refine ⟨ih.1, ih.2.1, ?_⟩
    have hlen : l.wire.length ≤ (carryA l (nextK order n l.wire.length)).wire.length + 1 := by
     obtain ⟨x, hx⟩ : ∃ x, l.wire[nextK order n l.wire.length]? = some x := ⟨_, List.getElem?_eq_getElem hk⟩
     have hb := fun (L : Lp) (e : En) => becomes_e L x.to e
     have hw : (takenL { l with wire := l.wire.eraseIdx (nextK order n l.wire.length) } x.to x.p).wire = l.wire.eraseIdx (nextK order n l.wire.length) := by
      unfold takenL tellB lostL
      simp only
      split <;> split <;> simp only [(hb _ _).2.2.1]
     rw [carry_way hx, way_eq]
     show _ ≤ ((takenL _ _ _).wire ++ _).length + 1
     rw [hw, List.length_append, List.length_eraseIdx, if_pos hk]
     omega
    omega
theorem quiet0_len {l : Lp} (h : Saf l) : 2 ≤ (quiet0 l).wire.length := by
 have hne : ∀ e : En, goodB e = true → 1 ≤ (tickA e).1.length := fun e hg => by
  unfold tickA
  rw [hg]
  simp only [Bool.true_eq_false, if_false]
  split <;> simp
 have h0 := hne _ h.ok.g0
 have h1 := hne _ h.ok.g1
 unfold quiet0
 simp only
 rw [way_eq, way_eq]
 unfold roomA
 simp only [if_true, List.take_length, List.length_append, List.length_map]
 omega
/-- Quiet answers a line at rest. -/
theorem quiet_rest {ds : List Dd} {order : List Int} (h : (playedA ds).2 = 0) (ho : order.length ≤ 200) : ∃ r m, quietA ds order = (showA r, m, 0) ∧ QL r ∧ r.wire = [] ∧ (2 : Int) ≤ m := by
 have hs := played_saf h
 have hq := quiet0_ql hs
 obtain ⟨r, m, e1, _, _⟩ := quiet_ends order (mes (quiet0 (playedA ds).1)) 0 (quiet0 (playedA ds).1) hq.saf.ok (Nat.le_refl _)
 obtain ⟨f1, f2, f3⟩ := quietN_ql order _ 0 _ r m hq e1
 have := quiet0_len hs
 refine ⟨r, m, ?_, f1, f2, by omega⟩
 unfold quietA
 rw [if_neg (by omega), if_neg (by rw [h]; simp), e1]
end Go.Proofs.YtejabnoidhlfaaaDoor
