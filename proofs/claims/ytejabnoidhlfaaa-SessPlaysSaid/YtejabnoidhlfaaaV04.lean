/- Contracts and lemmas that the claim uses. -/
import Derived.Test.YtejabnoidhlfaaaV03
import Derived.Laws.AppendOwnNone
set_option maxRecDepth 100000
set_option maxHeartbeats 16000000
namespace Go.Proofs.Ytejabnoidhlfaaa
def roomA (l : Lp) (n : Nat) : Nat := if l.free = true then n else 60 - l.wire.length
theorem way_eq (frm : Int) : ∀ (ps : List Pk) (l : Lp), wayA l frm ps = { l with wire := l.wire ++ (ps.take (roomA l ps.length)).map fun p => ⟨1 - frm, p⟩ }
 | [], l => by simp [wayA]
 | p :: ps, l => by
  rw [wayA, way_eq frm ps]; unfold roomA; by_cases h : l.free = true ∨ l.wire.length < 60
  ·rw [if_pos h]; simp only; cases hf : l.free with
   | true => simp
   | false =>
    have hlt : l.wire.length < 60 := by
     rcases h with h | h
     ·rw [hf] at h; cases h
     ·exact h
    simp only [Bool.false_eq_true, if_false, List.length_append, List.length_cons, List.length_nil]; rw [show 60 - l.wire.length = (60 - (l.wire.length + (0 + 1))) + 1 by omega, List.take_succ_cons, List.map_cons, List.append_assoc]; rfl
  ·rw [if_neg h]; have hf : l.free = false := by cases hf : l.free with
    | true => exact absurd (.inl hf) h
    | false => rfl
   have hge : 60 - l.wire.length = 0 := by omega
   rw [hf]; simp [hge]
theorem becomes_e (l : Lp) (i : Int) (e : En) : (becomesA l i e).e0 = (l.setEnd i e).e0 ∧ (becomesA l i e).e1 = (l.setEnd i e).e1 ∧ (becomesA l i e).wire = l.wire ∧ (becomesA l i e).free = l.free := by
 unfold becomesA Lp.setEnd Lp.setNow; simp only; split <;> split <;> (try split) <;> exact ⟨rfl, rfl, rfl, rfl⟩
theorem tell_e (l : Lp) (i : Int) (e : En) (g : Gn) : (tellA l i e g).e0 = (l.setEnd i e).e0 ∧ (tellA l i e g).e1 = (l.setEnd i e).e1 ∧ (tellA l i e g).free = l.free ∧ (tellA l i e g).wire = l.wire ++ (g.packets.take (roomA l g.packets.length)).map fun p => ⟨1 - i, p⟩ := by
 have hb := becomes_e l i e; unfold tellA; simp only; rw [way_eq]; split
 ·simp only; refine ⟨hb.1, hb.2.1, hb.2.2.2, ?_⟩; unfold roomA; simp only [hb.2.2.1, hb.2.2.2]
 ·refine ⟨hb.1, hb.2.1, hb.2.2.2, ?_⟩; unfold roomA; simp only [hb.2.2.1, hb.2.2.2]
def TripOk (L0 L1 : Int) (x : Tp) : Prop := properB x.p = true ∧ ((x.to = 0 ∧ x.p.frm ≤ L1) ∨ (x.to = 1 ∧ x.p.frm ≤ L0))
structure LineOk (l : Lp) : Prop where
 g0 : goodB l.e0 = true
 g1 : goodB l.e1 = true
 p0 : l.e0.peer ≤ l.e1.life
 p1 : l.e1.peer ≤ l.e0.life
 wire : ∀ x ∈ l.wire, TripOk l.e0.life l.e1.life x
def tw (L0 L1 : Int) (x : Tp) : Nat := if x.to = 0 then pw L0 L1 x.p else pw L1 L0 x.p
def tws (L0 L1 : Int) (l : List Tp) : Nat := (l.map (tw L0 L1)).sum
def mes (l : Lp) : Nat := tws l.e0.life l.e1.life l.wire + pot l.e1.life l.e0 + pot l.e0.life l.e1
theorem tws_app (L0 L1 : Int) (a b : List Tp) : tws L0 L1 (a ++ b) = tws L0 L1 a + tws L0 L1 b := by simp [tws]
theorem tws_erase (L0 L1 : Int) : ∀ (l : List Tp) (k : Nat) (x : Tp), l[k]? = some x → tws L0 L1 (l.eraseIdx k) + tw L0 L1 x = tws L0 L1 l
 | [], k, x, h => by simp at h
 | y :: l, 0, x, h => by
  simp at h; subst h; simp [tws]; omega
 | y :: l, k + 1, x, h => by
  have ih := tws_erase L0 L1 l k x (by simpa using h); unfold tws at ih ⊢; rw [List.eraseIdx_cons_succ, List.map_cons, List.map_cons, List.sum_cons, List.sum_cons]; omega
theorem tws_to0 (L0 L1 : Int) (l : List Pk) : tws L0 L1 (l.map fun p => ⟨1 - 1, p⟩) = pws L0 L1 l := by
 unfold tws pws; rw [List.map_map]; congr 1
theorem tws_to1 (L0 L1 : Int) (l : List Pk) : tws L0 L1 (l.map fun p => ⟨1 - 0, p⟩) = pws L1 L0 l := by
 unfold tws pws; rw [List.map_map]; congr 1
theorem carry_less {l : Lp} (h : LineOk l) {k : Nat} (hk : k < l.wire.length) : LineOk (carryA l k) ∧ mes (carryA l k) < mes l ∧ (carryA l k).free = l.free ∧ (carryA l k).e0.life = l.e0.life ∧ (carryA l k).e1.life = l.e1.life := by
 have hx : l.wire[k]? = some l.wire[k] := List.getElem?_eq_getElem hk; generalize l.wire[k] = x at hx; have hxm := List.mem_of_getElem? hx; have ht := h.wire x hxm; have he := tws_erase l.e0.life l.e1.life l.wire k x hx; have hsub : ∀ y, y ∈ l.wire.eraseIdx k → y ∈ l.wire := fun y hy => List.mem_of_mem_eraseIdx hy; obtain ⟨hpr, ht⟩ := ht; have gen : ∀ (l1 : Lp), l1.e0 = l.e0 → l1.e1 = l.e1 → l1.wire = l.wire.eraseIdx k → l1.free = l.free →
   LineOk (tellA l1 x.to (takeA (l1.end_ x.to) x.p).1 (takeA (l1.end_ x.to) x.p).2.1) ∧ mes (tellA l1 x.to (takeA (l1.end_ x.to) x.p).1 (takeA (l1.end_ x.to) x.p).2.1) < mes l ∧ (tellA l1 x.to (takeA (l1.end_ x.to) x.p).1 (takeA (l1.end_ x.to) x.p).2.1).free = l.free ∧
   (tellA l1 x.to (takeA (l1.end_ x.to) x.p).1 (takeA (l1.end_ x.to) x.p).2.1).e0.life = l.e0.life ∧ (tellA l1 x.to (takeA (l1.end_ x.to) x.p).1 (takeA (l1.end_ x.to) x.p).2.1).e1.life = l.e1.life := by
  intro l1 q0 q1 qw qf; obtain ⟨t0, t1, tf, tw'⟩ := tell_e l1 x.to (takeA (l1.end_ x.to) x.p).1 (takeA (l1.end_ x.to) x.p).2.1; rcases ht with ⟨hto, hfr⟩ | ⟨hto, hfr⟩
  ·have eE : l1.end_ x.to = l.e0 := by unfold Lp.end_; rw [if_pos hto, q0]
   rw [eE] at t0 t1 tf tw' ⊢; obtain ⟨w1, w2, w3, w4, w5⟩ := take_weight h.g0 hpr hfr h.p0; have s0 : (l1.setEnd x.to (takeA l.e0 x.p).1).e0 = (takeA l.e0 x.p).1 := by unfold Lp.setEnd; rw [if_pos hto]
   have s1 : (l1.setEnd x.to (takeA l.e0 x.p).1).e1 = l.e1 := by unfold Lp.setEnd; rw [if_pos hto]; exact q1
   rw [s0] at t0; rw [s1] at t1; rw [qw, show (fun p => (⟨1 - x.to, p⟩ : Tp)) = fun p => ⟨1 - 0, p⟩ by rw [hto]] at tw'; refine ⟨⟨by rw [t0]; exact take_good h.g0 hpr, by rw [t1]; exact h.g1, by rw [t0, t1]; exact w2, by rw [t0, t1, w1]; exact h.p1, fun y hy => ?_⟩, ?_, by rw [tf, qf], by rw [t0, w1], by rw [t1]⟩
   ·rw [tw'] at hy; rw [t0, t1, w1]; rcases List.mem_append.1 hy with hy | hy
    ·exact h.wire y (hsub y hy)
    ·obtain ⟨q, hq, rfl⟩ := List.mem_map.1 hy; obtain ⟨v1, v2⟩ := w4 q (List.mem_of_mem_take hq); exact ⟨v1, .inr ⟨by simp, by show q.frm ≤ _; rw [v2]; exact Int.le_refl _⟩⟩
   ·unfold mes; rw [t0, t1, tw', w1, tws_app, tws_to1]; have hle : pws l.e1.life l.e0.life ((takeA l.e0 x.p).2.1.packets.take (roomA l1 (takeA l.e0 x.p).2.1.packets.length)) ≤ pws l.e1.life l.e0.life (takeA l.e0 x.p).2.1.packets := by
     have := pws_app l.e1.life l.e0.life ((takeA l.e0 x.p).2.1.packets.take (roomA l1 (takeA l.e0 x.p).2.1.packets.length)) ((takeA l.e0 x.p).2.1.packets.drop (roomA l1 (takeA l.e0 x.p).2.1.packets.length)); rw [List.take_append_drop] at this; omega
    have htw : tw l.e0.life l.e1.life x = pw l.e0.life l.e1.life x.p := by unfold tw; rw [if_pos hto]
    omega
  ·have hn0 : ¬ x.to = 0 := by omega
   have eE : l1.end_ x.to = l.e1 := by unfold Lp.end_; rw [if_neg hn0, q1]
   rw [eE] at t0 t1 tf tw' ⊢; obtain ⟨w1, w2, w3, w4, w5⟩ := take_weight h.g1 hpr hfr h.p1; have s0 : (l1.setEnd x.to (takeA l.e1 x.p).1).e0 = l.e0 := by unfold Lp.setEnd; rw [if_neg hn0]; exact q0
   have s1 : (l1.setEnd x.to (takeA l.e1 x.p).1).e1 = (takeA l.e1 x.p).1 := by unfold Lp.setEnd; rw [if_neg hn0]
   rw [s0] at t0; rw [s1] at t1; rw [qw, show (fun p => (⟨1 - x.to, p⟩ : Tp)) = fun p => ⟨1 - 1, p⟩ by rw [hto]] at tw'; refine ⟨⟨by rw [t0]; exact h.g0, by rw [t1]; exact take_good h.g1 hpr, by rw [t0, t1, w1]; exact h.p0, by rw [t0, t1]; exact w2, fun y hy => ?_⟩, ?_, by rw [tf, qf], by rw [t0], by rw [t1, w1]⟩
   ·rw [tw'] at hy; rw [t0, t1, w1]; rcases List.mem_append.1 hy with hy | hy
    ·exact h.wire y (hsub y hy)
    ·obtain ⟨q, hq, rfl⟩ := List.mem_map.1 hy; obtain ⟨v1, v2⟩ := w4 q (List.mem_of_mem_take hq); exact ⟨v1, .inl ⟨by simp, by show q.frm ≤ _; rw [v2]; exact Int.le_refl _⟩⟩
   ·unfold mes; rw [t0, t1, tw', w1, tws_app, tws_to0]; have hle : pws l.e0.life l.e1.life ((takeA l.e1 x.p).2.1.packets.take (roomA l1 (takeA l.e1 x.p).2.1.packets.length)) ≤ pws l.e0.life l.e1.life (takeA l.e1 x.p).2.1.packets := by
     have := pws_app l.e0.life l.e1.life ((takeA l.e1 x.p).2.1.packets.take (roomA l1 (takeA l.e1 x.p).2.1.packets.length)) ((takeA l.e1 x.p).2.1.packets.drop (roomA l1 (takeA l.e1 x.p).2.1.packets.length)); rw [List.take_append_drop] at this; omega
    have htw : tw l.e0.life l.e1.life x = pw l.e1.life l.e0.life x.p := by unfold tw; rw [if_neg hn0]
    omega
 unfold carryA; rw [hx]; simp only; split
 ·exact gen _ rfl rfl rfl rfl
 ·exact gen _ rfl rfl rfl rfl
theorem fly_snoc (e : En) (x : Ou) : flyN { e with out := e.out ++ [x] } = if e.phase = 3 then min (e.out.length + 1) 4 else 0 := by
 unfold flyN; simp
theorem send_ok {e : En} {t : ByteArray} (h : goodB e = true) (hs : (sendA e t).2.2 = 0) : (sendA e t).1 = { e with out := e.out ++ [⟨t, false⟩] } ∧ goodB (sendA e t).1 = true ∧ (∀ q ∈ (sendA e t).2.1, properB q = true ∧ q.frm = e.life) := by
 have hG := good_iff.1 h; unfold sendA at hs ⊢; rw [h] at hs ⊢; simp only [Bool.true_eq_false, if_false] at hs ⊢; split at hs
 ·simp at hs
 ·rename_i hc; rw [if_neg hc]; have hl := hG.len; have hr := hG.room; have hg : GoodP { e with out := e.out ++ [⟨t, false⟩] } := by
   refine ⟨hG.life, hG.peer, hG.base, hG.want, by simp; omega, by simp only [List.length_append, List.length_cons, List.length_nil]; push_cast; omega, fun j x hx => ?_, hG.op, hG.cl⟩; have hx' : (e.out ++ [(⟨t, false⟩ : Ou)])[j]? = some x := hx; by_cases hj : j < e.out.length
   ·rw [List.getElem?_append_left hj] at hx'; have := hG.outs j x hx'; refine ⟨this.1, fun hh => ?_⟩; have h2 := this.2 hh; refine ⟨h2.1, ?_⟩; rw [fly_snoc]; unfold flyN at h2; split at h2
    ·rename_i hp; rw [if_pos hp]; omega
    ·omega
   ·rw [List.getElem?_append_right (by omega)] at hx'; have hj2 := (List.getElem?_eq_some_iff.1 hx').1; simp at hj2; have : j - e.out.length = 0 := by omega
    rw [this] at hx'; simp at hx'; subst hx'; exact ⟨by show t.size ≤ 20; omega, fun hh => by cases hh⟩
  refine ⟨rfl, good_iff.2 hg, fun q hq => ?_⟩; obtain ⟨j, _, hj, rfl⟩ := fromA_mem hq; have hp : e.phase = 3 := by
   rw [fly_snoc] at hj; by_cases hp : e.phase = 3
   ·exact hp
   ·rw [if_neg hp] at hj; omega
  exact ⟨data_proper hg hp hj, rfl⟩
theorem start_good {life : Int} (h1 : 1 ≤ life) (h2 : life ≤ most) : goodB (⟨life, 0, 1, 0, [], 0, []⟩ : En) = true := by
 refine good_iff.2 ⟨⟨h1, h2⟩, ⟨Int.le_refl _, by show (0 : Int) ≤ most; unfold most; omega⟩, Int.le_refl _, ⟨Int.le_refl _, by show (0 : Int) ≤ most; unfold most; omega⟩, by simp, by show (0 : Int) + ((0 : Nat) : Int) ≤ most; unfold most; omega, fun j x hx => by simp at hx, fun hp => by simp at hp, fun _ => ⟨rfl, rfl, rfl, .inl ⟨rfl, rfl⟩⟩⟩
theorem again_ok {e : En} (h : goodB e = true) (hs : (againA e).2 = 0) : (againA e).1 = ⟨e.life + 1, 0, 1, 0, [], 0, []⟩ ∧ goodB (againA e).1 = true := by
 have hG := good_iff.1 h; unfold againA at hs ⊢; rw [h] at hs ⊢; simp only [Bool.true_eq_false, if_false] at hs ⊢; split at hs
 ·simp at hs
 ·rename_i hc; rw [if_neg hc]; have h1 : 1 ≤ e.life + 1 ∧ e.life + 1 ≤ most := by have := hG.life; omega
  unfold startA; rw [if_pos h1]; exact ⟨rfl, start_good h1.1 h1.2⟩
theorem freeIx_lt : ∀ (l : List Ou) (i j : Nat), j ∈ freeIx i l → i ≤ j ∧ j < i + l.length
 | [], i, j, h => by cases h
 | x :: l, i, j, h => by
  rw [freeIx] at h; simp only [List.length_cons]; split at h
  ·have := freeIx_lt l (i + 1) j h; omega
  ·rcases List.mem_cons.1 h with e | h
   ·omega
   ·have := freeIx_lt l (i + 1) j h; omega
theorem tick_ok {e : En} (h : goodB e = true) : (tickA e).2 = 0 ∧ ∀ q ∈ (tickA e).1, properB q = true ∧ q.frm = e.life := by
 have hG := good_iff.1 h; unfold tickA; rw [h]; simp only [Bool.true_eq_false, if_false]; by_cases hp : e.phase = 3
 ·rw [if_neg (by simpa using hp)]; refine ⟨rfl, fun q hq => ?_⟩; rcases List.mem_append.1 hq with hq | hq
  ·obtain ⟨j, hj, rfl⟩ := List.mem_map.1 hq; have := freeIx_lt _ _ _ hj; rw [List.length_take] at this; exact ⟨data_proper hG hp (by omega), rfl⟩
  ·simp at hq; subst hq; exact ⟨report_proper hG (hG.op hp).1, rfl⟩
 ·rw [if_pos hp]; refine ⟨rfl, fun q hq => ?_⟩; simp at hq; subst hq; exact ⟨hello_proper hG, rfl⟩
theorem first_ok : LineOk firstA := by
 have hs : goodB startE = true := start_good (by omega) (by unfold most; omega); exact ⟨hs, hs, by show (0 : Int) ≤ 1; omega, by show (0 : Int) ≤ 1; omega, fun x hx => by cases hx⟩
theorem TripOk.mono {a b a' b' : Int} {x : Tp} (h : TripOk a b x) (h1 : a ≤ a') (h2 : b ≤ b') : TripOk a' b' x := by
 refine ⟨h.1, ?_⟩; rcases h.2 with h | h
 ·exact .inl ⟨h.1, by omega⟩
 ·exact .inr ⟨h.1, by omega⟩
theorem way_ok {l : Lp} (h : LineOk l) {i : Int} (hi : i = 0 ∨ i = 1) {ps : List Pk} (hp : ∀ q ∈ ps, properB q = true ∧ q.frm = (l.end_ i).life) : LineOk (wayA l i ps) := by
 rw [way_eq]; refine ⟨h.g0, h.g1, h.p0, h.p1, fun y hy => ?_⟩; rcases List.mem_append.1 hy with hy | hy
 ·exact h.wire y hy
 ·obtain ⟨q, hq, rfl⟩ := List.mem_map.1 hy; obtain ⟨v1, v2⟩ := hp q (List.mem_of_mem_take hq); rcases hi with rfl | rfl
  ·exact ⟨v1, .inr ⟨by simp, by show q.frm ≤ _; rw [v2]; exact Int.le_refl _⟩⟩
  ·exact ⟨v1, .inl ⟨by simp, by show q.frm ≤ _; rw [v2]; exact Int.le_refl _⟩⟩
theorem becomes_ok {l : Lp} (h : LineOk l) {i : Int} (hi : i = 0 ∨ i = 1) {e : En} (hg : goodB e = true) (hl : (l.end_ i).life ≤ e.life) (hp : e.peer ≤ (l.end_ (1 - i)).life) : LineOk (becomesA l i e) := by
 obtain ⟨b0, b1, b2, _⟩ := becomes_e l i e; rcases hi with rfl | rfl
 ·have s0 : (l.setEnd 0 e).e0 = e := rfl; have s1 : (l.setEnd 0 e).e1 = l.e1 := rfl; rw [s0] at b0; rw [s1] at b1; have hl' : l.e0.life ≤ e.life := hl; have hp' : e.peer ≤ l.e1.life := hp; exact ⟨by rw [b0]; exact hg, by rw [b1]; exact h.g1, by rw [b0, b1]; exact hp', by rw [b0, b1]; have := h.p1; omega, fun x hx => by rw [b2] at hx; rw [b0, b1]; exact (h.wire x hx).mono hl' (Int.le_refl _)⟩
 ·have s0 : (l.setEnd 1 e).e0 = l.e0 := rfl; have s1 : (l.setEnd 1 e).e1 = e := rfl; rw [s0] at b0; rw [s1] at b1; have hl' : l.e1.life ≤ e.life := hl; have hp' : e.peer ≤ l.e0.life := hp; exact ⟨by rw [b0]; exact h.g0, by rw [b1]; exact hg, by rw [b0, b1]; have := h.p0; omega, by rw [b0, b1]; exact hp', fun x hx => by rw [b2] at hx; rw [b0, b1]; exact (h.wire x hx).mono (Int.le_refl _) hl'⟩
theorem LineOk.good {l : Lp} (h : LineOk l) (i : Int) : goodB (l.end_ i) = true := by
 unfold Lp.end_; split
 ·exact h.g0
 ·exact h.g1
theorem LineOk.peer {l : Lp} (h : LineOk l) {i : Int} (hi : i = 0 ∨ i = 1) : (l.end_ i).peer ≤ (l.end_ (1 - i)).life := by
 rcases hi with rfl | rfl
 ·exact h.p0
 ·exact h.p1
theorem becomes_end {l : Lp} {i : Int} (hi : i = 0 ∨ i = 1) (e : En) : (becomesA l i e).end_ i = e := by
 obtain ⟨b0, b1, _⟩ := becomes_e l i e; rcases hi with rfl | rfl
 ·unfold Lp.end_; rw [if_pos rfl, b0]; rfl
 ·unfold Lp.end_; rw [if_neg (by omega), b1]; rfl
theorem deed_end {d : Dd} (h : deedB d = true) : d.end_ = 0 ∨ d.end_ = 1 := by
 unfold deedB at h; split at h
 ·simp only [Bool.and_eq_true, decide_eq_true_eq] at h; exact h.1.1
 ·split at h
  ·simp only [Bool.and_eq_true, decide_eq_true_eq] at h; exact h.1.1
  ·split at h
   ·simp only [Bool.and_eq_true, decide_eq_true_eq] at h; exact .inl h.1.1
   ·cases h
theorem does_ok {l : Lp} (h : LineOk l) {d : Dd} (hd : deedB d = true) : LineOk (doesA l d) := by
 have hi := deed_end hd; unfold doesA; simp only; split
 ·split
  ·rename_i hs; obtain ⟨s1, s2, s3⟩ := send_ok (h.good d.end_) hs; have hb : LineOk (becomesA l d.end_ (sendA (l.end_ d.end_) d.t).1) := becomes_ok h hi s2 (by rw [s1]; exact Int.le_refl _) (by rw [s1]; exact h.peer hi); refine way_ok hb hi (fun q hq => ?_); rw [becomes_end hi, s1]; exact s3 q hq
  ·exact h
 ·split
  ·exact way_ok h hi (tick_ok (h.good d.end_)).2
  ·split
   ·split
    ·rename_i hs; obtain ⟨s1, s2⟩ := again_ok (h.good d.end_) hs; refine becomes_ok h hi s2 (by rw [s1]; show _ ≤ (l.end_ d.end_).life + 1; omega) ?_; rw [s1]; show (0 : Int) ≤ _; have := (good_iff.1 (h.good (1 - d.end_))).life.1; omega
    ·exact h
   ·split
    ·exact h
    ·rename_i hw; split
     ·refine (carry_less h ?_).1; have h2 := Int.emod_lt_of_pos d.at_ (show (0 : Int) < (l.wire.length : Int) by omega); have h1 := Int.emod_nonneg d.at_ (show (l.wire.length : Int) ≠ 0 by omega); omega
     ·split
      ·exact ⟨h.g0, h.g1, h.p0, h.p1, fun x hx => h.wire x (List.mem_of_mem_eraseIdx hx)⟩
      ·split
       ·exact h
       ·rename_i x hx; have hxm := List.mem_of_getElem? hx; have ht := h.wire x hxm; rw [way_eq]; refine ⟨h.g0, h.g1, h.p0, h.p1, fun y hy => ?_⟩; rcases List.mem_append.1 hy with hy | hy
        ·exact h.wire y hy
        ·obtain ⟨q, hq, rfl⟩ := List.mem_map.1 hy; have hq' := List.mem_of_mem_take hq; simp at hq'; subst hq'; have e1 : (1 : Int) - (1 - x.to) = x.to := by omega
         rw [e1]; exact ht
end Go.Proofs.Ytejabnoidhlfaaa
namespace Go.Proofs.Ytejabnoidhlfaaa
open Go.RowKit Go.Maps
theorem own_fits {w : World} {base size n : Nat} {e : TypeId} {v : Value} {xs : List Value} (h : w.ownsRow base e size v n xs) : ∃ A c, v = .slice A n c := by
 rcases h.2 with ⟨rfl, rfl⟩ | ⟨g, cap, cur, rfl, _⟩
 ·exact ⟨_, _, rfl⟩
 ·exact ⟨_, _, rfl⟩
theorem blk_ne {w : World} {b b' : Nat} {cs cs' : Array Value} {t t' : TypeId} (h : Blk w b (.cells cs t)) (h' : Blk w b' (.cells cs' t')) (hne : t ≠ t') : b ≠ b' := by
 rintro rfl; unfold Blk at h h'; rw [h] at h'; injection h' with h'; injection h' with _ ht; exact hne ht
theorem results_ct {P : Program} {fn : Func} {tmps : Array Value} {w : World} {a b : Tmp} {t : TypeId} {p : Addr} {v u : Value} (h : fn.results = #[.cell a t, .tmp b]) (ha : tmps.getD a undef = .pointer (some p)) (hb : tmps.getD b undef = u) (hl : (loadVar t p).run P w = .ok v w) :
  (results fn tmps).run P w = .ok (.tuple #[v, u]) w := by
 simp only [Array.getD_eq_getD_getElem?] at ha hb; simp [results, h, ha, hl, hb, asAddr, Result.andThen]
theorem results_c {P : Program} {fn : Func} {tmps : Array Value} {w : World} {a : Tmp} {t : TypeId} {p : Addr} {v : Value} (h : fn.results = #[.cell a t]) (ha : tmps.getD a undef = .pointer (some p)) (hl : (loadVar t p).run P w = .ok v w) :
  (results fn tmps).run P w = .ok v w := by
 simp only [Array.getD_eq_getD_getElem?] at ha; simp [results, h, ha, hl, asAddr]
theorem cell_frame {S : Nat → Prop} {W w' : World} (hF : Frame S W w') {b i : Nat} (hb : b < W.heap.size) (hn : ¬ S b) {v : Value} (hc : W.cell? ⟨b, i, none⟩ = some v) : w'.cell? ⟨b, i, none⟩ = some v :=
 (World.cell?_of_block (w := W) (w' := w') (a := ⟨b, i, none⟩) (hF.block b hb hn)).trans hc
theorem below_in {W A B : World} (h : Below W.heap.size W A) (k : Below A.heap.size A B) : Below W.heap.size W B := h.trans (k.mono h.size)
theorem p2_wrap {n : Int} (h0 : 0 ≤ n) (h1 : n ≤ 62) : wrap64 (2 ^ n.toNat) = 2 ^ n.toNat := by
 have h : (2 : Nat) ^ n.toNat ≤ 2 ^ 62 := Nat.pow_le_pow_right (by decide) (by omega); have h' : (2 : Int) ^ n.toNat = ((2 ^ n.toNat : Nat) : Int) := by simp
 rw [h']; generalize (2 : Nat) ^ n.toNat = z at h; exact IntWalk.wrap64_in _ ⟨by omega, by omega⟩
theorem rInt : ElemRow Try.prog 53 3 1 8 := ElemRow.mk' (z := .int .i64 0) Try.underlying53 (by kernel_rfl) rfl (by decide) (by decide)
theorem szInt : (Try.prog.info? 3).map (·.size) = some 1 := rInt.size_eq
theorem drop_of {α : Type} {l : List α} {k : Nat} {x : α} (h : l[k]? = some x) : l.drop k = x :: l.drop (k + 1) := by
 obtain ⟨hk, rfl⟩ := List.getElem?_eq_some_iff.1 h; exact List.drop_eq_getElem_cons hk
theorem Cells.lt {w : World} {A : Option Addr} {cs : List Value} (h : Cells w A cs) (hn : cs ≠ []) {a : Addr} (ha : A = some a) : a.block < w.heap.size := by
 obtain ⟨_, b, off, _, hA, _⟩ := h; obtain ⟨rfl, hb⟩ := hA hn; injection ha with ha; subst ha; exact hb
end Go.Proofs.Ytejabnoidhlfaaa
namespace Go.Proofs.Ytejabnoidhlfaaa
open Go.RowKit
section
variable {P : Program} {ops : Array Oper} {md : Region.Mode} {I : World → Prop} {Q : Act → World → Prop}
end
end Go.Proofs.Ytejabnoidhlfaaa
namespace Go.Proofs.Ytejabnoidhlfaaa
open Go.RowKit Go.Maps
def ouC (x : Ou) : List Value := [.string x.t, .bool x.h]
def imC (x : Im) : List Value := [.int .i64 x.n, .string x.t]
def pkC (p : Pk) : List Value := [.int .i64 p.kind, .int .i64 p.frm, .int .i64 p.to, .int .i64 p.num, .string p.t, .int .i64 p.ack, .int .i64 p.held]
def stC (s : ByteArray) : List Value := [.string s]
def ous (l : List Ou) : List Value := l.flatMap ouC
def ims (l : List Im) : List Value := l.flatMap imC
def pks (l : List Pk) : List Value := l.flatMap pkC
def strs (l : List ByteArray) : List Value := l.flatMap stC
theorem ouC_len : ∀ x, (ouC x).length = 2 := fun _ => rfl
theorem imC_len : ∀ x, (imC x).length = 2 := fun _ => rfl
theorem pkC_len : ∀ x, (pkC x).length = 7 := fun _ => rfl
theorem stC_len : ∀ x, (stC x).length = 1 := fun _ => rfl
def pkV (p : Pk) : Value := .agg #[.int .i64 p.kind, .int .i64 p.frm, .int .i64 p.to, .int .i64 p.num, .string p.t, .int .i64 p.ack, .int .i64 p.held]
def enV (e : En) (A : Option Addr) (c : Nat) (B : Option Addr) (d : Nat) : Value := .agg #[.int .i64 e.life, .int .i64 e.peer, .int .i64 e.phase, .int .i64 e.base, .slice A e.out.length c, .int .i64 e.want, .slice B e.inn.length d]
structure EnAt (w : World) (e : En) (A B : Option Addr) : Prop where
 out : Cells w A (ous e.out)
 inn : Cells w B (ims e.inn)
theorem EnAt.below {w w' : World} {e : En} {A B : Option Addr} (h : EnAt w e A B) (hB : Below w.heap.size w w') : EnAt w' e A B := ⟨h.out.below hB (Nat.le_refl _), h.inn.below hB (Nat.le_refl _)⟩
theorem rOu : ElemRow Try.prog 23 71 2 24 := ElemRow.mk' (z := .agg #[.string ByteArray.empty, .bool false]) Try.underlying23 (by kernel_rfl) rfl (by decide) (by decide)
theorem rIm : ElemRow Try.prog 24 73 2 24 := ElemRow.mk' (z := .agg #[.int .i64 0, .string ByteArray.empty]) Try.underlying24 (by kernel_rfl) rfl (by decide) (by decide)
theorem rPk : ElemRow Try.prog 35 44 7 64 := ElemRow.mk' (z := .agg #[.int .i64 0, .int .i64 0, .int .i64 0, .int .i64 0, .string ByteArray.empty, .int .i64 0, .int .i64 0]) Try.underlying35 (by kernel_rfl) rfl (by decide) (by decide)
theorem rSt : ElemRow Try.prog 45 9 1 16 := ElemRow.mk' (z := .string ByteArray.empty) Try.underlying45 (by kernel_rfl) rfl (by decide) (by decide)
theorem ou_at {w : World} {A : Option Addr} {l : List Ou} {c k : Nat} (h : Cells w A (ous l)) (hk : k < l.length) : ∃ x b o, l[k]? = some x ∧ b < w.heap.size ∧ (∀ w', (Instr.indexAt 23 (.slice A l.length c) (.int .i64 (k : Int))).run Try.prog w' = .ok (.pointer (some ⟨b, o, none⟩)) w') ∧
  w.cell? ⟨b, o, none⟩ = some (.string x.t) ∧ w.cell? ⟨b, o + 1, none⟩ = some (.bool x.h) := by
 obtain ⟨x, b, o, hx, hb, hix, hc⟩ := flat_at (c := c) h ouC_len Try.underlying23 rOu.size_eq (by decide) hk; exact ⟨x, b, o, hx, hb, hix, hc 0 _ rfl, hc 1 _ rfl⟩
theorem im_at {w : World} {A : Option Addr} {l : List Im} {c k : Nat} (h : Cells w A (ims l)) (hk : k < l.length) : ∃ x b o, l[k]? = some x ∧ b < w.heap.size ∧ (∀ w', (Instr.indexAt 24 (.slice A l.length c) (.int .i64 (k : Int))).run Try.prog w' = .ok (.pointer (some ⟨b, o, none⟩)) w') ∧
  w.cell? ⟨b, o, none⟩ = some (.int .i64 x.n) ∧ w.cell? ⟨b, o + 1, none⟩ = some (.string x.t) := by
 obtain ⟨x, b, o, hx, hb, hix, hc⟩ := flat_at (c := c) h imC_len Try.underlying24 rIm.size_eq (by decide) hk; exact ⟨x, b, o, hx, hb, hix, hc 0 _ rfl, hc 1 _ rfl⟩
theorem pk_at {w : World} {A : Option Addr} {l : List Pk} {c k : Nat} (h : Cells w A (pks l)) (hk : k < l.length) : ∃ x b o, l[k]? = some x ∧ b < w.heap.size ∧ (∀ w', (Instr.indexAt 35 (.slice A l.length c) (.int .i64 (k : Int))).run Try.prog w' = .ok (.pointer (some ⟨b, o, none⟩)) w') ∧
  w.cell? ⟨b, o, none⟩ = some (.int .i64 x.kind) ∧ w.cell? ⟨b, o + 1, none⟩ = some (.int .i64 x.frm) ∧ w.cell? ⟨b, o + 2, none⟩ = some (.int .i64 x.to) ∧ w.cell? ⟨b, o + 3, none⟩ = some (.int .i64 x.num) ∧
  w.cell? ⟨b, o + 4, none⟩ = some (.string x.t) ∧ w.cell? ⟨b, o + 5, none⟩ = some (.int .i64 x.ack) ∧ w.cell? ⟨b, o + 6, none⟩ = some (.int .i64 x.held) := by
 obtain ⟨x, b, o, hx, hb, hix, hc⟩ := flat_at (c := c) h pkC_len Try.underlying35 rPk.size_eq (by decide) hk; exact ⟨x, b, o, hx, hb, hix, hc 0 _ rfl, hc 1 _ rfl, hc 2 _ rfl, hc 3 _ rfl, hc 4 _ rfl, hc 5 _ rfl, hc 6 _ rfl⟩
theorem st_at {w : World} {A : Option Addr} {l : List ByteArray} {c k : Nat} (h : Cells w A (strs l)) (hk : k < l.length) : ∃ x b o, l[k]? = some x ∧ b < w.heap.size ∧ (∀ w', (Instr.indexAt 45 (.slice A l.length c) (.int .i64 (k : Int))).run Try.prog w' = .ok (.pointer (some ⟨b, o, none⟩)) w') ∧
  w.cell? ⟨b, o, none⟩ = some (.string x) := by
 obtain ⟨x, b, o, hx, hb, hix, hc⟩ := flat_at (c := c) h stC_len Try.underlying45 rSt.size_eq (by decide) hk; exact ⟨x, b, o, hx, hb, hix, hc 0 _ rfl⟩
theorem ous_len (l : List Ou) : (ous l).length = l.length * 2 := flat_len ouC_len l
theorem ims_len (l : List Im) : (ims l).length = l.length * 2 := flat_len imC_len l
theorem pks_len (l : List Pk) : (pks l).length = l.length * 7 := flat_len pkC_len l
theorem strs_len (l : List ByteArray) : (strs l).length = l.length := by have := flat_len stC_len l; unfold strs; omega
theorem ous_snoc (l : List Ou) (x : Ou) : ous (l ++ [x]) = ous l ++ [.string x.t, .bool x.h] := by simp [ous, ouC]
theorem ims_snoc (l : List Im) (x : Im) : ims (l ++ [x]) = ims l ++ [.int .i64 x.n, .string x.t] := by simp [ims, imC]
theorem pks_snoc (l : List Pk) (p : Pk) : pks (l ++ [p]) = pks l ++ [.int .i64 p.kind, .int .i64 p.frm, .int .i64 p.to, .int .i64 p.num, .string p.t, .int .i64 p.ack, .int .i64 p.held] := by simp [pks, pkC]
theorem strs_snoc (l : List ByteArray) (s : ByteArray) : strs (l ++ [s]) = strs l ++ [.string s] := by simp [strs, stC]
structure Xs (w : World) (bx bm : Nat) (e : En) (A : Option Addr) (c : Nat) (vi : Value) : Prop where
 box : Blk w bx (.cells #[.int .i64 e.life, .int .i64 e.peer, .int .i64 e.phase, .int .i64 e.base, .slice A e.out.length c, .int .i64 e.want, vi, .map (some bm)] 84)
 out : Cells w A (ous e.out)
 map : Early w bm (getN e.inn)
 cap : e.out.length ≤ c
 nil : A = none → c = 0
theorem Xs.below {w w' : World} {bx bm : Nat} {e : En} {A : Option Addr} {c : Nat} {vi : Value} (h : Xs w bx bm e A c vi) (hB : Below w.heap.size w w') : Xs w' bx bm e A c vi :=
 ⟨h.box.below hB h.box.lt, h.out.below hB (Nat.le_refl _), h.map.frame (Frame.of_all (S := fun _ => False) hB) (fun h => h), h.cap, h.nil⟩
theorem Xs.drew {w : World} {bx bm : Nat} {e : En} {A : Option Addr} {c : Nat} {vi : Value} (h : Xs w bx bm e A c vi) : Xs w.drew bx bm e A c vi := h.below (Below.refl _ w).drew
theorem own_nil {w : World} {B : Nat} {e : TypeId} {size n m c : Nat} {A : Option Addr} {xs : List Value} (h : w.ownsRow B e size (.slice A m c) n xs) : A = none → c = 0 := by
 intro hA; rcases h.2 with ⟨h1, h2⟩ | ⟨g, cap, cur, hv, _⟩
 ·injection h1
 ·injection hv with h1 _ _; rw [hA] at h1; cases h1
theorem own_cap {w : World} {B : Nat} {e : TypeId} {size n c : Nat} {A : Option Addr} {xs : List Value} (h : w.ownsRow B e size (.slice A n c) n xs) : n ≤ c := by
 rcases h.2 with ⟨h1, h2⟩ | ⟨g, cap, cur, hv, _, _, hnc, _⟩
 ·omega
 ·injection hv with _ _ h3; omega
theorem wpList_appN {P : Program} {t e : TypeId} {size bytes : Nat} (R : ElemRow P t e size bytes) (w : World) {ops : Array Oper} {rest : List Oper} {o : Oper} {a : Act} {Q : Exit → Act → World → Prop} (hgd : o.guard = none) (s x : Operand)
  (ho : o.op = .call { callee := .builtin .append, args := #[s, x], argTypes := #[t, t] })
  {base : Nat} {v : Value} {n : Nat} {xs : List Value} (hown : w.ownsRow base e size v n xs) (hs : a.eval s = v) (B : Option Addr) (m c : Nat) (news : List Value) (hx : a.eval x = .slice B m c) (hB0 : B = none → m = 0 ∧ c = 0) (hC : Cells w B news)
  (hnl : news.length = m * size) (hone : ∀ u ∈ news, u.oneCell' = true) (hbytes : (n + m) * bytes ≤ 140737488355328) (hbase : base ≤ w.heap.size)
  (h : ∀ v' w', w'.ownsRow base e size v' (n + m) (xs ++ news) → Below base w w' → w.grownBy w' v.ownBlock → (∀ g, v'.ownBlock = some g → v.ownBlock = some g ∨ w.heap.size ≤ g) → wpList P ops Q rest (a.put o.dst v') w') :
  wpList P ops Q (o :: rest) a w := by
 obtain ⟨i, z, hi, hz, hs1, hb1, hzs⟩ := R.row; cases B with
 | none =>
  obtain ⟨rfl, rfl⟩ := hB0 rfl; obtain rfl : news = [] := List.eq_nil_of_length_eq_zero (by simpa using hnl); refine wpList_append_own_none hgd s x t ho base e i size R.ut hi v n xs hs hown hx (h v w ?_ (Below.refl _ w) ⟨rfl, rfl, rfl, Nat.le_refl _, fun _ _ _ => rfl⟩ (fun g hg => .inl hg)); rw [Nat.add_zero, List.append_nil]; exact hown
 | some ad =>
  have hm : n + m ≤ maxLen := by
   have h1 : (n + m) * 1 ≤ (n + m) * bytes := Nat.mul_le_mul_left _ R.pos'; unfold maxLen; omega
  refine wpList_append_own_at _ hgd s x t ho base e i z size bytes R.ut hi hz hs1 hb1 hzs R.pos v n xs hs hown ad m c news hx hnl ?_ hone hm hbytes hbase ?_
  ·intro j u hj; obtain ⟨hl, b, off, hb0, hA, hc⟩ := hC; have hne : news ≠ [] := by rintro rfl; simp at hj
   obtain ⟨e1, _⟩ := hA hne; injection e1 with e1; have h2 : ad.add j = ⟨b, off + j, none⟩ := by
    rw [e1]; unfold Addr.add; split <;> simp_all
   rw [h2]; exact hc j u hj
  ·intro v' w' ho' hg _ hloc; refine h v' w' ho' (below_of_grown hown hg hbase) hg fun g hg' => ?_; rcases hloc with hl | hl
   ·exact .inl (hl ▸ hg')
   ·rw [hl] at hg'; have e : w.heap.size = g := by injection hg'
    exact .inr (by omega)
theorem ouC_one : ∀ l : List Ou, ∀ u ∈ ous l, u.oneCell' = true := by
 intro l u hu; obtain ⟨x, _, hx⟩ := List.mem_flatMap.1 hu; simp [ouC] at hx; rcases hx with rfl | rfl <;> rfl
theorem imC_one : ∀ l : List Im, ∀ u ∈ ims l, u.oneCell' = true := by
 intro l u hu; obtain ⟨x, _, hx⟩ := List.mem_flatMap.1 hu; simp [imC] at hx; rcases hx with rfl | rfl <;> rfl
theorem pkC_one : ∀ l : List Pk, ∀ u ∈ pks l, u.oneCell' = true := by
 intro l u hu; obtain ⟨x, _, hx⟩ := List.mem_flatMap.1 hu; simp [pkC] at hx; rcases hx with rfl | rfl | rfl | rfl | rfl | rfl | rfl <;> rfl
theorem stC_one : ∀ l : List ByteArray, ∀ u ∈ strs l, u.oneCell' = true := by
 intro l u hu; obtain ⟨x, _, hx⟩ := List.mem_flatMap.1 hu; simp [stC] at hx; rcases hx with rfl; rfl
theorem eql_nil23 (A : Option Addr) (n c : Nat) (w : World) : (binOp .eql 23 (.slice A n c) (.slice none 0 0)).run Try.prog w = .ok (.bool A.isNone) w := Lib.run_eql_slice_nil w _ _ A n c 0 0 Try.underlying23
theorem clone_ou (A : Option Addr) (c : Nat) (l : List Ou) (w : World) (h : Cells w A (ous l)) (h0 : A = none → l.length = 0 ∧ c = 0) (hl : l.length ≤ 1000) :
  Calls Try.prog 72 #[.slice A l.length c] w fun r w' => ∃ v, r = .returned v ∧ w'.ownsRow w.heap.size 71 2 v l.length (ous l) ∧ Below w.heap.size w w' := by
 have HC := Lib.hid h; cases A with
 | none =>
  obtain ⟨hl0, rfl⟩ := h0 rfl; have hl1 : l = [] := List.eq_nil_of_length_eq_zero hl0; subst hl1; have heq : ∀ w : World, (binOp .eql 23 (.slice none 0 0) (.slice none 0 0)).run Try.prog w = .ok (.bool true) w := fun w => eql_nil23 none 0 0 w; rw [List.length_nil]; clear h h0; go_enter Try.func72, Try.ntmps72
  go_wp2; go_ret; exact ⟨_, rfl, World.ownsRow_nil _ _ _ _, Below.refl _ _⟩
 | some a =>
  have heq : ∀ w : World, (binOp .eql 23 (.slice (some a) l.length c) (.slice none 0 0)).run Try.prog w = .ok (.bool false) w := fun w => eql_nil23 (some a) l.length c w; have HB0 : Hid (Below w.heap.size w (w.alloc (.cells #[] 71))) := (Below.refl _ w).alloc (Nat.le_refl _) _; have HC1 := Lib.hid (h.below HB0.out (Nat.le_refl _)); have HOW : Hid ((w.alloc (.cells #[] 71)).ownsRow w.heap.size 71 2 (.slice (some ⟨w.heap.size, 0, none⟩) 0 0) 0 []) := World.ownsRow_made w #[] 0 (Nat.le_refl _) (Nat.zero_le _) (by simp); clear h h0; go_enter Try.func72, Try.ntmps72
  go_wp2_with (at_builtin; go_must (refine wpList_appN rOu _ rfl _ _ rfl HOW.out rfl (some a) l.length c (ous l) rfl (fun h => by cases h) HC1.out (ous_len l) (ouC_one l) (by omega) (by simp) ?_); intro v' w2 hown2 hB2 hg2 hloc2)
  go_ret; refine ⟨v', rfl, ?_, HB0.out.trans hB2⟩; rw [Nat.zero_add, List.nil_append] at hown2; exact hown2
end Go.Proofs.Ytejabnoidhlfaaa
