/- Regions that draw. -/
import Derived.Test.YtejabnoidhlfaaaDoorS1
import Derived.StillTailTactics

/- Regions that draw their order, by steps: operations that read, stable under all the region does, may come first; the others come one by one. -/
namespace Go.Proofs.YtejabnoidhlfaaaDoor
open Go.RowKit

section
variable {P : Program} {ops : Array Oper} {md : Region.Mode} {I : World → Prop} {Q : Act → World → Prop}

/-- One operation, which ends normally. -/
def opQ (P : Program) (ops : Array Oper) (o : Oper) (K : Act → World → Prop) (a : Act) (w : World) : Prop :=
 if Region.wanted o (yielded ops a.tmps) then o.wp P a w K (fun _ _ _ => False) else K (a.put o.dst undef) w

theorem opQ_mono {o : Oper} {K K' : Act → World → Prop} {a : Act} {w : World} (h : ∀ a w, K a w → K' a w) (hh : opQ P ops o K a w) : opQ P ops o K' a w := by
 unfold opQ at *
 split
 ·rename_i hw; simp only [hw, if_true] at hh; exact Oper.wp_mono h hh
 ·rename_i hw; simp only [hw] at hh; exact h _ _ hh

/-- All orders of what is left; the worlds on the way are all in I. -/
def anyI (P : Program) (md : Region.Mode) (ops : Array Oper) (I : World → Prop) (Q : Act → World → Prop) : Nat → Array Bool → Act → World → Prop
 | 0, listed, a, w => I w ∧ Region.ready md ops listed = [] ∧ Q a w
 | f + 1, listed, a, w => I w ∧ Region.ready md ops listed ≠ [] ∧ ∀ i ∈ Region.ready md ops listed, ∃ o, ops[i]? = some o ∧ opQ P ops o (anyI P md ops I Q f (listed.setIfInBounds i true)) a w

theorem anyI_in : ∀ {f : Nat} {listed : Array Bool} {a : Act} {w : World}, anyI P md ops I Q f listed a w → I w
 | 0, _, _, _, h => h.1
 | _ + 1, _, _, _, h => h.1

theorem wp_mono_q {o : Oper} {K : Act → World → Prop} {a : Act} {w : World} {Q' : Exit → Act → World → Prop} (hh : o.wp P a w K (fun _ _ _ => False)) : o.wp P a w K Q' := by
 unfold Oper.wp at *
 generalize (execOp a.eval o).run P w = r at *
 cases r with
 | ok n w' =>
  cases n <;> simp only [Oper.upon] at hh ⊢ <;>
   first
    | exact hh
    | exact Calls.mono hh (fun e w'' he => by
      cases e
      ·exact he
      ·exact he.elim
      ·obtain ⟨_, _, h⟩ := he; exact h.elim)
 | halt x w' =>
  cases x <;> simp only [Oper.upon] at hh ⊢

theorem any_of_anyI {Q' : Exit → Act → World → Prop} (hQ : ∀ a w, Q a w → Q' .normal a w) : ∀ (f : Nat) (listed : Array Bool) (a : Act) (w : World), anyI P md ops I Q f listed a w → wpAny P md ops Q' f listed a w
 | 0, _, _, _, h => ⟨h.2.1, hQ _ _ h.2.2⟩
 | f + 1, _, _, _, h => by
  refine ⟨fun h0 => absurd h0 h.2.1, fun i hi => ?_⟩
  obtain ⟨o, ho, hop⟩ := h.2.2 i hi
  have h2 := opQ_mono (fun a w h => any_of_anyI hQ f _ a w h) hop
  unfold wpOp
  simp only [ho]
  unfold opQ at h2
  split
  ·rename_i hw; simp only [hw, if_true] at h2; exact .inl (wp_mono_q h2)
  ·rename_i hw; simp only [hw] at h2; exact h2

theorem yields_opQ {o : Oper} {v : Value} {a : Act} {w : World} (hy : YieldsAt P ops w o v a) {K : Act → World → Prop} (h : K (a.put o.dst v) w) : opQ P ops o K a w := by
 unfold opQ
 rcases hy with ⟨hw, hv | ⟨hv, rfl⟩ | ⟨f, args, hv, hc⟩⟩ | ⟨hw, rfl⟩
 ·simp only [hw, if_true, Oper.wp, hv, Oper.upon]; exact h
 ·simp only [hw, if_true, Oper.wp, hv, Oper.upon]; exact h
 ·simp only [hw, if_true, Oper.wp, hv, Oper.upon]
  exact hc.mono fun e w'' ⟨he, hw⟩ => by subst he; subst hw; exact h
 ·simp only [hw]; exact h

theorem opQ_put {oi oj : Oper} {v : Value} (hap : oi.apart ops oj = true)
  (hsi : ∀ cs b, oi.op ≠ .select cs b) (hsj : ∀ cs b, oj.op ≠ .select cs b) {K : Act → World → Prop} {a : Act} {w : World}
  (hy : ∀ w, I w → YieldsAt P ops w oi v a) (h : opQ P ops oj K (a.put oi.dst v) w) :
  opQ P ops oj (fun a' w' => (∀ w, I w → YieldsAt P ops w oi v a') ∧ K (a'.put oi.dst v) w') a w := by
 obtain ⟨h1, h2, h3⟩ := Oper.apart_spec hap
 have keep : ∀ (a : Act), (∀ w, I w → YieldsAt P ops w oi v a) → ∀ u, ∀ w, I w → YieldsAt P ops w oi v (a.put oj.dst u) := fun a hy u w hw =>
  (hy w hw).of_same (execOp_put oi hsi a oj.dst u h3) (wanted_put oi a oj.dst u h3)
 have keepD : ∀ d, ∀ w, I w → YieldsAt P ops w oi v { a with defers := d :: a.defers } := fun d w hw => (hy w hw).of_same rfl rfl
 unfold opQ at *
 rw [wanted_put oj a oi.dst v h1] at h
 split
 ·rename_i hw
  simp only [hw, if_true] at h
  unfold Oper.wp at *
  rw [execOp_put oj hsj a oi.dst v h1] at h
  generalize (execOp a.eval oj).run P w = r at *
  cases r with
  | ok n w' =>
   cases n <;> simp only [Oper.upon] at h ⊢
   case value u => exact ⟨keep a hy u, by rw [← Act.put_comm a v u h2]; exact h⟩
   case skip => exact ⟨keep a hy _, by rw [← Act.put_comm a v undef h2]; exact h⟩
   case defer d =>
    refine ⟨keep _ (keepD d) _, ?_⟩
    rw [← Act.put_comm _ v undef h2, ← Act.put_defers]
    exact h
   case enter f args =>
    refine Calls.mono h fun e w'' he => ?_
    cases e with
    | returned u => exact ⟨keep a hy u, by rw [← Act.put_comm a v u h2]; exact he⟩
    | panicked c => exact he
    | outgrown => exact he
   case row row args => exact Rows.mono h fun u w'' he => ⟨keep a hy u, by rw [← Act.put_comm a v u h2]; exact he⟩
  | halt x w' => cases x <;> simp only [Oper.upon] at h ⊢
 ·rename_i hw
  simp only [hw] at h
  exact ⟨keep a hy _, by rw [← Act.put_comm a v undef h2]; exact h⟩

theorem anyI_first {i : Nat} {oi : Oper} {v : Value} (hi : ops[i]? = some oi) (hsel : ∀ (j : Nat) (o : Oper) cs b, ops[j]? = some o → o.op ≠ .select cs b) :
  ∀ (f : Nat) (listed : Array Bool) (a : Act) (w : World),
   (∀ j oj, ops[j]? = some oj → j ≠ i → listed.getD j true = false → (∀ e ∈ oj.after, Region.binds md e = true → e.on ≠ i) → oi.apart ops oj = true) →
   i ∈ Region.ready md ops listed → (∀ w, I w → YieldsAt P ops w oi v a) →
   anyI P md ops I Q f (listed.setIfInBounds i true) (a.put oi.dst v) w → anyI P md ops I Q (f + 1) listed a w := by
 intro f
 induction f with
 | zero =>
  intro listed a w hfree hr hy H
  refine ⟨H.1, fun h => (by rw [h] at hr; cases hr), fun j hj => ?_⟩
  by_cases hji : j = i
  ·subst hji; exact ⟨oi, hi, yields_opQ (hy w H.1) H⟩
  ·have := ready_mono hj hji
   rw [H.2.1] at this
   cases this
 | succ f ih =>
  intro listed a w hfree hr hy H
  refine ⟨H.1, fun h => (by rw [h] at hr; cases hr), fun j hj => ?_⟩
  by_cases hji : j = i
  ·subst hji; exact ⟨oi, hi, yields_opQ (hy w H.1) H⟩
  ·obtain ⟨oj', hoj', h1⟩ := H.2.2 j (ready_mono hj hji)
   obtain ⟨hjun, oj, hoj, hall⟩ := mem_ready.1 hj
   obtain rfl : oj' = oj := Option.some.inj (hoj'.symm.trans hoj)
   have hnot : ∀ e ∈ oj'.after, Region.binds md e = true → e.on ≠ i := fun e he hb heq => by
    have h1 := hall e he hb
    have h0 := (mem_ready.1 hr).1
    rw [heq, getD_both h0] at h1
    cases h1
   have h2 := opQ_put (I := I) (hfree j oj' hoj hji hjun hnot) (fun cs b => hsel i oi cs b hi) (fun cs b => hsel j oj' cs b hoj) hy h1
   have hfree' : ∀ k ok, ops[k]? = some ok → k ≠ i → (listed.setIfInBounds j true).getD k true = false →
     (∀ e ∈ ok.after, Region.binds md e = true → e.on ≠ i) → oi.apart ops ok = true := fun k ok hk hki hun hno => by
    refine hfree k ok hk hki ?_ hno
    by_cases hjk : j = k
    ·subst hjk; exact hjun
    ·rw [getD_set_ne true hjk] at hun; exact hun
   refine ⟨oj', hoj, opQ_mono (fun a' w' h3 => ih (listed.setIfInBounds j true) a' w' hfree' (ready_mono hr (Ne.symm hji)) h3.1 ?_) h2⟩
   rw [Array.setIfInBounds_comm _ _ hji]
   exact h3.2

/-- Some operations that read, in a given order of their numbers. -/
def stillOk (md : Region.Mode) (ops : Array Oper) : List Nat → Array Bool → Bool
 | [], _ => true
 | k :: ks, listed => (Region.ready md ops listed).contains k && Region.free md ops listed k && stillOk md ops ks (listed.setIfInBounds k true)
def listAll : List Nat → Array Bool → Array Bool
 | [], l => l
 | k :: ks, l => listAll ks (l.setIfInBounds k true)

/-- The same operations read to the same act in all worlds in I. -/
def wpSame (P : Program) (ops : Array Oper) (I : World → Prop) (K : Act → Prop) : List Oper → Act → Prop
 | [], a => K a
 | o :: rest, a => ∃ v, (∀ w, I w → YieldsAt P ops w o v a) ∧ wpSame P ops I K rest (a.put o.dst v)

theorem anyI_same (hsel : Region.noSelect ops = true) : ∀ (ks : List Nat) (l : List Oper) (f : Nat) (listed : Array Bool) (a : Act) (w : World), ks.map (ops[·]?) = l.map some →
  stillOk md ops ks listed = true → wpSame P ops I (fun a' => anyI P md ops I Q f (listAll ks listed) a' w) l a → anyI P md ops I Q (f + ks.length) listed a w
 | [], [], _, _, _, _, _, _, h => h
 | [], _ :: _, _, _, _, _, hl, _, _ => by simp at hl
 | _ :: _, [], _, _, _, _, hl, _, _ => by simp at hl
 | k :: ks, o :: l, f, listed, a, w, hl, hB, ⟨v, hy, h⟩ => by
  simp only [List.map_cons, List.cons.injEq] at hl
  simp only [stillOk, Bool.and_eq_true] at hB
  obtain ⟨⟨hr, hf⟩, hB'⟩ := hB
  exact anyI_first hl.1 (Region.noSelect_spec hsel) (f + ks.length) listed a w (Region.free_spec hl.1 hf) (by simpa using hr) hy
   (anyI_same hsel ks l f _ _ w hl.2 hB' h)

theorem same_step {K : Act → Prop} {o : Oper} {rest : List Oper} {a : Act} (v : Value) (hw : Region.wanted o (yielded ops a.tmps) = true) (h : ∀ w, I w → (execOp a.eval o).run P w = .ok (.value v) w)
  (hr : wpSame P ops I K rest (a.put o.dst v)) : wpSame P ops I K (o :: rest) a :=
 ⟨v, fun w hI => .inl ⟨hw, .inl (h w hI)⟩, hr⟩
theorem same_skip {K : Act → Prop} {o : Oper} {rest : List Oper} {a : Act} (hw : Region.wanted o (yielded ops a.tmps) = true) (h : ∀ w, I w → (execOp a.eval o).run P w = .ok .skip w)
  (hr : wpSame P ops I K rest (a.put o.dst undef)) : wpSame P ops I K (o :: rest) a :=
 ⟨undef, fun w hI => .inl ⟨hw, .inr (.inl ⟨h w hI, rfl⟩)⟩, hr⟩
theorem same_off {K : Act → Prop} {o : Oper} {rest : List Oper} {a : Act} (hw : Region.wanted o (yielded ops a.tmps) = false) (hr : wpSame P ops I K rest (a.put o.dst undef)) : wpSame P ops I K (o :: rest) a :=
 ⟨undef, fun _ _ => .inr ⟨hw, rfl⟩, hr⟩
theorem same_call {K : Act → Prop} {o : Oper} {rest : List Oper} {a : Act} (v : Value) {F : FuncId} {args : Array Value} (hw : Region.wanted o (yielded ops a.tmps) = true)
  (h : ∀ w, I w → (execOp a.eval o).run P w = .ok (.enter F args) w) (hc : ∀ w, I w → Calls P F args w (fun e w'' => e = .returned v ∧ w'' = w))
  (hr : wpSame P ops I K rest (a.put o.dst v)) : wpSame P ops I K (o :: rest) a :=
 ⟨v, fun w hI => .inl ⟨hw, .inr (.inr ⟨F, args, h w hI, hc w hI⟩)⟩, hr⟩

theorem lets_no {Q' : Act → World → Prop} (h : LetsOut (fun e a w => e = .normal ∧ Q' a w)) : False := by
 obtain ⟨a, w, h, _⟩ := h; cases h

/-- One operation, the only one that is ready. -/
theorem anyI_one (i : Nat) {o : Oper} {f : Nat} {listed : Array Bool} {a : Act} {w : World} (hi : ops[i]? = some o) (hr : Region.ready md ops listed = [i]) (hI : I w)
  (h : ∀ K : Act → World → Prop, (∀ a' w', anyI P md ops I Q f (listed.setIfInBounds i true) a' w' → K a' w') → wpList P ops (fun e a' w' => e = .normal ∧ K a' w') [o] a w) : anyI P md ops I Q (f + 1) listed a w := by
 refine ⟨hI, by rw [hr]; simp, fun j hj => ?_⟩
 rw [hr] at hj
 obtain rfl : j = i := by simpa using hj
 refine ⟨o, hi, ?_⟩
 have h1 := h _ fun _ _ h => h
 unfold wpList at h1
 unfold opQ
 split
 ·rename_i hw
  simp only [hw, if_true] at h1
  rcases h1 with h1 | h1
  ·unfold Oper.wp at *
   generalize (execOp a.eval o).run P w = r at *
   cases r with
   | ok n w' =>
    cases n <;> simp only [Oper.upon, wpList] at h1 ⊢
    case enter F args =>
     refine Calls.mono h1 fun e w'' he => ?_
     cases e with
     | returned u => exact he.2
     | panicked c => cases he.1
     | outgrown => exact (lets_no he).elim
    case row row args => exact Rows.mono h1 fun u w'' he => he.2
    all_goals exact h1.2
   | halt x w' =>
    cases x <;> simp only [Oper.upon] at h1 ⊢
    cases h1.1
  ·exact (lets_no h1.2).elim
 ·rename_i hw
  simp only [hw] at h1
  simp only [wpList] at h1
  exact h1.2

/-- Two operations are ready. -/
theorem anyI_two (i j : Nat) {o o' : Oper} {f : Nat} {listed : Array Bool} {a : Act} {w : World} (hi : ops[i]? = some o) (hj : ops[j]? = some o') (hr : Region.ready md ops listed = [i, j]) (hI : I w)
  (h1 : opQ P ops o (anyI P md ops I Q f (listed.setIfInBounds i true)) a w) (h2 : opQ P ops o' (anyI P md ops I Q f (listed.setIfInBounds j true)) a w) : anyI P md ops I Q (f + 1) listed a w := by
 refine ⟨hI, by rw [hr]; simp, fun k hk => ?_⟩
 rw [hr] at hk
 simp at hk
 rcases hk with rfl | rfl
 ·exact ⟨o, hi, h1⟩
 ·exact ⟨o', hj, h2⟩

theorem opQ_of_list {o : Oper} {K : Act → World → Prop} {a : Act} {w : World} (h : ∀ K' : Act → World → Prop, (∀ a w, K a w → K' a w) → wpList P ops (fun e a' w' => e = .normal ∧ K' a' w') [o] a w) : opQ P ops o K a w := by
 have h1 := h _ fun _ _ h => h
 unfold wpList at h1
 unfold opQ
 split
 ·rename_i hw
  simp only [hw, if_true] at h1
  rcases h1 with h1 | h1
  ·unfold Oper.wp at *
   generalize (execOp a.eval o).run P w = r at *
   cases r with
   | ok n w' =>
    cases n <;> simp only [Oper.upon, wpList] at h1 ⊢
    case enter F args =>
     refine Calls.mono h1 fun e w'' he => ?_
     cases e with
     | returned u => exact he.2
     | panicked c => cases he.1
     | outgrown => exact (lets_no he).elim
    case row row args => exact Rows.mono h1 fun u w'' he => he.2
    all_goals exact h1.2
   | halt x w' =>
    cases x <;> simp only [Oper.upon] at h1 ⊢
    cases h1.1
  ·exact (lets_no h1.2).elim
 ·rename_i hw
  simp only [hw] at h1
  simp only [wpList] at h1
  exact h1.2

/-- The end: nothing is left. -/
theorem anyI_end {listed : Array Bool} {a : Act} {w : World} (hr : (Region.ready md ops listed).isEmpty = true) (hI : I w) (h : Q a w) : anyI P md ops I Q 0 listed a w :=
 ⟨hI, by simpa using hr, h⟩

/-- What an operation that reads yields. -/
def stillUponV (P : Program) (w : World) (K : Value → Prop) : Result Next → Prop
 | .ok (.value v) w' => w' = w ∧ K v
 | .ok .skip w' => w' = w ∧ K undef
 | .ok (.enter f args) w' => w' = w ∧ ∃ v, Calls P f args w (fun e w'' => e = .returned v ∧ w'' = w) ∧ K v
 | _ => False
def stillV (P : Program) (ops : Array Oper) (o : Oper) (a : Act) (w : World) (K : Value → Prop) : Prop :=
 if Region.wanted o (yielded ops a.tmps) then stillUponV P w K ((execOp a.eval o).run P w) else K undef

theorem yields_of_stillV {o : Oper} {a : Act} {w : World} {v : Value} (h : ∀ K : Value → Prop, K v → stillV P ops o a w K) : YieldsAt P ops w o v a := by
 have h1 := h (fun u => u = v) rfl
 unfold stillV at h1
 unfold YieldsAt
 by_cases hw : Region.wanted o (yielded ops a.tmps) = true
 ·simp only [hw, if_true] at h1
  refine .inl ⟨hw, ?_⟩
  generalize hr : (execOp a.eval o).run P w = r at h1
  cases r with
  | ok n w' =>
   cases n <;> simp only [stillUponV] at h1
   case value u => obtain ⟨rfl, rfl⟩ := h1; exact .inl rfl
   case skip => obtain ⟨rfl, rfl⟩ := h1; exact .inr (.inl ⟨rfl, rfl⟩)
   case enter f args => obtain ⟨rfl, u, hc, rfl⟩ := h1; exact .inr (.inr ⟨f, args, rfl, hc⟩)
  | halt x w' => simp only [stillUponV] at h1
 ·simp only [hw] at h1
  exact .inr ⟨by simpa using hw, h1.symm⟩

def stepOk (md : Region.Mode) (ops : Array Oper) (i : Nat) (listed : Array Bool) : Bool := Region.noSelect ops && (Region.ready md ops listed).contains i && Region.free md ops listed i

/-- One operation that reads comes first. -/
theorem anyI_step {l : List Oper} (i : Nat) {oi : Oper} {v : Value} {f : Nat} {listed : Array Bool} {a : Act} {w : World} (hi : l[i]? = some oi) (hB : stepOk md l.toArray i listed = true)
  (h1 : ∀ w', I w' → ∀ K : Value → Prop, K v → stillV P l.toArray oi a w' K)
  (h2 : ∀ K : Act → Prop, (∀ a', anyI P md l.toArray I Q f (listed.setIfInBounds i true) a' w → K a') → K (a.put oi.dst v)) : anyI P md l.toArray I Q (f + 1) listed a w := by
 simp only [stepOk, Bool.and_eq_true] at hB
 have hi' : l.toArray[i]? = some oi := by simpa using hi
 exact anyI_first hi' (Region.noSelect_spec hB.1.1) f listed a w (Region.free_spec hi' hB.2) (by simpa using hB.1.2) (fun w' hI => yields_of_stillV (h1 w' hI)) (h2 _ fun _ h => h)

theorem anyI_one' {l : List Oper} (i : Nat) {o : Oper} {f : Nat} {listed : Array Bool} {a : Act} {w : World} (hi : l[i]? = some o) (hr : Region.ready md l.toArray listed = [i]) (hI : I w)
  (h : ∀ K : Act → World → Prop, (∀ a' w', anyI P md l.toArray I Q f (listed.setIfInBounds i true) a' w' → K a' w') → wpList P l.toArray (fun e a' w' => e = .normal ∧ K a' w') [o] a w) : anyI P md l.toArray I Q (f + 1) listed a w :=
 anyI_one i (by simpa using hi) hr hI h

theorem anyI_two' {l : List Oper} (i j : Nat) {o o' : Oper} {f : Nat} {listed : Array Bool} {a : Act} {w : World} (hi : l[i]? = some o) (hj : l[j]? = some o') (hr : Region.ready md l.toArray listed = [i, j]) (hI : I w)
  (h1 : ∀ K : Act → World → Prop, (∀ a' w', anyI P md l.toArray I Q f (listed.setIfInBounds i true) a' w' → K a' w') → wpList P l.toArray (fun e a' w' => e = .normal ∧ K a' w') [o] a w)
  (h2 : ∀ K : Act → World → Prop, (∀ a' w', anyI P md l.toArray I Q f (listed.setIfInBounds j true) a' w' → K a' w') → wpList P l.toArray (fun e a' w' => e = .normal ∧ K a' w') [o'] a w) : anyI P md l.toArray I Q (f + 1) listed a w :=
 anyI_two i j (by simpa using hi) (by simpa using hj) hr hI (opQ_of_list h1) (opQ_of_list h2)

/-- A region that draws its order. -/
theorem draw (I : World → Prop) {id : Nat} {Q : Exit → Act → World → Prop} {a : Act} {w : World} {l : List Oper} (f : Nat) (hf : l.length = f) (hm : P.follows .mixedOrders = true)
  (h : ∀ Q' : Act → World → Prop, (∀ a' w', Q .normal a' w' → Q' a' w') → anyI P .any l.toArray I Q' f (Array.replicate f false) a w.drew) : (Code.region id l.toArray true).wp P Q a w := by
 subst hf
 refine wp_region_any hm ?_
 have := h _ fun _ _ h => h
 have h2 := any_of_anyI (Q' := Q) (fun _ _ h => h) _ _ _ _ this
 simpa using h2
end
attribute [go_sem] stillV stillUponV
end Go.Proofs.YtejabnoidhlfaaaDoor

/- Regions that draw their order, whose last operation waits for all others: what it does need not be kept by the others. -/
namespace Go.Proofs.YtejabnoidhlfaaaDoor
open Go.RowKit

section
variable {P : Program} {ops : Array Oper} {md : Region.Mode} {I : World → Prop} {t : Nat} {Q : Act → World → Prop}

/-- The operation t waits for the operation i. -/
def waitsOn (md : Region.Mode) (ops : Array Oper) (t i : Nat) : Bool := ((ops[t]?).map fun o => o.after.any fun e => Region.binds md e && e.on == i).getD false

/-- All orders of what is left but the operation t, which comes last; the worlds on the way are all in I. -/
def anyL (P : Program) (md : Region.Mode) (ops : Array Oper) (I : World → Prop) (t : Nat) (Q : Act → World → Prop) : Nat → Array Bool → Act → World → Prop
 | 0, listed, a, w => I w ∧ Region.ready md ops listed = [t] ∧ Region.ready md ops (listed.setIfInBounds t true) = [] ∧ ∃ o, ops[t]? = some o ∧ opQ P ops o Q a w
 | f + 1, listed, a, w => I w ∧ Region.ready md ops listed ≠ [] ∧ ∀ i ∈ Region.ready md ops listed, ∃ o, ops[i]? = some o ∧ opQ P ops o (anyL P md ops I t Q f (listed.setIfInBounds i true)) a w

theorem anyL_in : ∀ {f : Nat} {listed : Array Bool} {a : Act} {w : World}, anyL P md ops I t Q f listed a w → I w
 | 0, _, _, _, h => h.1
 | _ + 1, _, _, _, h => h.1

theorem any_of_anyL {Q' : Exit → Act → World → Prop} (hQ : ∀ a w, Q a w → Q' .normal a w) : ∀ (f : Nat) (listed : Array Bool) (a : Act) (w : World), anyL P md ops I t Q f listed a w → wpAny P md ops Q' (f + 1) listed a w
 | 0, listed, a, w, h => by
  refine ⟨fun h0 => absurd h0 (by rw [h.2.1]; simp), fun i hi => ?_⟩
  rw [h.2.1] at hi
  obtain rfl : i = t := by simpa using hi
  obtain ⟨o, ho, hop⟩ := h.2.2.2
  have h2 : opQ P ops o (fun a w => wpAny P md ops Q' 0 (listed.setIfInBounds i true) a w) a w := opQ_mono (fun a w hq => ⟨h.2.2.1, hQ a w hq⟩) hop
  unfold wpOp
  simp only [ho]
  unfold opQ at h2
  split
  ·rename_i hw; simp only [hw, if_true] at h2; exact .inl (wp_mono_q h2)
  ·rename_i hw; simp only [hw] at h2; exact h2
 | f + 1, _, _, _, h => by
  refine ⟨fun h0 => absurd h0 h.2.1, fun i hi => ?_⟩
  obtain ⟨o, ho, hop⟩ := h.2.2 i hi
  have h2 := opQ_mono (fun a w h => any_of_anyL hQ f _ a w h) hop
  unfold wpOp
  simp only [ho]
  unfold opQ at h2
  split
  ·rename_i hw; simp only [hw, if_true] at h2; exact .inl (wp_mono_q h2)
  ·rename_i hw; simp only [hw] at h2; exact h2

theorem waits_of {i : Nat} (h : waitsOn md ops t i = true) : ∃ o, ops[t]? = some o ∧ ∃ e ∈ o.after, Region.binds md e = true ∧ e.on = i := by
 unfold waitsOn at h
 cases ho : ops[t]? with
 | none => rw [ho] at h; cases h
 | some o =>
  rw [ho] at h
  simp only [Option.map_some, Option.getD_some] at h
  rw [Array.any_eq_true'] at h
  obtain ⟨e, he, hb⟩ := h
  simp only [Bool.and_eq_true, beq_iff_eq] at hb
  exact ⟨o, rfl, e, he, hb.1, hb.2⟩

theorem anyL_first {i : Nat} {oi : Oper} {v : Value} (hi : ops[i]? = some oi) (hsel : ∀ (j : Nat) (o : Oper) cs b, ops[j]? = some o → o.op ≠ .select cs b) (hW : waitsOn md ops t i = true) :
  ∀ (f : Nat) (listed : Array Bool) (a : Act) (w : World),
   (∀ j oj, ops[j]? = some oj → j ≠ i → listed.getD j true = false → (∀ e ∈ oj.after, Region.binds md e = true → e.on ≠ i) → oi.apart ops oj = true) →
   i ∈ Region.ready md ops listed → (∀ w, I w → YieldsAt P ops w oi v a) →
   anyL P md ops I t Q f (listed.setIfInBounds i true) (a.put oi.dst v) w → anyL P md ops I t Q (f + 1) listed a w := by
 intro f
 induction f with
 | zero =>
  intro listed a w hfree hr hy H
  refine ⟨H.1, fun h => (by rw [h] at hr; cases hr), fun j hj => ?_⟩
  by_cases hji : j = i
  ·subst hji; exact ⟨oi, hi, yields_opQ (hy w H.1) H⟩
  ·exfalso
   have hjt := ready_mono hj hji
   rw [H.2.1] at hjt
   obtain rfl : j = t := by simpa using hjt
   obtain ⟨o, ho, e, he, hb, hon⟩ := waits_of hW
   obtain ⟨_, oj, hoj, hall⟩ := Go.mem_ready.1 hj
   obtain rfl : o = oj := Option.some.inj (ho.symm.trans hoj)
   have h1 := hall e he hb
   have h0 := (Go.mem_ready.1 hr).1
   rw [hon, getD_both h0] at h1
   cases h1
 | succ f ih =>
  intro listed a w hfree hr hy H
  refine ⟨H.1, fun h => (by rw [h] at hr; cases hr), fun j hj => ?_⟩
  by_cases hji : j = i
  ·subst hji; exact ⟨oi, hi, yields_opQ (hy w H.1) H⟩
  ·obtain ⟨oj', hoj', h1⟩ := H.2.2 j (ready_mono hj hji)
   obtain ⟨hjun, oj, hoj, hall⟩ := Go.mem_ready.1 hj
   obtain rfl : oj' = oj := Option.some.inj (hoj'.symm.trans hoj)
   have hnot : ∀ e ∈ oj'.after, Region.binds md e = true → e.on ≠ i := fun e he hb heq => by
    have h1 := hall e he hb
    have h0 := (Go.mem_ready.1 hr).1
    rw [heq, getD_both h0] at h1
    cases h1
   have h2 := opQ_put (I := I) (hfree j oj' hoj hji hjun hnot) (fun cs b => hsel i oi cs b hi) (fun cs b => hsel j oj' cs b hoj) hy h1
   have hfree' : ∀ k ok, ops[k]? = some ok → k ≠ i → (listed.setIfInBounds j true).getD k true = false →
     (∀ e ∈ ok.after, Region.binds md e = true → e.on ≠ i) → oi.apart ops ok = true := fun k ok hk hki hun hno => by
    refine hfree k ok hk hki ?_ hno
    by_cases hjk : j = k
    ·subst hjk; exact hjun
    ·rw [getD_set_ne true hjk] at hun; exact hun
   refine ⟨oj', hoj, opQ_mono (fun a' w' h3 => ih (listed.setIfInBounds j true) a' w' hfree' (ready_mono hr (Ne.symm hji)) h3.1 ?_) h2⟩
   rw [Array.setIfInBounds_comm _ _ hji]
   exact h3.2

/-- One operation that reads comes first. -/
theorem anyL_step {l : List Oper} (i : Nat) {oi : Oper} {v : Value} {f : Nat} {listed : Array Bool} {a : Act} {w : World} (hW : waitsOn md l.toArray t i = true) (hi : l[i]? = some oi) (hB : stepOk md l.toArray i listed = true)
  (h1 : ∀ w', I w' → ∀ K : Value → Prop, K v → stillV P l.toArray oi a w' K)
  (h2 : ∀ K : Act → Prop, (∀ a', anyL P md l.toArray I t Q f (listed.setIfInBounds i true) a' w → K a') → K (a.put oi.dst v)) : anyL P md l.toArray I t Q (f + 1) listed a w := by
 simp only [stepOk, Bool.and_eq_true] at hB
 have hi' : l.toArray[i]? = some oi := by simpa using hi
 exact anyL_first hi' (Region.noSelect_spec hB.1.1) hW f listed a w (Region.free_spec hi' hB.2) (by simpa using hB.1.2) (fun w' hI => yields_of_stillV (h1 w' hI)) (h2 _ fun _ h => h)

/-- One operation, the only one that is ready. -/
theorem anyL_one {l : List Oper} (i : Nat) {o : Oper} {f : Nat} {listed : Array Bool} {a : Act} {w : World} (hi : l[i]? = some o) (hr : Region.ready md l.toArray listed = [i]) (hI : I w)
  (h : ∀ K : Act → World → Prop, (∀ a' w', anyL P md l.toArray I t Q f (listed.setIfInBounds i true) a' w' → K a' w') → wpList P l.toArray (fun e a' w' => e = .normal ∧ K a' w') [o] a w) : anyL P md l.toArray I t Q (f + 1) listed a w := by
 refine ⟨hI, by rw [hr]; simp, fun j hj => ?_⟩
 rw [hr] at hj
 obtain rfl : j = i := by simpa using hj
 exact ⟨o, by simpa using hi, opQ_of_list h⟩

/-- The last one. -/
theorem anyL_end {l : List Oper} {o : Oper} {listed : Array Bool} {a : Act} {w : World} (hi : l[t]? = some o) (hr : (Region.ready md l.toArray listed == [t] && (Region.ready md l.toArray (listed.setIfInBounds t true)).isEmpty) = true) (hI : I w)
  (h : ∀ K : Act → World → Prop, (∀ a' w', Q a' w' → K a' w') → wpList P l.toArray (fun e a' w' => e = .normal ∧ K a' w') [o] a w) : anyL P md l.toArray I t Q 0 listed a w := by
 simp only [Bool.and_eq_true, beq_iff_eq, List.isEmpty_iff] at hr
 exact ⟨hI, hr.1, hr.2, o, by simpa using hi, opQ_of_list h⟩

/-- A region that draws its order; its operation t waits for all others. -/
theorem drawl (I : World → Prop) (t : Nat) {id : Nat} {Q : Exit → Act → World → Prop} {a : Act} {w : World} {l : List Oper} (f : Nat) (hf : l.length = f + 1) (hm : P.follows .mixedOrders = true)
  (h : ∀ Q' : Act → World → Prop, (∀ a' w', Q .normal a' w' → Q' a' w') → anyL P .any l.toArray I t Q' f (Array.replicate (f + 1) false) a w.drew) : (Code.region id l.toArray true).wp P Q a w := by
 refine wp_region_any hm ?_
 have := h _ fun _ _ h => h
 have h2 := any_of_anyL (Q' := Q) (fun _ _ h => h) _ _ _ _ this
 rw [← hf] at h2
 simpa using h2
end
end Go.Proofs.YtejabnoidhlfaaaDoor

/- Regions that draw their order: four operations that may come in any order that the region lets. -/
namespace Go.Proofs.YtejabnoidhlfaaaDoor
open Go.RowKit

section
variable {P : Program} {ops : Array Oper} {md : Region.Mode} {I : World → Prop} {Q : Act → World → Prop}

/-- In each order that the region lets: m operations, all of them in S, behind which just fin are listed. -/
def phaseOk (md : Region.Mode) (ops : Array Oper) (S : List Nat) (fin : Array Bool) : Nat → Array Bool → Bool
 | 0, l => decide (l = fin)
 | m + 1, l => !(Region.ready md ops l).isEmpty && (Region.ready md ops l).all fun i => S.contains i && phaseOk md ops S fin m (l.setIfInBounds i true)

theorem anyI_phase {Φ : Array Bool → Act → World → Prop} {S : List Nat} {fin : Array Bool} {f : Nat} (hI : ∀ l a w, Φ l a w → I w)
  (hstep : ∀ l a w, Φ l a w → ∀ i, i ∈ S → i ∈ Region.ready md ops l → ∃ o, ops[i]? = some o ∧ opQ P ops o (Φ (l.setIfInBounds i true)) a w)
  (hfin : ∀ a w, Φ fin a w → anyI P md ops I Q f fin a w) :
  ∀ (m : Nat) (l : Array Bool) (a : Act) (w : World), phaseOk md ops S fin m l = true → Φ l a w → anyI P md ops I Q (f + m) l a w
 | 0, l, a, w, hB, h => by
  simp only [phaseOk, decide_eq_true_eq] at hB
  subst hB
  exact hfin a w h
 | m + 1, l, a, w, hB, h => by
  simp only [phaseOk, Bool.and_eq_true, List.all_eq_true] at hB
  refine ⟨hI _ _ _ h, by have := hB.1; intro e; rw [e] at this; simp at this, fun i hi => ?_⟩
  obtain ⟨hS, hB2⟩ := hB.2 i hi
  obtain ⟨o, ho, hq⟩ := hstep l a w h i (by simpa using hS) hi
  exact ⟨o, ho, opQ_mono (fun a' w' h' => anyI_phase hI hstep hfin m _ a' w' hB2 h') hq⟩

def put4 (a : Act) (t1 t2 t3 t4 : Nat) (v1 v2 v3 v4 : Value) : Act := { tmps := (((a.tmps.setIfInBounds t1 v1).setIfInBounds t2 v2).setIfInBounds t3 v3).setIfInBounds t4 v4, defers := a.defers }
theorem set_self (a : Array Value) (t : Nat) : a.setIfInBounds t (a.getD t undef) = a := by
 apply Array.ext
 ·simp
 ·intro i h1 h2
  rw [Array.getElem_setIfInBounds h2]
  split
  ·rename_i h; subst h; simp [Array.getD, h2]
  ·rfl
theorem put4_self (a : Act) (t1 t2 t3 t4 : Nat) : put4 a t1 t2 t3 t4 (a.tmps.getD t1 undef) (a.tmps.getD t2 undef) (a.tmps.getD t3 undef) (a.tmps.getD t4 undef) = a := by
 unfold put4
 simp only [set_self]

theorem anyI_phase4 {a0 : Act} {w0 : World} {l : List Oper} (t1 t2 t3 t4 i1 i2 i3 i4 : Nat) (fin : Array Bool) {o1 o2 o3 o4 : Oper} {f : Nat} {l0 : Array Bool} (Ψ : Bool → Bool → Bool → Bool → Value → Value → Value → Value → World → Prop)
  (h1 : l[i1]? = some o1) (h2 : l[i2]? = some o2) (h3 : l[i3]? = some o3) (h4 : l[i4]? = some o4)
  (hne : i1 ≠ i2 ∧ i1 ≠ i3 ∧ i1 ≠ i4 ∧ i2 ≠ i3 ∧ i2 ≠ i4 ∧ i3 ≠ i4)
  (hB : phaseOk md l.toArray [i1, i2, i3, i4] fin 4 l0 = true) (hb0 : l0.getD i1 true = false ∧ l0.getD i2 true = false ∧ l0.getD i3 true = false ∧ l0.getD i4 true = false)
  (hbf : fin.getD i1 true = true ∧ fin.getD i2 true = true ∧ fin.getD i3 true = true ∧ fin.getD i4 true = true)
  (hst : Ψ false false false false (a0.tmps.getD t1 undef) (a0.tmps.getD t2 undef) (a0.tmps.getD t3 undef) (a0.tmps.getD t4 undef) w0)
  (hI : ∀ b1 b2 b3 b4 v1 v2 v3 v4 w, Ψ b1 b2 b3 b4 v1 v2 v3 v4 w → I w)
  (hs1 : ∀ b2 b3 b4 v1 v2 v3 v4 w, Ψ false b2 b3 b4 v1 v2 v3 v4 w → opQ P l.toArray o1 (fun a' w' => ∃ v, a' = put4 a0 t1 t2 t3 t4 v v2 v3 v4 ∧ Ψ true b2 b3 b4 v v2 v3 v4 w') (put4 a0 t1 t2 t3 t4 v1 v2 v3 v4) w)
  (hs2 : ∀ b1 b3 b4 v1 v2 v3 v4 w, Ψ b1 false b3 b4 v1 v2 v3 v4 w → opQ P l.toArray o2 (fun a' w' => ∃ v, a' = put4 a0 t1 t2 t3 t4 v1 v v3 v4 ∧ Ψ b1 true b3 b4 v1 v v3 v4 w') (put4 a0 t1 t2 t3 t4 v1 v2 v3 v4) w)
  (hs3 : ∀ b1 b2 b4 v1 v2 v3 v4 w, Ψ b1 b2 false b4 v1 v2 v3 v4 w → opQ P l.toArray o3 (fun a' w' => ∃ v, a' = put4 a0 t1 t2 t3 t4 v1 v2 v v4 ∧ Ψ b1 b2 true b4 v1 v2 v v4 w') (put4 a0 t1 t2 t3 t4 v1 v2 v3 v4) w)
  (hs4 : ∀ b1 b2 b3 v1 v2 v3 v4 w, Ψ b1 b2 b3 false v1 v2 v3 v4 w → opQ P l.toArray o4 (fun a' w' => ∃ v, a' = put4 a0 t1 t2 t3 t4 v1 v2 v3 v ∧ Ψ b1 b2 b3 true v1 v2 v3 v w') (put4 a0 t1 t2 t3 t4 v1 v2 v3 v4) w)
  (hfin : ∀ v1 v2 v3 v4 w, Ψ true true true true v1 v2 v3 v4 w → anyI P md l.toArray I Q f fin (put4 a0 t1 t2 t3 t4 v1 v2 v3 v4) w) :
  anyI P md l.toArray I Q (f + 4) l0 a0 w0 := by
 obtain ⟨n12, n13, n14, n23, n24, n34⟩ := hne
 refine anyI_phase (Φ := fun l a w => ∃ v1 v2 v3 v4, a = put4 a0 t1 t2 t3 t4 v1 v2 v3 v4 ∧ Ψ (l.getD i1 true) (l.getD i2 true) (l.getD i3 true) (l.getD i4 true) v1 v2 v3 v4 w) (S := [i1, i2, i3, i4]) (fin := fin) ?_ ?_ ?_ 4 l0 a0 w0 hB ?_
 ·rintro l a w ⟨v1, v2, v3, v4, rfl, h⟩
  exact hI _ _ _ _ _ _ _ _ _ h
 ·rintro ls a w ⟨v1, v2, v3, v4, rfl, h⟩ i hi hr
  have hun := (mem_ready.1 hr).1
  have hsz : i < ls.size := by
   rcases Nat.lt_or_ge i ls.size with h | h
   ·exact h
   ·simp [Array.getD, Nat.not_lt.2 h] at hun
  have same : (ls.setIfInBounds i true).getD i true = true := by simp [Array.getD, hsz]
  have other : ∀ k, i ≠ k → (ls.setIfInBounds i true).getD k true = ls.getD k true := fun k hk => getD_set_ne true hk
  simp only [List.mem_cons, List.not_mem_nil, or_false] at hi
  rcases hi with rfl | rfl | rfl | rfl
  ·rw [hun] at h
   refine ⟨o1, by simpa using h1, opQ_mono ?_ (hs1 _ _ _ _ _ _ _ _ h)⟩
   rintro a' w' ⟨v, rfl, h'⟩
   refine ⟨_, _, _, _, rfl, ?_⟩
   rw [same, other _ n12, other _ n13, other _ n14]
   exact h'
  ·rw [hun] at h
   refine ⟨o2, by simpa using h2, opQ_mono ?_ (hs2 _ _ _ _ _ _ _ _ h)⟩
   rintro a' w' ⟨v, rfl, h'⟩
   refine ⟨_, _, _, _, rfl, ?_⟩
   rw [same, other _ n12.symm, other _ n23, other _ n24]
   exact h'
  ·rw [hun] at h
   refine ⟨o3, by simpa using h3, opQ_mono ?_ (hs3 _ _ _ _ _ _ _ _ h)⟩
   rintro a' w' ⟨v, rfl, h'⟩
   refine ⟨_, _, _, _, rfl, ?_⟩
   rw [same, other _ n13.symm, other _ n23.symm, other _ n34]
   exact h'
  ·rw [hun] at h
   refine ⟨o4, by simpa using h4, opQ_mono ?_ (hs4 _ _ _ _ _ _ _ _ h)⟩
   rintro a' w' ⟨v, rfl, h'⟩
   refine ⟨_, _, _, _, rfl, ?_⟩
   rw [same, other _ n14.symm, other _ n24.symm, other _ n34.symm]
   exact h'
 ·rintro a w ⟨v1, v2, v3, v4, rfl, h⟩
  rw [hbf.1, hbf.2.1, hbf.2.2.1, hbf.2.2.2] at h
  exact hfin _ _ _ _ _ h
 ·exact ⟨_, _, _, _, (put4_self a0 t1 t2 t3 t4).symm, by rw [hb0.1, hb0.2.1, hb0.2.2.1, hb0.2.2.2]; exact hst⟩
end
end Go.Proofs.YtejabnoidhlfaaaDoor
