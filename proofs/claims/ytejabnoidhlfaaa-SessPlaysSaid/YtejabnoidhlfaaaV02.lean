/- Contracts and lemmas that the claim uses. -/
import Derived.Test.YtejabnoidhlfaaaV01
import Derived.Test.YtejabnoidhlfaaaProg
set_option maxRecDepth 100000
set_option maxHeartbeats 16000000
namespace Go.Proofs.Ytejabnoidhlfaaa
structure Ou where
 t : ByteArray
 h : Bool
structure Im where
 n : Int
 t : ByteArray
structure En where
 life : Int
 peer : Int
 phase : Int
 base : Int
 out : List Ou
 want : Int
 inn : List Im
structure Pk where
 kind : Int
 frm : Int
 to : Int
 num : Int
 t : ByteArray
 ack : Int
 held : Int
structure Gn where
 packets : List Pk
 taken : List ByteArray
 lost : List ByteArray
deriving instance DecidableEq for Ou
deriving instance DecidableEq for Im
deriving instance DecidableEq for En
deriving instance DecidableEq for Pk
deriving instance DecidableEq for Gn
def most : Int := 1000000000
def emptyT : ByteArray := ByteArray.empty
def noEn : En := ⟨0, 0, 0, 0, [], 0, []⟩
def noGn : Gn := ⟨[], [], []⟩
def flyN (e : En) : Nat := if e.phase = 3 then min e.out.length 4 else 0
/-! ### ends that are as defined -/
def outOk (fly : Nat) : Nat → List Ou → Bool
 | _, [] => true
 | i, x :: l => decide (x.t.size ≤ 20) && (!x.h || (decide (1 ≤ i) && decide (i < fly))) && outOk fly (i + 1) l
def inOk (want : Int) : Int → List Im → Bool
 | _, [] => true
 | last, x :: l => decide (last < x.n) && decide (x.n < want + 4) && decide (x.n < most) && decide (x.t.size ≤ 20) && inOk want x.n l
def goodB (e : En) : Bool :=
 decide (1 ≤ e.life) && decide (e.life ≤ most) && decide (0 ≤ e.peer) && decide (e.peer ≤ most) && decide (0 ≤ e.base) && decide (0 ≤ e.want) && decide (e.want ≤ most) &&
  decide (e.out.length ≤ 12) && decide (e.base ≤ most - e.out.length) && outOk (flyN e) 0 e.out &&
  (if e.phase = 3 then decide (0 < e.peer) && inOk e.want e.want e.inn
   else decide (e.base = 0) && decide (e.want = 0) && decide (e.inn = []) && ((decide (e.phase = 1) && decide (e.peer = 0)) || (decide (e.phase = 2) && decide (0 < e.peer))))
/-! ### packets that are as defined -/
def properB (p : Pk) : Bool :=
 decide (1 ≤ p.frm) && decide (p.frm ≤ most) && decide (0 ≤ p.to) && decide (p.to ≤ most) &&
  (if p.kind = 1 then decide (p.num = 0) && decide (p.t = emptyT) && decide (p.ack = 0) && decide (p.held = 0)
   else if p.kind = 2 then decide (0 < p.to) && decide (0 ≤ p.num) && decide (p.num < most) && decide (p.t.size ≤ 20) && decide (0 ≤ p.ack) && decide (p.ack ≤ most) && decide (0 ≤ p.held) && decide (p.held ≤ 7)
   else if p.kind = 3 then decide (0 < p.to) && decide (p.num = 0) && decide (p.t = emptyT) && decide (0 ≤ p.ack) && decide (p.ack ≤ most) && decide (0 ≤ p.held) && decide (p.held ≤ 7)
   else false)
/-! ### what an end sends -/
def hasN (l : List Im) (k : Int) : Bool := l.any fun x => x.n == k
def bitsA (e : En) : Int := (if hasN e.inn (e.want + 1) then 1 else 0) + (if hasN e.inn (e.want + 2) then 2 else 0) + (if hasN e.inn (e.want + 3) then 4 else 0)
def helloA (e : En) : Pk := ⟨1, e.life, e.peer, 0, emptyT, 0, 0⟩
def reportA (e : En) : Pk := ⟨3, e.life, e.peer, 0, emptyT, e.want, bitsA e⟩
def dataA (e : En) (i : Nat) : Pk := ⟨2, e.life, e.peer, e.base + i, (e.out.getD i ⟨emptyT, false⟩).t, e.want, bitsA e⟩
def fromA (e : En) (i : Nat) : List Pk := ((List.range (flyN e)).drop i).map (dataA e)
def startA (life : Int) : En × Int := if 1 ≤ life ∧ life ≤ most then (⟨life, 0, 1, 0, [], 0, []⟩, 0) else (noEn, 2)
def againA (e : En) : En × Int := if goodB e = false then (noEn, 2) else if e.life = most then (noEn, 3) else startA (e.life + 1)
def sendA (e : En) (t : ByteArray) : En × List Pk × Int :=
 if goodB e = false then (noEn, [], 2) else
  if 20 < t.size ∨ e.out.length = 12 ∨ e.base + e.out.length = most then (noEn, [], 3) else
   let e' := { e with out := e.out ++ [⟨t, false⟩] }
   (e', fromA e' (flyN e), 0)
def freeIx : Nat → List Ou → List Nat
 | _, [] => []
 | i, x :: l => if x.h then freeIx (i + 1) l else i :: freeIx (i + 1) l
def tickA (e : En) : List Pk × Int :=
 if goodB e = false then ([], 2) else
  if e.phase ≠ 3 then ([helloA e], 0) else ((freeIx 0 (e.out.take (flyN e))).map (dataA e) ++ [reportA e], 0)
/-! ### what an end does with a packet -/
def overA (e : En) (life : Int) : En × List ByteArray :=
 (⟨e.life, life, 2, 0, (e.out.drop (flyN e)).map (fun x => ⟨x.t, false⟩), 0, []⟩, (e.out.take (flyN e)).map (·.t))
def markA (held : Int) (n : Nat) : Nat → List Ou → List Ou
 | _, [] => []
 | i, x :: l => ⟨x.t, if i = 0 then false else x.h || (decide (i < n) && decide (i ≤ 3) && decide (held / 2 ^ (i - 1) % 2 = 1))⟩ :: markA held n (i + 1) l
def goneA (e : En) (p : Pk) (n : Nat) : Nat := if p.ack < e.base ∨ e.base + n < p.ack then 0 else (p.ack - e.base).toNat
def ackedA (e : En) (p : Pk) (n : Nat) : En :=
 if p.ack < e.base ∨ e.base + n < p.ack then e else
  let gone := (p.ack - e.base).toNat
  { e with out := markA p.held (n - gone) 0 (e.out.drop gone), base := p.ack }
def putA (x : Im) : List Im → List Im
 | [] => [x]
 | y :: l => if x.n < y.n then x :: y :: l else y :: putA x l
def takeIn : Nat → Int → List Im → Int × List Im × List ByteArray
 | f + 1, want, x :: l => if x.n = want then
   let r := takeIn f (want + 1) l
   (r.1, r.2.1, x.t :: r.2.2) else (want, x :: l, [])
 | _, want, l => (want, l, [])
def cameA (e : En) (p : Pk) : En × List ByteArray :=
 if p.num < e.want ∨ e.want + 4 ≤ p.num ∨ hasN e.inn p.num = true then (e, []) else
  let r := takeIn (e.inn.length + 1) e.want (putA ⟨p.num, p.t⟩ e.inn)
  ({ e with want := r.1, inn := r.2.1 }, r.2.2)
def takeA (e0 : En) (p : Pk) : En × Gn × Int :=
 if (goodB e0 && properB p) = false then (noEn, noGn, 2) else
  if p.frm < e0.peer then (e0, noGn, 0) else
   let o := if e0.peer < p.frm then overA e0 p.frm else (e0, [])
   let e1 := o.1
   let n := flyN e1
   let sent := e1.base + n
   let mine := p.to == e1.life
   let opened := mine && e1.phase == 2 && p.kind == 1
   let e2 := if mine && e1.phase == 2 then { e1 with phase := 3 } else e1
   let e3 := if mine && p.kind != 1 then ackedA e2 p n else e2
   let c := if mine && p.kind == 2 then cameA e3 p else (e3, [])
   let e4 := c.1
   let pk := (if mine then [] else [helloA e4]) ++ fromA e4 (sent - e4.base).toNat ++ (if opened || (mine && p.kind == 2) then [reportA e4] else [])
   (e4, ⟨pk, c.2, o.2⟩, 0)
structure Dd where
 do_ : Int
 end_ : Int
 at_ : Int
 t : ByteArray
deriving DecidableEq
structure Tp where
 to : Int
 p : Pk
deriving DecidableEq
structure Ta where
 end_ : Int
 life : Int
 peer : Int
 sent : List ByteArray
 lost : List ByteArray
 taken : List ByteArray
deriving DecidableEq
structure Lp where
 e0 : En
 e1 : En
 wire : List Tp
 tales : List Ta
 n0 : Int
 n1 : Int
 free : Bool
deriving DecidableEq
structure Ln where
 ends : List En
 wire : List Tp
 tales : List Ta
deriving DecidableEq
def Lp.end_ (l : Lp) (i : Int) : En := if i = 0 then l.e0 else l.e1
def Lp.now (l : Lp) (i : Int) : Int := if i = 0 then l.n0 else l.n1
def Lp.setEnd (l : Lp) (i : Int) (e : En) : Lp := if i = 0 then { l with e0 := e } else { l with e1 := e }
def Lp.setNow (l : Lp) (i : Int) (n : Int) : Lp := if i = 0 then { l with n0 := n } else { l with n1 := n }
def setAt {α : Type} (f : α → α) : Nat → List α → List α
 | _, [] => []
 | 0, x :: l => f x :: l
 | n + 1, x :: l => x :: setAt f n l
def startE : En := ⟨1, 0, 1, 0, [], 0, []⟩
def firstA : Lp := ⟨startE, startE, [], [], -1, -1, false⟩
def showA (l : Lp) : Ln := ⟨[l.e0, l.e1], l.wire, l.tales⟩
def wayA (l : Lp) (frm : Int) : List Pk → Lp
 | [] => l
 | p :: ps => wayA (if l.free = true ∨ l.wire.length < 60 then { l with wire := l.wire ++ [⟨1 - frm, p⟩] } else l) frm ps
def sentA (e : En) (t : Ta) : Ta := { t with sent := t.sent ++ ((e.out.take (flyN e)).drop (t.sent.length - e.base.toNat)).map (·.t) }
def becomesA (l : Lp) (i : Int) (e : En) : Lp :=
 let was := l.end_ i
 let l1 := l.setEnd i e
 if e.phase ≠ 3 then l1.setNow i (-1) else
  let l2 := if was.phase ≠ 3 ∨ was.peer ≠ e.peer ∨ was.life ≠ e.life then { l1.setNow i l1.tales.length with tales := l1.tales ++ [⟨i, e.life, e.peer, [], [], []⟩] } else l1
  { l2 with tales := setAt (sentA e) (l2.now i).toNat l2.tales }
def tellA (l : Lp) (i : Int) (e : En) (g : Gn) : Lp :=
 let l1 := becomesA l i e
 let l2 := if 0 ≤ l1.now i then { l1 with tales := setAt (fun t => { t with taken := t.taken ++ g.taken }) (l1.now i).toNat l1.tales } else l1
 wayA l2 i g.packets
def carryA (l : Lp) (k : Nat) : Lp :=
 match l.wire[k]? with
 | none => l
 | some x =>
  let l1 := { l with wire := l.wire.eraseIdx k }
  let r := takeA (l1.end_ x.to) x.p
  let l2 := if 0 ≤ l1.now x.to then { l1 with tales := setAt (fun t => { t with lost := t.lost ++ r.2.1.lost }) (l1.now x.to).toNat l1.tales } else l1
  tellA l2 x.to r.1 r.2.1
def deedB (d : Dd) : Bool :=
 if d.do_ = 1 then decide (d.end_ = 0 ∨ d.end_ = 1) && decide (d.at_ = 0) && decide (d.t.size ≤ 20)
 else if d.do_ = 2 ∨ d.do_ = 3 then decide (d.end_ = 0 ∨ d.end_ = 1) && decide (d.at_ = 0) && decide (d.t = emptyT)
 else if d.do_ = 4 ∨ d.do_ = 5 ∨ d.do_ = 6 then decide (d.end_ = 0) && decide (0 ≤ d.at_) && decide (d.t = emptyT)
 else false
def doesA (l : Lp) (d : Dd) : Lp :=
 let k := (d.at_ % (l.wire.length : Int)).toNat
 if d.do_ = 1 then
  let r := sendA (l.end_ d.end_) d.t
  if r.2.2 = 0 then wayA (becomesA l d.end_ r.1) d.end_ r.2.1 else l
 else if d.do_ = 2 then wayA l d.end_ (tickA (l.end_ d.end_)).1
 else if d.do_ = 3 then
  let r := againA (l.end_ d.end_)
  if r.2 = 0 then becomesA l d.end_ r.1 else l
 else if l.wire.length = 0 then l
 else if d.do_ = 4 then carryA l k
 else if d.do_ = 5 then { l with wire := l.wire.eraseIdx k }
 else match l.wire[k]? with
  | none => l
  | some x => wayA l (1 - x.to) [x.p]
def playedA (l : List Dd) : Lp × Int :=
 if 200 < l.length then (firstA, 3) else if l.all deedB = false then (firstA, 2) else (l.foldl doesA firstA, 0)
def noLn : Ln := ⟨[], [], []⟩
def playA (l : List Dd) : Ln × Int := if (playedA l).2 = 0 then (showA (playedA l).1, 0) else (noLn, (playedA l).2)
def nextK (order : List Int) (n len : Nat) : Nat :=
 match order[n % order.length]? with
 | none => 0
 | some o => ((o % 18446744073709551616) % (len : Int)).toNat
def quietN (order : List Int) : Nat → Nat → Lp → Option (Lp × Nat)
 | f, n, l => if l.wire.length = 0 then some (l, n) else
  match f with
  | 0 => none
  | f + 1 => quietN order f (n + 1) (carryA l (nextK order n l.wire.length))
def quiet0 (l : Lp) : Lp :=
 let l0 := { l with free := true }
 let l1 := wayA l0 0 (tickA l0.e0).1
 wayA l1 1 (tickA l1.e1).1
end Go.Proofs.Ytejabnoidhlfaaa
namespace Go.Proofs.Ytejabnoidhlfaaa
open Go.RowKit Go.Maps
open Go.ChangeMaps (setBlock)
theorem eraseIdx_map_ {α β : Type} (f : α → β) : ∀ (l : List α) (i : Nat), (l.map f).eraseIdx i = (l.eraseIdx i).map f
 | [], _ => by simp
 | x :: l, 0 => by simp
 | x :: l, i + 1 => by simp [eraseIdx_map_ f l i]
section
variable {P : Program} {kt t et : TypeId} {w w' : World} {b : Nat} {m : List (Value × Value)} {S : Nat → Prop}
theorem MapIs.del (K : Keyed P kt) (ht : P.underlying t = some (.map kt et)) (h : MapIs P kt w b m) {k : Value} {l : Lit} (hk : keyOf P kt k = some l) (ty : TypeId) :
  ∃ w' m', (Builtin.delete_ #[t, kt] ty #[.map (some b), k]).run P w = .ok (.tuple #[]) w' ∧ MapIs P kt w' b m' ∧ (∀ p, p ∈ m' ↔ p ∈ m ∧ p.1 ≠ k) ∧ w.grownBy w' (some b) := by
 obtain ⟨es, c, hb, he, hks, hnd⟩ := h; have hlt := hb.lt; have hgb : ∀ o, w.grownBy (setBlock w b o) (some b) := fun o => ⟨rfl, rfl, rfl, by simp [setBlock], fun i hi hne => by
  show (w.heap.setIfInBounds b _)[i]? = _; rw [Array.getElem?_setIfInBounds, if_neg (by rintro rfl; exact hne rfl)]⟩
 have hbk : ∀ o, Blk (setBlock w b o) b o := fun o => by
  show (w.heap.setIfInBounds b _)[b]? = _; simp [hlt]
 rcases K.find w hk es.toList (entries_keys hks he) with ⟨hr, hn⟩ | ⟨j, e, hr, hj, hek⟩
 ·refine ⟨setBlock w b (.map es c), m, ?_, ⟨es, c, hbk _, he, hks, hnd⟩, fun p => ⟨fun hp => ⟨hp, ?_⟩, fun hp => hp.1⟩, hgb _⟩
  ·simp [Builtin.delete_, run_underlying ht, MapKept.run_getObj_map hb, K.check w _ hk, hr, MapKept.run_setObj_map _ hb, Result.andThen, setBlock]
  ·rw [← he] at hp; obtain ⟨x, hx, rfl⟩ := List.mem_map.1 hp; exact hn x hx
 ·have hjl : j < es.toList.length := (List.getElem?_eq_some_iff.1 hj).1; have hjm : m[j]? = some (e.key, e.val) := by rw [← he, List.getElem?_map, hj]; rfl
  have hme : (es.eraseIdxIfInBounds j).toList.map (fun e => (e.key, e.val)) = m.eraseIdx j := by
   rw [← he]; have : (es.eraseIdxIfInBounds j).toList = es.toList.eraseIdx j := by
    unfold Array.eraseIdxIfInBounds; rw [dif_pos (by simpa using hjl)]; simp
   rw [this, ← eraseIdx_map_]
  have hsub : ∀ p, p ∈ m.eraseIdx j → p ∈ m := fun p hp => List.mem_of_mem_eraseIdx hp; refine ⟨setBlock w b (.map (es.eraseIdxIfInBounds j) c), m.eraseIdx j, ?_, ⟨_, c, hbk _, hme, fun p hp => hks p (hsub p hp), ?_⟩, fun p => ⟨fun hp => ⟨hsub p hp, ?_⟩, fun hp => ?_⟩, hgb _⟩
  ·simp [Builtin.delete_, run_underlying ht, MapKept.run_getObj_map hb, K.check w _ hk, hr, MapKept.run_setObj_map _ hb, Result.andThen, setBlock]
  ·rw [← eraseIdx_map_]; exact hnd.sublist (List.eraseIdx_sublist ..)
  ·intro e1; rw [List.mem_eraseIdx_iff_getElem?] at hp; obtain ⟨i, hne, hi⟩ := hp; apply hne; have h1 : (m.map (·.1))[i]? = some k := by rw [List.getElem?_map, hi]; simp [e1]
   have h2 : (m.map (·.1))[j]? = some k := by rw [List.getElem?_map, hjm]; simp [hek]
   have hil : i < (m.map (·.1)).length := (List.getElem?_eq_some_iff.1 h1).1; have hjl' : j < (m.map (·.1)).length := (List.getElem?_eq_some_iff.1 h2).1; exact (List.getElem?_inj hil hnd).1 (h1.trans h2.symm)
  ·obtain ⟨i, hi⟩ := List.getElem?_of_mem hp.1; rw [List.mem_eraseIdx_iff_getElem?]; refine ⟨i, fun e1 => hp.2 ?_, hi⟩; subst e1; rw [hjm] at hi; injection hi with hi; rw [← hi]; exact hek
theorem MapIs.wipe (ht : P.underlying t = some (.map kt et)) (h : MapIs P kt w b m) (ty : TypeId) :
  ∃ w', (Builtin.clear_ #[t] ty #[.map (some b)]).run P w = .ok (.tuple #[]) w' ∧ MapIs P kt w' b [] ∧ w.grownBy w' (some b) := by
 obtain ⟨es, c, hb, he, hks, hnd⟩ := h; have hlt := hb.lt; refine ⟨setBlock w b (.map #[] c), ?_, ⟨#[], c, ?_, rfl, by simp, by simp⟩, rfl, rfl, rfl, by simp [setBlock], fun i hi hne => ?_⟩
 ·simp [Builtin.clear_, run_underlying ht, MapKept.run_getObj_map hb, MapKept.run_setObj_map _ hb, Result.andThen, setBlock]
 ·show (w.heap.setIfInBounds b _)[b]? = _; simp [hlt]
 ·show (w.heap.setIfInBounds b _)[i]? = _; rw [Array.getElem?_setIfInBounds, if_neg (by rintro rfl; exact hne rfl)]
end
theorem zstr (w : World) : (zeroValue 9).run Try.prog w = .ok (.string ByteArray.empty) w := by kernel_rfl
def rng64 (x : Int) : Prop := -9223372036854775808 ≤ x ∧ x ≤ 9223372036854775807
def Early (w : World) (b : Nat) (g : Int → Option ByteArray) : Prop :=
 ∃ m, MapIs Try.prog 3 w b m ∧ (∀ p ∈ m, ∃ k s, p = (Value.int .i64 k, Value.string s) ∧ g k = some s) ∧ ∀ k s, g k = some s → (Value.int .i64 k, Value.string s) ∈ m
def updG (g : Int → Option ByteArray) (k : Int) (v : Option ByteArray) : Int → Option ByteArray := fun x => if x = k then v else g x
section
variable {w w' : World} {b : Nat} {g : Int → Option ByteArray} {S : Nat → Prop}
theorem Early.frame (h : Early w b g) (hf : Frame S w w') (hn : ¬ S b) : Early w' b g := by
 obtain ⟨m, h1, h2, h3⟩ := h; exact ⟨m, h1.frame hf hn, h2, h3⟩
theorem Early.lt (h : Early w b g) : b < w.heap.size := by
 obtain ⟨m, h1, _⟩ := h; exact h1.lt
theorem Early.not_blk (h : Early w b g) {b' : Nat} {cs : Array Value} {t : TypeId} (hb' : Blk w b' (.cells cs t)) : b ≠ b' := by
 obtain ⟨m, h1, _⟩ := h; exact h1.not_blk hb'
theorem Early.not_own (h : Early w b g) {base : Nat} {e : TypeId} {size n : Nat} {v : Value} {xs : List Value} (hr : w.ownsRow base e size v n xs) : v.ownBlock ≠ some b := by
 obtain ⟨m, h1, _⟩ := h; exact h1.not_own hr
theorem Early.new (w : World) : Early (w.alloc (.map #[] 0)) w.heap.size (fun _ => none) := ⟨[], MapIs.new _ _ _, by simp, by simp⟩
theorem Early.look (h : Early w b g) {k : Int} (hk : rng64 k) :
  (Instr.lookup 82 (.map (some b)) (.int .i64 k) true).run Try.prog w = .ok (.tuple #[.string ((g k).getD ByteArray.empty), .bool (g k).isSome]) w := by
 have hkey : keyOf Try.prog 3 (.int .i64 k) = some (.int .i64 k) := keyOf_int_mk Try.underlying3 (WalkArith.wf_i64 hk); have K : Keyed Try.prog 3 := int_keyed Try.underlying3; obtain ⟨m, h1, h2, h4⟩ := h; cases hg : g k with
 | none =>
  have := h1.look_no K Try.underlying82 hkey (fun p hp e => by
   obtain ⟨k', s, rfl, hs⟩ := h2 p hp; injection e with _ e; subst e; rw [hg] at hs; cases hs) (zstr w) true
  simpa using this
 | some s =>
  have := h1.look_yes K Try.underlying82 hkey (h4 k s hg) true; simpa using this
theorem Early.put (h : Early w b g) {k : Int} (hk : rng64 k) (hn : g k = none) (s : ByteArray) :
  ∃ w', (Instr.mapUpdate 82 (.map (some b)) (.int .i64 k) (.string s)).run Try.prog w = .ok () w' ∧ Early w' b (updG g k (some s)) ∧ w.grownBy w' (some b) := by
 have hkey : keyOf Try.prog 3 (.int .i64 k) = some (.int .i64 k) := keyOf_int_mk Try.underlying3 (WalkArith.wf_i64 hk); have K : Keyed Try.prog 3 := int_keyed Try.underlying3; obtain ⟨m, h1, h2, h4⟩ := h; obtain ⟨w', hr, hm, hg⟩ := h1.put_new K Try.underlying82 hkey (v := .string s) (fun p hp e => by
   obtain ⟨k', s', rfl, hs⟩ := h2 p hp; injection e with _ e; subst e; rw [hn] at hs; cases hs)
 refine ⟨w', hr, ⟨_, hm, fun p hp => ?_, fun k' s' hs => ?_⟩, hg⟩
 ·rcases List.mem_append.1 hp with hp | hp
  ·obtain ⟨k', s', rfl, hs⟩ := h2 p hp; refine ⟨k', s', rfl, ?_⟩; unfold updG; rw [if_neg (by rintro rfl; rw [hn] at hs; cases hs)]; exact hs
  ·simp at hp; subst hp; exact ⟨k, s, rfl, by simp [updG]⟩
 ·unfold updG at hs; by_cases e : k' = k
  ·rw [if_pos e] at hs; injection hs with hs; subst e hs; simp
  ·rw [if_neg e] at hs; exact List.mem_append_left _ (h4 k' s' hs)
theorem Early.del (h : Early w b g) {k : Int} (hk : rng64 k) (ty : TypeId) :
  ∃ w', (Builtin.delete_ #[82, 3] ty #[.map (some b), .int .i64 k]).run Try.prog w = .ok (.tuple #[]) w' ∧ Early w' b (updG g k none) ∧ w.grownBy w' (some b) := by
 have hkey : keyOf Try.prog 3 (.int .i64 k) = some (.int .i64 k) := keyOf_int_mk Try.underlying3 (WalkArith.wf_i64 hk); have K : Keyed Try.prog 3 := int_keyed Try.underlying3; obtain ⟨m, h1, h2, h4⟩ := h; obtain ⟨w', m', hr, hm, hiff, hg⟩ := h1.del K Try.underlying82 hkey ty; refine ⟨w', hr, ⟨m', hm, fun p hp => ?_, fun k' s' hs => ?_⟩, hg⟩
 ·obtain ⟨hp1, hp2⟩ := (hiff p).1 hp; obtain ⟨k', s', rfl, hs⟩ := h2 p hp1; refine ⟨k', s', rfl, ?_⟩; unfold updG; rw [if_neg (by rintro rfl; exact hp2 rfl)]; exact hs
 ·unfold updG at hs; by_cases e : k' = k
  ·rw [if_pos e] at hs; cases hs
  ·rw [if_neg e] at hs; refine (hiff _).2 ⟨h4 k' s' hs, fun e2 => e ?_⟩; injection e2 with _ e2
theorem Early.wipe (h : Early w b g) (ty : TypeId) :
  ∃ w', (Builtin.clear_ #[82] ty #[.map (some b)]).run Try.prog w = .ok (.tuple #[]) w' ∧ Early w' b (fun _ => none) ∧ w.grownBy w' (some b) := by
 obtain ⟨m, h1, h2, h4⟩ := h; obtain ⟨w', hr, hm, hg⟩ := h1.wipe Try.underlying82 ty; exact ⟨w', hr, ⟨[], hm, by simp, by simp⟩, hg⟩
end
end Go.Proofs.Ytejabnoidhlfaaa
namespace Go.Proofs.Ytejabnoidhlfaaa
def getN (l : List Im) (k : Int) : Option ByteArray := (l.find? fun x => x.n == k).map (·.t)
def srt : Int → List Im → Prop
 | _, [] => True
 | lo, x :: l => lo < x.n ∧ srt x.n l
theorem srt.low {lo lo' : Int} {l : List Im} (h : srt lo l) (hl : lo' ≤ lo) : srt lo' l := by
 cases l with
 | nil => trivial
 | cons x l => exact ⟨by have := h.1; omega, h.2⟩
theorem srt.gt : ∀ {l : List Im} {lo : Int}, srt lo l → ∀ x ∈ l, lo < x.n
 | [], _, _, x, hx => by cases hx
 | y :: l, lo, h, x, hx => by
  rcases List.mem_cons.1 hx with e | hx
  ·subst e; exact h.1
  ·have := srt.gt h.2 x hx; have := h.1; omega
theorem getN_cons (x : Im) (l : List Im) (k : Int) : getN (x :: l) k = if x.n = k then some x.t else getN l k := by
 unfold getN; rw [List.find?_cons]; by_cases h : x.n = k
 ·simp [h]
 ·have : (x.n == k) = false := by simpa using h
  rw [this, if_neg h]
theorem getN_none {l : List Im} {k : Int} : getN l k = none ↔ ∀ x ∈ l, x.n ≠ k := by
 unfold getN; rw [Option.map_eq_none_iff, List.find?_eq_none]; simp
theorem hasN_get (l : List Im) (k : Int) : hasN l k = (getN l k).isSome := by
 induction l with
 | nil => rfl
 | cons x l ih =>
  rw [getN_cons]; unfold hasN at ih ⊢; rw [List.any_cons, ih]; by_cases h : x.n = k
  ·simp [h]
  ·simp [h]
theorem srt_none {l : List Im} {lo k : Int} (h : srt lo l) (hk : k ≤ lo) : getN l k = none := by
 rw [getN_none]; intro x hx e; have := h.gt x hx; omega
theorem putA_get (x : Im) : ∀ {l : List Im} {lo : Int}, srt lo l → getN l x.n = none → getN (putA x l) = updG (getN l) x.n (some x.t)
 | [], _, _, _ => by
  funext k; simp only [putA, getN_cons, updG]; by_cases h : k = x.n
  ·simp [h]
  ·rw [if_neg (fun e => h e.symm), if_neg h]
 | y :: l, lo, hs, hn => by
  rw [getN_cons] at hn; have hy : y.n ≠ x.n := by
   intro e; rw [if_pos e] at hn; cases hn
  rw [if_neg hy] at hn; funext k; rw [putA]; by_cases hlt : x.n < y.n
  ·rw [if_pos hlt, getN_cons]; unfold updG; by_cases h : k = x.n
   ·rw [if_pos h.symm, if_pos h]
   ·rw [if_neg (fun e => h e.symm), if_neg h]
  ·rw [if_neg hlt, getN_cons, putA_get x hs.2 hn]; unfold updG; rw [getN_cons]; by_cases h : y.n = k
   ·rw [if_pos h, if_pos h, if_neg (by rintro rfl; exact hy h)]
   ·rw [if_neg h, if_neg h]
theorem putA_srt (x : Im) : ∀ {l : List Im} {lo : Int}, srt lo l → getN l x.n = none → lo < x.n → srt lo (putA x l)
 | [], _, _, _, h => ⟨h, trivial⟩
 | y :: l, lo, hs, hn, h => by
  rw [getN_cons] at hn; have hy : y.n ≠ x.n := by
   intro e; rw [if_pos e] at hn; cases hn
  rw [if_neg hy] at hn; rw [putA]; by_cases hlt : x.n < y.n
  ·rw [if_pos hlt]; exact ⟨h, hlt, hs.2⟩
  ·rw [if_neg hlt]; exact ⟨hs.1, putA_srt x hs.2 hn (by omega)⟩
theorem putA_mem (x : Im) : ∀ (l : List Im) (y : Im), y ∈ putA x l ↔ y = x ∨ y ∈ l
 | [], y => by simp [putA]
 | z :: l, y => by
  rw [putA]; split
  ·simp
  ·rw [List.mem_cons, putA_mem x l y, List.mem_cons]; constructor
   ·rintro (h | h | h)
    ·exact .inr (.inl h)
    ·exact .inl h
    ·exact .inr (.inr h)
   ·rintro (h | h | h)
    ·exact .inr (.inl h)
    ·exact .inl h
    ·exact .inr (.inr h)
theorem get_head {x : Im} {l : List Im} (hs : srt x.n l) : updG (getN (x :: l)) x.n none = getN l := by
 funext k; unfold updG; rw [getN_cons]; by_cases h : k = x.n
 ·rw [if_pos h, h, srt_none hs (Int.le_refl _)]
 ·rw [if_neg h, if_neg (fun e => h e.symm)]
def inOf (g : Int → Option ByteArray) (want : Int) (j : Nat) : List Im :=
 match g (want + 1 + j) with
 | some s => [⟨want + 1 + j, s⟩]
 | none => []
def insOf (g : Int → Option ByteArray) (want : Int) (n : Nat) : List Im := (List.range n).flatMap (inOf g want)
theorem insOf_succ (g : Int → Option ByteArray) (want : Int) (n : Nat) : insOf g want (n + 1) = insOf g want n ++ inOf g want n := by
 unfold insOf; rw [List.range_succ, List.flatMap_append]; simp
theorem list_of_get : ∀ (n : Nat) (l : List Im) (want lo : Int), srt lo l → (∀ x ∈ l, x.n ≤ lo + n) → want ≤ lo → (List.range n).flatMap (fun j => inOf (getN l) lo j) = l
 | 0, l, want, lo, hs, hb, _ => by
  cases l with
  | nil => rfl
  | cons x l =>
   have := hb x List.mem_cons_self; have := hs.1; omega
 | n + 1, l, want, lo, hs, hb, hw => by
  have hsh : ∀ (l' : List Im), (List.range (n + 1)).flatMap (fun j => inOf (getN l') lo j) = inOf (getN l') lo 0 ++ (List.range n).flatMap (fun j => inOf (getN l') (lo + 1) j) := by
   intro l'; rw [List.range_succ_eq_map, List.flatMap_cons, List.flatMap_map]; congr 1; congr 1; funext j; unfold inOf; have : lo + 1 + ((j + 1 : Nat) : Int) = lo + 1 + 1 + (j : Int) := by push_cast; omega
   simp only [Nat.succ_eq_add_one, this]
  rw [hsh]; cases l with
  | nil =>
   have : inOf (getN []) lo 0 = [] := by simp [inOf, getN]
   rw [this, list_of_get n [] want (lo + 1) trivial (fun x hx => by cases hx) (by omega)]; rfl
  | cons x l =>
   by_cases h : x.n = lo + 1
   ·have e1 : inOf (getN (x :: l)) lo 0 = [x] := by
     unfold inOf; rw [getN_cons, if_pos (by rw [h]; simp)]; simp only [Int.natCast_zero, Int.add_zero, ← h]
    have e2 : (List.range n).flatMap (fun j => inOf (getN (x :: l)) (lo + 1) j) = (List.range n).flatMap (fun j => inOf (getN l) (lo + 1) j) := by
     congr 1; funext j; unfold inOf; rw [getN_cons, if_neg (by rw [h]; omega)]
    rw [e1, e2, list_of_get n l want (lo + 1) (by rw [← h]; exact hs.2) (fun y hy => by have := hb y (List.mem_cons_of_mem _ hy); push_cast at this; omega) (by omega)]; rfl
   ·have hs1 := hs.1; have e1 : inOf (getN (x :: l)) lo 0 = [] := by
     unfold inOf; rw [srt_none (lo := lo + 1) (l := x :: l) ⟨by omega, hs.2⟩ (by simp)]
    rw [e1, list_of_get n (x :: l) want (lo + 1) ⟨by omega, hs.2⟩ (fun y hy => by have := hb y hy; push_cast at this; omega) (by omega)]; rfl
theorem insOf_get {l : List Im} {want : Int} (hs : srt want l) (hb : ∀ x ∈ l, x.n < want + 4) : insOf (getN l) want 3 = l :=
 list_of_get 3 l want want hs (fun x hx => by have := hb x hx; omega) (Int.le_refl _)
theorem inOk_srt {want : Int} : ∀ {l : List Im} {lo : Int}, inOk want lo l = true → srt lo l ∧ ∀ x ∈ l, x.n < want + 4 ∧ x.n < most ∧ x.t.size ≤ 20
 | [], _, _ => ⟨trivial, fun x hx => by cases hx⟩
 | x :: l, lo, h => by
  simp only [inOk, Bool.and_eq_true, decide_eq_true_eq] at h; obtain ⟨⟨⟨⟨h1, h2⟩, h3⟩, h4⟩, h5⟩ := h; obtain ⟨i1, i2⟩ := inOk_srt h5; refine ⟨⟨h1, i1⟩, fun y hy => ?_⟩; rcases List.mem_cons.1 hy with e | hy
  ·subst e; exact ⟨h2, h3, h4⟩
  ·exact i2 y hy
end Go.Proofs.Ytejabnoidhlfaaa
