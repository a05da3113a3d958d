/- Contract: acts. -/
import Derived.Test.YtejabnoidhlfaaaDoorS46
import Derived.Lib.ItoaNum
import Derived.Shelf.LaysM
import Derived.Shelf.Strconv.Itoa3
import Derived.Lib.LaidTab
import Derived.Test.YtejabnoidhlfaaaDoorRows
import Derived.Test.YtejabnoidhlfaaaDoorS40

/- Deeds by numbers. -/
namespace Go.Proofs.YtejabnoidhlfaaaDoor

structure Ac where
 d : Int
 a : Int
/-- A number's text. -/
def iT (k : Nat) : ByteArray := ⟨(Lib.itoa (k : Int)).toArray⟩
def actStep (st : Int × Int × List Dd) (i : Nat) (a : Ac) : Int × Int × List Dd :=
 let e := a.a % 2
 let d := 1 + a.d % 9
 if d = 1 then
  let s := (if e = 0 then st.1 else st.2.1) + 1
  (if e = 0 then s else st.1, if e = 0 then st.2.1 else s, if 10 < s then st.2.2 else st.2.2 ++ [⟨1, e, 0, iT i⟩])
 else if d = 2 then (st.1, st.2.1, st.2.2 ++ [⟨2, e, 0, emptyT⟩])
 else if d = 3 then (if e = 0 then 0 else st.1, if e = 0 then st.2.1 else 0, st.2.2 ++ [⟨3, e, 0, emptyT⟩])
 else if d = 5 ∨ d = 6 then (st.1, st.2.1, st.2.2 ++ [⟨d, 0, a.a, emptyT⟩])
 else (st.1, st.2.1, st.2.2 ++ [⟨4, 0, a.a, emptyT⟩])
def actsN (l : List Ac) : Nat → Int × Int × List Dd
 | 0 => (0, 0, [])
 | k + 1 => match l[k]? with
  | none => actsN l k
  | some a => actStep (actsN l k) k a
def actsD (l : List Ac) : List Dd := (actsN l (min l.length 150)).2.2
def AcOk (a : Ac) : Prop := 0 ≤ a.d ∧ a.d ≤ 255 ∧ 0 ≤ a.a ∧ a.a ≤ 255
theorem actsN_succ {l : List Ac} {k : Nat} {a : Ac} (h : l[k]? = some a) : actsN l (k + 1) = actStep (actsN l k) k a := by rw [actsN, h]
theorem iT_size {k : Nat} (h : k < 1000) : (iT k).size ≤ 20 := by
 have key : ∀ u : Nat, u < 1000 → (Lib.decDigits u).length ≤ 3 := fun u hu => by
  rw [Lib.decDigits]
  split
  ·simp
  ·rw [Lib.decDigits]
   split
   ·simp
   ·rw [Lib.decDigits]
    split
    ·simp
    ·omega
 show (Lib.itoa (k : Int)).toArray.size ≤ 20
 unfold Lib.itoa
 rw [if_neg (by omega)]
 have := key k h
 simp
 omega
/-- How many messages were sent since the last failure. -/
def cntS (i : Int) (c : Nat) (ds : List Dd) : Nat := ds.foldl (fun c d => if d.do_ = 3 ∧ d.end_ = i then 0 else if d.do_ = 1 ∧ d.end_ = i then c + 1 else c) c
theorem few_snoc (i : Int) (d : Dd) : ∀ (ds : List Dd) (c : Nat), Few i c ds → (d.do_ = 1 → d.end_ = i → cntS i c ds < 10) → Few i c (ds ++ [d])
 | [], c, _, h => by
  show Few i c [d]
  rw [Few]
  split
  ·trivial
  ·split
   ·rename_i hq
    exact ⟨h hq.1 hq.2, trivial⟩
   ·trivial
 | x :: ds, c, hf, h => by
  rw [List.cons_append]
  rw [Few] at hf ⊢
  unfold cntS at h
  rw [List.foldl_cons] at h
  split
  ·rename_i hq
   rw [if_pos hq] at hf h
   exact few_snoc i d ds 0 hf h
  ·rename_i hq
   rw [if_neg hq] at hf h
   split
   ·rename_i hq2
    rw [if_pos hq2] at hf h
    exact ⟨hf.1, few_snoc i d ds _ hf.2 h⟩
   ·rename_i hq2
    rw [if_neg hq2] at hf h
    exact few_snoc i d ds _ hf h
theorem cntS_snoc (i : Int) (c : Nat) (ds : List Dd) (d : Dd) : cntS i c (ds ++ [d]) = if d.do_ = 3 ∧ d.end_ = i then 0 else if d.do_ = 1 ∧ d.end_ = i then cntS i c ds + 1 else cntS i c ds := by
 unfold cntS
 rw [List.foldl_append]
 rfl
structure ActsOk (st : Int × Int × List Dd) (k : Nat) : Prop where
 len : st.2.2.length ≤ k
 deed : ∀ d ∈ st.2.2, deedB d = true
 f0 : Few 0 0 st.2.2
 f1 : Few 1 0 st.2.2
 c0 : (cntS 0 0 st.2.2 : Int) ≤ st.1 ∧ st.1 ≤ k
 c1 : (cntS 1 0 st.2.2 : Int) ≤ st.2.1 ∧ st.2.1 ≤ k
theorem ActsOk.put {st : Int × Int × List Dd} {k : Nat} (h : ActsOk st k) {d : Dd} (hd : deedB d = true) {s0 s1 : Int} (h0 : d.do_ = 1 → d.end_ = 0 → cntS 0 0 st.2.2 < 10) (h1 : d.do_ = 1 → d.end_ = 1 → cntS 1 0 st.2.2 < 10)
  (c0 : (cntS 0 0 (st.2.2 ++ [d]) : Int) ≤ s0 ∧ s0 ≤ k + 1) (c1 : (cntS 1 0 (st.2.2 ++ [d]) : Int) ≤ s1 ∧ s1 ≤ k + 1) : ActsOk (s0, s1, st.2.2 ++ [d]) (k + 1) := by
 refine ⟨by simp only [List.length_append, List.length_cons, List.length_nil]; have := h.len; omega, fun x hx => ?_, few_snoc 0 d _ _ h.f0 h0, few_snoc 1 d _ _ h.f1 h1, by push_cast; exact c0, by push_cast; exact c1⟩
 rcases List.mem_append.1 hx with hx | hx
 ·exact h.deed x hx
 ·simp at hx
  rw [hx]; exact hd
theorem actStep_ok {st : Int × Int × List Dd} {k : Nat} (h : ActsOk st k) {a : Ac} (ha : AcOk a) (hk : k < 1000) : ActsOk (actStep st k a) (k + 1) := by
 obtain ⟨a1, a2, a3, a4⟩ := ha
 have c0 := h.c0
 have c1 := h.c1
 have he : a.a % 2 = 0 ∨ a.a % 2 = 1 := by omega
 have hs := iT_size hk
 have hem : emptyT.size = 0 := rfl
 have other : ∀ d : Dd, d.do_ ≠ 1 → d.do_ ≠ 3 → deedB d = true → ActsOk (st.1, st.2.1, st.2.2 ++ [d]) (k + 1) := fun d h1 h3 hd => by
  refine h.put hd (fun hh => absurd hh h1) (fun hh => absurd hh h1) ?_ ?_
  ·rw [cntS_snoc, if_neg (fun hh => h3 hh.1), if_neg (fun hh => h1 hh.1)]; omega
  ·rw [cntS_snoc, if_neg (fun hh => h3 hh.1), if_neg (fun hh => h1 hh.1)]; omega
 unfold actStep
 simp only
 split
 ·rename_i hd
  have hl := h.len
  have hdd : deedB ⟨1, a.a % 2, 0, iT k⟩ = true := by
   unfold deedB
   simp only [if_true, Bool.and_eq_true, decide_eq_true_eq]
   exact ⟨⟨he, trivial⟩, hs⟩
  have h10 : ¬ (1 : Int) = 0 := by omega
  rcases he with he | he
  ·rw [he] at hdd
   simp only [he, if_true]
   by_cases hten : 10 < st.1 + 1
   ·rw [if_pos hten]
    exact ⟨by show st.2.2.length ≤ k + 1; omega, h.deed, h.f0, h.f1, by show _ ≤ st.1 + 1 ∧ st.1 + 1 ≤ ((k + 1 : Nat) : Int); push_cast; omega, by show _ ≤ st.2.1 ∧ st.2.1 ≤ ((k + 1 : Nat) : Int); push_cast; omega⟩
   ·rw [if_neg hten]
    refine h.put hdd (fun _ _ => by omega) (fun _ h2 => absurd h2 (by show ¬ (0 : Int) = 1; omega)) ?_ ?_
    ·rw [cntS_snoc, if_neg (fun hh => absurd hh.1 (by show ¬ (1 : Int) = 3; omega)), if_pos ⟨rfl, rfl⟩]; push_cast; omega
    ·rw [cntS_snoc, if_neg (fun hh => absurd hh.1 (by show ¬ (1 : Int) = 3; omega)), if_neg (fun hh => absurd hh.2 (by show ¬ (0 : Int) = 1; omega))]; omega
  ·rw [he] at hdd
   simp only [he, if_neg h10]
   by_cases hten : 10 < st.2.1 + 1
   ·rw [if_pos hten]
    exact ⟨by show st.2.2.length ≤ k + 1; omega, h.deed, h.f0, h.f1, by show _ ≤ st.1 ∧ st.1 ≤ ((k + 1 : Nat) : Int); push_cast; omega, by show _ ≤ st.2.1 + 1 ∧ st.2.1 + 1 ≤ ((k + 1 : Nat) : Int); push_cast; omega⟩
   ·rw [if_neg hten]
    refine h.put hdd (fun _ h2 => absurd h2 (by show ¬ (1 : Int) = 0; omega)) (fun _ _ => by omega) ?_ ?_
    ·rw [cntS_snoc, if_neg (fun hh => absurd hh.1 (by show ¬ (1 : Int) = 3; omega)), if_neg (fun hh => absurd hh.2 (by show ¬ (1 : Int) = 0; omega))]; omega
    ·rw [cntS_snoc, if_neg (fun hh => absurd hh.1 (by show ¬ (1 : Int) = 3; omega)), if_pos ⟨rfl, rfl⟩]; push_cast; omega
 ·split
  ·refine other _ (by show ¬ (2 : Int) = 1; omega) (by show ¬ (2 : Int) = 3; omega) ?_
   unfold deedB
   rcases he with he | he <;> rw [he] <;> decide
  ·split
   ·have hdd : deedB ⟨3, a.a % 2, 0, emptyT⟩ = true := by
     unfold deedB
     rcases he with he | he <;> rw [he] <;> decide
    rcases he with he | he
    ·simp only [he, if_true] at hdd ⊢
     refine h.put hdd (fun h2 => absurd h2 (by show ¬ (3 : Int) = 1; omega)) (fun h2 => absurd h2 (by show ¬ (3 : Int) = 1; omega)) ?_ ?_
     ·rw [cntS_snoc, if_pos ⟨rfl, rfl⟩]; omega
     ·rw [cntS_snoc, if_neg (fun hh => absurd hh.2 (by show ¬ (0 : Int) = 1; omega)), if_neg (fun hh => absurd hh.1 (by show ¬ (3 : Int) = 1; omega))]; omega
    ·simp only [he] at hdd ⊢
     have h10 : ¬ (1 : Int) = 0 := by omega
     simp only [if_neg h10]
     refine h.put hdd (fun h2 => absurd h2 (by show ¬ (3 : Int) = 1; omega)) (fun h2 => absurd h2 (by show ¬ (3 : Int) = 1; omega)) ?_ ?_
     ·rw [cntS_snoc, if_neg (fun hh => absurd hh.2 (by show ¬ (1 : Int) = 0; omega)), if_neg (fun hh => absurd hh.1 (by show ¬ (3 : Int) = 1; omega))]; omega
     ·rw [cntS_snoc, if_pos ⟨rfl, rfl⟩]; omega
   ·split
    ·rename_i h56
     refine other _ (by show ¬ 1 + a.d % 9 = 1; omega) (by show ¬ 1 + a.d % 9 = 3; omega) ?_
     unfold deedB
     show (if 1 + a.d % 9 = 1 then _ else if 1 + a.d % 9 = 2 ∨ 1 + a.d % 9 = 3 then _ else if 1 + a.d % 9 = 4 ∨ 1 + a.d % 9 = 5 ∨ 1 + a.d % 9 = 6 then (decide ((0 : Int) = 0) && decide (0 ≤ a.a) && decide (emptyT = emptyT)) else false) = true
     rw [if_neg (by omega), if_neg (by omega), if_pos (by omega)]
     simp only [Bool.and_eq_true, decide_eq_true_eq]
     exact ⟨⟨trivial, a3⟩, trivial⟩
    ·refine other _ (by show ¬ (4 : Int) = 1; omega) (by show ¬ (4 : Int) = 3; omega) ?_
     show (decide ((0 : Int) = 0) && decide (0 ≤ a.a) && decide (emptyT = emptyT)) = true
     simp only [Bool.and_eq_true, decide_eq_true_eq]
     exact ⟨⟨trivial, a3⟩, trivial⟩
theorem actsN_ok {l : List Ac} (ha : ∀ a ∈ l, AcOk a) : ∀ k : Nat, k ≤ 150 → k ≤ l.length → ActsOk (actsN l k) k
 | 0, _, _ => ⟨by simp [actsN], fun d hd => by simp [actsN] at hd, trivial, trivial, ⟨Int.le_refl _, Int.le_refl _⟩, ⟨Int.le_refl _, Int.le_refl _⟩⟩
 | k + 1, h1, h2 => by
  have hk : l[k]? = some l[k] := List.getElem?_eq_getElem (by omega)
  rw [actsN_succ hk]
  exact actStep_ok (actsN_ok ha k (by omega) (by omega)) (ha _ (List.mem_of_getElem? hk)) (by omega)
theorem actsD_ok {l : List Ac} (ha : ∀ a ∈ l, AcOk a) : (actsD l).length ≤ 150 ∧ (∀ d ∈ actsD l, deedB d = true) ∧ Few 0 0 (actsD l) ∧ Few 1 0 (actsD l) := by
 have h := actsN_ok ha (min l.length 150) (by omega) (by omega)
 have := h.len
 unfold actsD
 exact ⟨by omega, h.deed, h.f0, h.f1⟩
theorem acts_played {l : List Ac} (ha : ∀ a ∈ l, AcOk a) : (playedA (actsD l)).2 = 0 := by
 obtain ⟨h1, h2, _⟩ := actsD_ok ha
 unfold playedA
 rw [if_neg (by omega), if_neg (by rw [List.all_eq_true.2 h2]; decide)]
end Go.Proofs.YtejabnoidhlfaaaDoor

/- strconv.Itoa at this program: the library's contract, laid here; what is kept of the table that it reads. -/
namespace Go.Proofs.YtejabnoidhlfaaaDoor
open Go.Shelf Go.RowKit

def laysI_ren : Go.Shelf.Ren := ⟨fun | 171 => 22 | 243 => 49 | 246 => 58 | 283 => 59 | 284 => 60 | 285 => 61 | 286 => 62 | 129 => 64 | 317 => 63 | 318 => 65 | 319 => 66 | 320 => 67 | 337 => 68 | 338 => 69 | n => n, fun | 3 => 3 | 9 => 9 | 2 => 2 | 4 => 4 | 171 => 125 | 0 => 0 | 53 => 75 | 37 => 128 | 5 => 5 | 173 => 129 | 212 => 133 | 51 => 134 | 20 => 20 | 213 => 135 | 46 => 137 | 232 => 140 | 233 => 141 | n => n, fun | 17 => 0 | 18 => 1 | 19 => 2 | n => n⟩
theorem laysI : LaysM.n171 Tryd.prog laysI_ren := {
 mixed := by kernel_rfl
 f129 := Tryd.func64.trans (congrArg some (by kernel_rfl))
 f171 := Tryd.func22.trans (congrArg some (by kernel_rfl))
 f243 := Tryd.func49.trans (congrArg some (by kernel_rfl))
 f246 := Tryd.func58.trans (congrArg some (by kernel_rfl))
 f283 := Tryd.func59.trans (congrArg some (by kernel_rfl))
 f284 := Tryd.func60.trans (congrArg some (by kernel_rfl))
 f285 := Tryd.func61.trans (congrArg some (by kernel_rfl))
 f286 := Tryd.func62.trans (congrArg some (by kernel_rfl))
 f317 := Tryd.func63.trans (congrArg some (by kernel_rfl))
 f318 := Tryd.func65.trans (congrArg some (by kernel_rfl))
 f319 := Tryd.func66.trans (congrArg some (by kernel_rfl))
 f320 := Tryd.func67.trans (congrArg some (by kernel_rfl))
 f337 := Tryd.func68.trans (congrArg some (by kernel_rfl))
 f338 := Tryd.func69.trans (congrArg some (by kernel_rfl))
 t0 := Tryd.underlying0
 a0 := Tryd.isAgg0
 z0 := Tryd.sizeOf0
 v0 := Tryd.zeroValue0
 t2 := Tryd.underlying2
 a2 := Tryd.isAgg2
 z2 := Tryd.sizeOf2
 v2 := Tryd.zeroValue2
 t3 := Tryd.underlying3
 a3 := Tryd.isAgg3
 z3 := Tryd.sizeOf3
 v3 := Tryd.zeroValue3
 t4 := Tryd.underlying4
 a4 := Tryd.isAgg4
 z4 := Tryd.sizeOf4
 v4 := Tryd.zeroValue4
 t5 := Tryd.underlying5
 a5 := Tryd.isAgg5
 z5 := Tryd.sizeOf5
 v5 := Tryd.zeroValue5
 t9 := Tryd.underlying9
 a9 := Tryd.isAgg9
 z9 := Tryd.sizeOf9
 v9 := Tryd.zeroValue9
 t20 := Tryd.underlying20
 a20 := Tryd.isAgg20
 z20 := Tryd.sizeOf20
 v20 := Tryd.zeroValue20
 t37 := Tryd.underlying128
 a37 := Tryd.isAgg128
 z37 := Tryd.sizeOf128
 v37 := Tryd.zeroValue128
 t46 := Tryd.underlying137
 a46 := Tryd.isAgg137
 z46 := Tryd.sizeOf137
 v46 := Tryd.zeroValue137
 t51 := Tryd.underlying134
 a51 := Tryd.isAgg134
 z51 := Tryd.sizeOf134
 v51 := Tryd.zeroValue134
 t53 := Tryd.underlying75
 a53 := Tryd.isAgg75
 z53 := Tryd.sizeOf75
 v53 := Tryd.zeroValue75
 t171 := Tryd.underlying125
 a171 := Tryd.isAgg125
 z171 := Tryd.sizeOf125
 v171 := Tryd.zeroValue125
 t173 := Tryd.underlying129
 a173 := Tryd.isAgg129
 z173 := Tryd.sizeOf129
 v173 := Tryd.zeroValue129
 t212 := Tryd.underlying133
 a212 := Tryd.isAgg133
 z212 := Tryd.sizeOf133
 v212 := Tryd.zeroValue133
 t213 := Tryd.underlying135
 a213 := Tryd.isAgg135
 z213 := Tryd.sizeOf135
 t232 := Tryd.underlying140
 a232 := Tryd.isAgg140
 z232 := Tryd.sizeOf140
 v232 := Tryd.zeroValue140
 t233 := Tryd.underlying141
 a233 := Tryd.isAgg141
 z233 := Tryd.sizeOf141
 v233 := Tryd.zeroValue141
 g17 := by kernel_rfl
 g18 := by kernel_rfl
 g19 := by kernel_rfl
 i0 := by kernel_rfl
 i2 := by kernel_rfl
 i3 := by kernel_rfl
 i4 := by kernel_rfl
 i5 := by kernel_rfl
 i9 := by kernel_rfl
 i20 := by kernel_rfl
 i37 := by kernel_rfl
 i46 := by kernel_rfl
 i51 := by kernel_rfl
 i53 := by kernel_rfl
 i171 := by kernel_rfl
 i173 := by kernel_rfl
 i212 := by kernel_rfl
 i232 := by kernel_rfl
 i233 := by kernel_rfl
 m17 := by kernel_rfl
 m18 := by kernel_rfl
 m19 := by kernel_rfl }
/-- The table's name, as the statement lists it. -/
def powName : String := match Rows.sessOrderRow.named with
 | n :: _ => n
 | [] => Rows.sessOrderRow.program
/-- The table of powers of ten reads as it was laid. -/
def Pow (w : World) : Prop := Lib.TabIs Tryd.prog w powName .u64 Lib.pow10Tab
theorem Pow.below {w w' : World} (h : Pow w) (hb : Below w.heap.size w w') : Pow w' := by
 unfold Pow Lib.TabIs World.var? at *
 cases hg : Tryd.prog.globalNamed powName with
 | none => simp [hg] at h
 | some g =>
  simp only [hg, Option.bind_some] at h ⊢
  have hlt : g < w.heap.size := by
   rcases Nat.lt_or_ge g w.heap.size with h' | h'
   ·exact h'
   ·rw [Array.getElem?_eq_none h'] at h; simp at h
  rw [hb.block g hlt]
  exact h
theorem itoa_any (k : Nat) (hk : k < 1000) (w : World) (h : Pow w) : Calls Tryd.prog 22 #[.int .i64 (k : Int)] w fun e w' => e = .returned (.string (iT k)) ∧ Below w.heap.size w w' := by
 refine (Any.strconv_Itoa laysI (k : Int) (by omega) (by omega) w h).mono ?_
 rintro e w' ⟨rfl, n, os, rfl⟩
 refine ⟨rfl, rfl, rfl, rfl, ?_, fun j hj => ?_⟩
 ·show w.heap.size ≤ (w.heap ++ os).size
  rw [Array.size_append]
  omega
 ·show (w.heap ++ os)[j]? = w.heap[j]?
  rw [Array.getElem?_append_left hj]
end Go.Proofs.YtejabnoidhlfaaaDoor

/- Contract: acts. -/
namespace Go.Proofs.YtejabnoidhlfaaaDoor
open Go.RowKit Go.Maps

def acC (x : Ac) : List Value := [.int .u8 x.d, .int .u8 x.a]
theorem acC_len : ∀ x, (acC x).length = 2 := fun _ => rfl
def acs (l : List Ac) : List Value := l.flatMap acC
theorem acs_len (l : List Ac) : (acs l).length = l.length * 2 := flat_len acC_len l
theorem rAc : ElemRow Tryd.prog 22 79 2 2 := ElemRow.mk' (z := .agg #[.int .u8 0, .int .u8 0]) Tryd.underlying22 (by kernel_rfl) rfl (by decide) (by decide)
theorem ac_at {w : World} {A : Option Addr} {l : List Ac} {c k : Nat} (h : Cells w A (acs l)) (hk : k < l.length) : ∃ x b o, l[k]? = some x ∧ b < w.heap.size ∧ (∀ w', (Instr.indexAt 22 (.slice A l.length c) (.int .i64 (k : Int))).run Tryd.prog w' = .ok (.pointer (some ⟨b, o, none⟩)) w') ∧
  w.cell? ⟨b, o, none⟩ = some (.int .u8 x.d) ∧ w.cell? ⟨b, o + 1, none⟩ = some (.int .u8 x.a) := by
 obtain ⟨x, b, o, hx, hb, hix, hc⟩ := flat_at (c := c) h acC_len Tryd.underlying22 rAc.size_eq (by decide) hk
 exact ⟨x, b, o, hx, hb, hix, hc 0 _ rfl, hc 1 _ rfl⟩
theorem cells_pre {w : World} {A : Option Addr} {cs ds : List Value} (h : Cells w A cs) (hp : ds <+: cs) : Cells w A ds := by
 obtain ⟨hcl, b, off, hb0, hA, hc⟩ := h
 obtain ⟨r, rfl⟩ := hp
 refine ⟨by rw [List.length_append] at hcl; omega, b, off, hb0, fun hn => hA (fun h0 => hn (List.append_eq_nil_iff.1 h0).1), fun j v hj => hc j v ?_⟩
 rw [List.getElem?_append_left (List.getElem?_eq_some_iff.1 hj).1]
 exact hj
theorem acs_take (l : List Ac) (n : Nat) : acs (l.take n) <+: acs l := by
 have e1 : acs l = acs (l.take n) ++ acs (l.drop n) := by unfold acs; rw [← List.flatMap_append, List.take_append_drop]
 rw [e1]
 exact List.prefix_append _ _
/-- What acts answers. -/
def AcPost (l : List Ac) (w : World) (r : Ending) (w' : World) : Prop := ∃ D d, r = .returned (.slice D (actsD l).length d) ∧ w'.ownsRow w.heap.size 65 4 (.slice D (actsD l).length d) (actsD l).length (dds (actsD l)) ∧ Below w.heap.size w w'
set_option maxRecDepth 100000 in
set_option maxHeartbeats 8000000 in
theorem acts_any (A : Option Addr) (c N : Nat) (l : List Ac) (w : World) (h : Cells w A (acs l)) (hN : l.length = min N 150) (hc : N ≤ c) (ha : ∀ a ∈ l, AcOk a) (hP : Pow w) :
  Calls Tryd.prog 9 #[.slice A N c] w (AcPost l w) := by
 obtain ⟨n, hn⟩ : ∃ n, l.length = n := ⟨_, rfl⟩
 have hmin : min (N : Int) 150 = (n : Int) := by omega
 have hmax : max (n : Int) 0 = (n : Int) := by omega
 have hnl : n ≤ N ∧ n ≤ 150 := by omega
 have HN : Hid (min l.length 150 = n) := by show _ = _; omega
 have HC := Lib.hid h
 have HL := Lib.hid hn
 have HA := Lib.hid ha
 have HP := Lib.hid hP
 clear h ha hP hn hN
 go_enter Tryd.func9, Tryd.ntmps9
 go_wp2_with fail
 have hb0 : Below w.heap.size w (w.alloc (.cells #[.int .i64 0, .int .i64 0] 71)) := (Below.refl _ w).alloc (Nat.le_refl _) _
 have hk0 : Blk (w.alloc (.cells #[.int .i64 0, .int .i64 0] 71)) w.heap.size (.cells #[.int .i64 0, .int .i64 0] 71) := Blk.new _ _
 go_loopw [3, 15] (fun o i wr => ∃ (k : Nat) (D : Option Addr) (d : Nat), k ≤ n ∧ i = .int .i64 (k : Int) ∧ o = .slice D (actsN l k).2.2.length d ∧ wr.ownsRow w.heap.size 65 4 (.slice D (actsN l k).2.2.length d) (actsN l k).2.2.length (dds (actsN l k).2.2) ∧ Blk wr w.heap.size (.cells #[.int .i64 (actsN l k).1, .int .i64 (actsN l k).2.1] 71) ∧ Below w.heap.size w wr) (fun _ i _ => n - (intOf i).toNat)
 case atStart => exact ⟨0, none, 0, Nat.zero_le _, rfl, rfl, World.ownsRow_nil _ _ _ _, hk0, hb0⟩
 case round =>
  obtain ⟨k, D, d, hk, rfl, rfl, ho, hbk, hbl⟩ := hrel
  have HO := Lib.hid ho
  have HK := Lib.hid hbk
  have HB := Lib.hid hbl
  clear ho hbk hbl hb0 hk0
  by_cases hlt : (k : Int) < (n : Int)
  ·have hbl := HB.out
   obtain ⟨x, b, o, hx, hb, hix, hc0, hc1⟩ := ac_at (c := c) (k := k) (HC.out.below hbl (Nat.le_refl _)) (by rw [HL.out]; omega)
   rw [HL.out] at hix
   obtain ⟨a1, a2, a3, a4⟩ := HA.out x (List.mem_of_getElem? hx)
   have HX := Lib.hid hx
   obtain ⟨e, he⟩ : ∃ e, Hid (x.a % 2 = e) := ⟨_, rfl⟩
   obtain ⟨r, hr⟩ : ∃ r, Hid (x.d % 9 = r) := ⟨_, rfl⟩
   have he2 : e = 0 ∨ e = 1 := by have := he.out; omega
   have hr2 : 0 ≤ r ∧ r ≤ 8 := by have := hr.out; omega
   have hw1 : IntKind.i64.wrap x.a = x.a := wrap_ok ⟨by omega, by omega⟩
   have hw2 : IntKind.i64.wrap x.d = x.d := wrap_ok ⟨by omega, by omega⟩
   have hw3 : IntKind.i64.wrap e = e := wrap_ok ⟨by omega, by omega⟩
   have hw4 : IntKind.i64.wrap r = r := wrap_ok ⟨by omega, by omega⟩
   have ht1 : x.a.tmod 2 = e := by rw [Int.tmod_eq_emod_of_nonneg a3]; exact he.out
   have ht2 : x.d.tmod 9 = r := by rw [Int.tmod_eq_emod_of_nonneg a1]; exact hr.out
   obtain ⟨q, hq⟩ : ∃ q, Hid (1 + r = q) := ⟨_, rfl⟩
   have hw5 : IntKind.i64.wrap (1 + r) = q := by rw [← hq.out]; exact wrap_ok ⟨by omega, by omega⟩
   have hk1 : IntKind.i64.wrap ((k : Int) + 1) = (k : Int) + 1 := wrap_ok ⟨by omega, by omega⟩
   clear hx hbl a1 a2 a3 a4
   go_upto_region 8 with fail
   obtain ⟨V, hV⟩ : ∃ V, (wr.alloc (.cells #[.int .u8 x.d, .int .u8 x.a] 79)).alloc (.cells #[.int .i64 q, .int .i64 0, .int .i64 0, .string { data := #[] }] 65) = V := ⟨_, rfl⟩
   have hbv : Below wr.heap.size wr V := by rw [← hV]; exact ((Below.refl _ wr).alloc (Nat.le_refl _) _).alloc (by simp) _
   have HTV : Hid (Blk V wr.heap.size (.cells #[.int .u8 x.d, .int .u8 x.a] 79)) := by rw [← hV]; exact (Blk.new _ _).alloc _
   have HDV : Hid (Blk V (wr.heap.size + 1) (.cells #[.int .i64 q, .int .i64 0, .int .i64 0, .string { data := #[] }] 65)) := by
    rw [← hV]
    have e1 := Blk.new (wr.alloc (.cells #[.int .u8 x.d, .int .u8 x.a] 79)) (.cells #[.int .i64 q, .int .i64 0, .int .i64 0, .string { data := #[] }] 65)
    rw [World.size_alloc] at e1
    exact e1
   have HKV := Lib.hid (HK.out.below hbv HK.out.lt)
   have HBV : Hid (Below w.heap.size w V) := HB.out.trans (hbv.mono HB.out.size)
   have HOV := Lib.hid (own_frame HO.out (Frame.of_all (S := fun _ => False) hbv) (fun _ _ h => h))
   have HSZ : Hid (w.heap.size < wr.heap.size) := HK.out.lt
   rw [hV]
   obtain ⟨st, hst⟩ : ∃ st, actsN l k = st := ⟨_, rfl⟩
   have HSN : Hid (actsN l (k + 1) = actStep st k x) := by show _ = _; rw [actsN_succ HX.out, hst]
   obtain ⟨s0, s1, O⟩ := st
   rw [hst] at HKV HOV ⊢
   have HKV : Hid (Blk V w.heap.size (.cells #[.int .i64 s0, .int .i64 s1] 71)) := HKV
   have HOV : Hid (V.ownsRow w.heap.size 65 4 (.slice D O.length d) O.length (dds O)) := HOV
   dsimp only
   have HOK : Hid (ActsOk (s0, s1, O) k) := by show ActsOk _ _; rw [← hst]; exact actsN_ok HA.out k (by omega) (by have := HL.out; omega)
   have HSP : Hid ((0 : Int) ≤ (cntS 0 0 O : Int) ∧ (0 : Int) ≤ (cntS 1 0 O : Int)) := ⟨Int.natCast_nonneg _, Int.natCast_nonneg _⟩
   have HSB : Hid ((0 ≤ s0 ∧ s0 ≤ 150) ∧ (0 ≤ s1 ∧ s1 ≤ 150)) := by
    have h1 : (cntS 0 0 O : Int) ≤ s0 ∧ s0 ≤ k := HOK.out.c0
    have h2 : (cntS 1 0 O : Int) ≤ s1 ∧ s1 ≤ k := HOK.out.c1
    have := HSP.out
    show (0 ≤ s0 ∧ s0 ≤ 150) ∧ (0 ≤ s1 ∧ s1 ≤ 150)
    omega
   have HOL : Hid (O.length ≤ 1000) := by have := HOK.out.len; show O.length ≤ _; simp only at this; omega
   have HO9 : Hid (∀ g, (Value.slice D O.length d).ownBlock = some g → ¬ (g = wr.heap.size + 1 ∨ g = w.heap.size)) := fun g hg => by
    have h9 := HO.out
    rw [hst] at h9
    have h8 := (h9.lt g hg).2
    rintro (h7 | h7)
    ·omega
    ·rw [h7] at hg
     exact own_ne HOV.out HKV.out (by decide) hg
   clear hst hV hbv HO HK HB hix hc0 hc1
   have hq5 : 1 ≤ q ∧ q ≤ 9 := by have := hq.out; omega
   have u9 := HDV.out
   have u0 := u9.cell 0 (v := .int .i64 q) rfl
   have u1 := u9.cell 1 (v := .int .i64 0) rfl
   have u2 := u9.cell 2 (v := .int .i64 0) rfl
   have u3 := u9.cell 3 (v := .string { data := #[] }) rfl
   have f0 := u9.free 0
   have f1 := u9.free 1
   have f2 := u9.free 2
   have f3 := u9.free 3
   have ul := u9.lt
   clear u9
   have e1b : w.heap.size ≤ wr.heap.size + 1 := by have := HSZ.out; omega
   have e1b : w.heap.size ≤ wr.heap.size + 1 := by have := HSZ.out; omega
   have HNE : Hid (¬ wr.heap.size + 1 = w.heap.size) := by have := HSZ.out; show ¬ _; omega
   by_cases q1 : q = 1
   ·subst q1
    have k9 := HKV.out
    have k0 := k9.cell 0 (v := .int .i64 s0) rfl
    have k1 := k9.cell 1 (v := .int .i64 s1) rfl
    have g0 := k9.free 0
    have g1 := k9.free 1
    have kl := k9.lt
    clear k9
    rcases he2 with rfl | rfl
    ·have HS1 : Hid (IntKind.i64.wrap (s0 + 1) = s0 + 1) := wrap_ok (by have := HSB.out; exact ⟨by omega, by omega⟩)
     have hs1 := HS1.out
     go_upto_region 12 with fail
     obtain ⟨V1, hV1⟩ : ∃ V1, V.setCell ⟨w.heap.size, 0, none⟩ (.int .i64 (s0 + 1)) = V1 := ⟨_, rfl⟩
     have HK1 : Hid (Blk V1 w.heap.size (.cells #[.int .i64 (s0 + 1), .int .i64 s1] 71)) := by rw [← hV1]; exact HKV.out.set 0 _
     have HF1 : Hid (Frame (fun b => b = wr.heap.size + 1 ∨ b = w.heap.size) V V1) := by rw [← hV1]; exact (Frame.refl (fun b => b = wr.heap.size + 1 ∨ b = w.heap.size) V).setCell (p := ⟨w.heap.size, 0, none⟩) (.inl (.inr rfl)) _
     have HB1 : Hid (Below w.heap.size w V1) := by rw [← hV1]; exact HBV.out.setCell (p := ⟨w.heap.size, 0, none⟩) (Nat.le_refl _) _
     have HD1 : Hid (Blk V1 (wr.heap.size + 1) (.cells #[.int .i64 1, .int .i64 0, .int .i64 0, .string { data := #[] }] 65)) := by rw [← hV1]; exact HDV.out.far (by show ¬ wr.heap.size + 1 = w.heap.size; have := HSZ.out; omega) _
     have HO1 := Lib.hid (own_frame HOV.out HF1.out (fun g hg e9 => HO9.out g hg e9))
     rw [hV1]
     clear hV1 k0 k1 g0 g1 kl u0 u1 u2 u3 f0 f1 f2 f3 ul
     have v9 := HK1.out
     have v0 := v9.cell 0 (v := .int .i64 (s0 + 1)) rfl
     have vl := v9.lt
     clear v9
     by_cases hten : 10 < s0 + 1
     ·have HST : Hid (actsN l (k + 1) = ((s0 + 1), s1, O)) := by
       show _ = _
       rw [HSN.out]
       unfold actStep
       simp only [he.out, hr.out, hq.out]
       simp only [if_true]
       rw [if_pos hten]
      go_wp2_with fail
      go_roundw
      case rel =>
       refine ⟨k + 1, D, d, by omega, by go_num, ?_, ?_, ?_, HB1.out⟩
       ·rw [HST.out]
       ·rw [HST.out]; exact HO1.out
       ·rw [HST.out]; exact HK1.out
      case measure => simp [intOf]; omega
     ·have HST : Hid (actsN l (k + 1) = ((s0 + 1), s1, O ++ [(⟨1, 0, 0, iT k⟩ : Dd)])) := by
       show _ = _
       rw [HSN.out]
       unfold actStep
       simp only [he.out, hr.out, hq.out]
       simp only [if_true]
       rw [if_neg hten]
      go_wp2_with fail
      refine (itoa_any k (by omega) _ (HP.out.below HB1.out)).mono ?_
      rintro rr w5 ⟨rfl, hb5⟩
      have hd5 := HD1.out.below hb5 HD1.out.lt
      have HD5 := Lib.hid hd5
      have HK5 := Lib.hid (HK1.out.below hb5 HK1.out.lt)
      have HF5 : Hid (Frame (fun b => b = wr.heap.size + 1 ∨ b = w.heap.size) V w5) := HF1.out.trans (Frame.of_all hb5) (fun _ _ h => h)
      have HB5 : Hid (Below w.heap.size w w5) := HB1.out.trans (hb5.mono HB1.out.size)
      have u1 := hd5.cell 1 (v := .int .i64 0) rfl
      have u3 := hd5.cell 3 (v := .string { data := #[] }) rfl
      have f1 := hd5.free 1
      have f3 := hd5.free 3
      have ul := hd5.lt
      clear hd5 hb5 v0 vl
      go_upto_region 21 with fail
      -- world (w5.setCell ⟨wr.heap.size + 1, 1, none⟩ (.int .i64 0)).setCell ⟨wr.heap.size + 1, 3, none⟩ (.string (iT k)), made of V by stores: the deed's box is #[.int .i64 1, .int .i64 0, .int .i64 0, .string (iT k)], the counts' box #[.int .i64 (s0 + 1), .int .i64 s1]
      obtain ⟨U, hU⟩ : ∃ U, (w5.setCell ⟨wr.heap.size + 1, 1, none⟩ (.int .i64 0)).setCell ⟨wr.heap.size + 1, 3, none⟩ (.string (iT k)) = U := ⟨_, rfl⟩
      have HDU : Hid (Blk U (wr.heap.size + 1) (.cells #[.int .i64 1, .int .i64 0, .int .i64 0, .string (iT k)] 65)) := by rw [← hU]; exact (HD5.out.set 1 _).set 3 _
      have HKU : Hid (Blk U w.heap.size (.cells #[.int .i64 (s0 + 1), .int .i64 s1] 71)) := by rw [← hU]; exact (HK5.out.far (fun e9 => HNE.out e9.symm) _).far (fun e9 => HNE.out e9.symm) _
      have hfu : Frame (fun b => b = wr.heap.size + 1 ∨ b = w.heap.size) V U := by rw [← hU]; exact (HF5.out.setCell (p := ⟨wr.heap.size + 1, 1, none⟩) (.inl (.inl rfl)) _).setCell (p := ⟨wr.heap.size + 1, 3, none⟩) (.inl (.inl rfl)) _
      have HBU : Hid (Below w.heap.size w U) := by rw [← hU]; exact (HB5.out.setCell (p := ⟨wr.heap.size + 1, 1, none⟩) e1b _).setCell (p := ⟨wr.heap.size + 1, 3, none⟩) e1b _
      have HOU := Lib.hid (own_frame HOV.out hfu (fun g hg e9 => HO9.out g hg e9))
      rw [hU]
      clear hU hfu
      clear u1 u3 f1 f3 ul
      -- the deed is in its box: it goes to the list
      have hbu := HBU.out.size
      have hdl := HDU.out.lt
      have d9 := HDU.out
      have d0 := d9.cell 0 (v := .int .i64 ((⟨1, 0, 0, iT k⟩ : Dd) : Dd).do_) rfl
      have d1 := d9.cell 1 (v := .int .i64 ((⟨1, 0, 0, iT k⟩ : Dd) : Dd).end_) rfl
      have d2 := d9.cell 2 (v := .int .i64 ((⟨1, 0, 0, iT k⟩ : Dd) : Dd).at_) rfl
      have d3 := d9.cell 3 (v := .string ((⟨1, 0, 0, iT k⟩ : Dd) : Dd).t) rfl
      simp only at d0 d1 d2 d3
      clear d9
      go_wp2_with (at_builtin; go_must (refine wpList_app1' rDd _ rfl _ _ rfl HOU.out rfl [_, _, _, _] 1 rfl rfl (by simp [Value.oneCell']) (by have := HOL.out; omega) hbu ?_); intro v6 w6 ho6 hB6 hg6 hloc6; obtain ⟨D6, d6, rfl⟩ := own_fits ho6)
      have HB6 : Hid (Below w.heap.size w w6) := HBU.out.trans hB6
      have HK6 := Lib.hid (HKU.out.grown hg6 (own_ne HOU.out HKU.out (by decide)))
      have HO6 := Lib.hid ho6
      clear ho6 hB6 hg6 hloc6 d0 d1 d2 d3
      go_wp2_with fail
      go_roundw
      case rel =>
       have e1 : (O ++ [(⟨1, 0, 0, iT k⟩ : Dd)]).length = O.length + 1 := by simp
       have e2 : dds (O ++ [(⟨1, 0, 0, iT k⟩ : Dd)]) = dds O ++ ddC (⟨1, 0, 0, iT k⟩ : Dd) := by simp [dds]
       refine ⟨k + 1, D6, d6, by omega, by go_num, ?_, ?_, ?_, HB6.out⟩
       ·rw [HST.out, e1]
       ·rw [HST.out, e1, e2]; exact HO6.out
       ·rw [HST.out]; exact HK6.out
      case measure => simp [intOf]; omega
    ·have HS1 : Hid (IntKind.i64.wrap (s1 + 1) = s1 + 1) := wrap_ok (by have := HSB.out; exact ⟨by omega, by omega⟩)
     have hs1 := HS1.out
     go_upto_region 12 with fail
     obtain ⟨V1, hV1⟩ : ∃ V1, V.setCell ⟨w.heap.size, 1, none⟩ (.int .i64 (s1 + 1)) = V1 := ⟨_, rfl⟩
     have HK1 : Hid (Blk V1 w.heap.size (.cells #[.int .i64 s0, .int .i64 (s1 + 1)] 71)) := by rw [← hV1]; exact HKV.out.set 1 _
     have HF1 : Hid (Frame (fun b => b = wr.heap.size + 1 ∨ b = w.heap.size) V V1) := by rw [← hV1]; exact (Frame.refl (fun b => b = wr.heap.size + 1 ∨ b = w.heap.size) V).setCell (p := ⟨w.heap.size, 1, none⟩) (.inl (.inr rfl)) _
     have HB1 : Hid (Below w.heap.size w V1) := by rw [← hV1]; exact HBV.out.setCell (p := ⟨w.heap.size, 1, none⟩) (Nat.le_refl _) _
     have HD1 : Hid (Blk V1 (wr.heap.size + 1) (.cells #[.int .i64 1, .int .i64 0, .int .i64 0, .string { data := #[] }] 65)) := by rw [← hV1]; exact HDV.out.far (by show ¬ wr.heap.size + 1 = w.heap.size; have := HSZ.out; omega) _
     have HO1 := Lib.hid (own_frame HOV.out HF1.out (fun g hg e9 => HO9.out g hg e9))
     rw [hV1]
     clear hV1 k0 k1 g0 g1 kl u0 u1 u2 u3 f0 f1 f2 f3 ul
     have v9 := HK1.out
     have v0 := v9.cell 1 (v := .int .i64 (s1 + 1)) rfl
     have vl := v9.lt
     clear v9
     by_cases hten : 10 < s1 + 1
     ·have HST : Hid (actsN l (k + 1) = (s0, (s1 + 1), O)) := by
       show _ = _
       rw [HSN.out]
       unfold actStep
       simp only [he.out, hr.out, hq.out]
       simp only [if_true, if_neg (show ¬ (1 : Int) = 0 by omega)]
       rw [if_pos hten]
      go_wp2_with fail
      go_roundw
      case rel =>
       refine ⟨k + 1, D, d, by omega, by go_num, ?_, ?_, ?_, HB1.out⟩
       ·rw [HST.out]
       ·rw [HST.out]; exact HO1.out
       ·rw [HST.out]; exact HK1.out
      case measure => simp [intOf]; omega
     ·have HST : Hid (actsN l (k + 1) = (s0, (s1 + 1), O ++ [(⟨1, 1, 0, iT k⟩ : Dd)])) := by
       show _ = _
       rw [HSN.out]
       unfold actStep
       simp only [he.out, hr.out, hq.out]
       simp only [if_true, if_neg (show ¬ (1 : Int) = 0 by omega)]
       rw [if_neg hten]
      go_wp2_with fail
      refine (itoa_any k (by omega) _ (HP.out.below HB1.out)).mono ?_
      rintro rr w5 ⟨rfl, hb5⟩
      have hd5 := HD1.out.below hb5 HD1.out.lt
      have HD5 := Lib.hid hd5
      have HK5 := Lib.hid (HK1.out.below hb5 HK1.out.lt)
      have HF5 : Hid (Frame (fun b => b = wr.heap.size + 1 ∨ b = w.heap.size) V w5) := HF1.out.trans (Frame.of_all hb5) (fun _ _ h => h)
      have HB5 : Hid (Below w.heap.size w w5) := HB1.out.trans (hb5.mono HB1.out.size)
      have u1 := hd5.cell 1 (v := .int .i64 0) rfl
      have u3 := hd5.cell 3 (v := .string { data := #[] }) rfl
      have f1 := hd5.free 1
      have f3 := hd5.free 3
      have ul := hd5.lt
      clear hd5 hb5 v0 vl
      go_upto_region 21 with fail
      -- world (w5.setCell ⟨wr.heap.size + 1, 1, none⟩ (.int .i64 1)).setCell ⟨wr.heap.size + 1, 3, none⟩ (.string (iT k)), made of V by stores: the deed's box is #[.int .i64 1, .int .i64 1, .int .i64 0, .string (iT k)], the counts' box #[.int .i64 s0, .int .i64 (s1 + 1)]
      obtain ⟨U, hU⟩ : ∃ U, (w5.setCell ⟨wr.heap.size + 1, 1, none⟩ (.int .i64 1)).setCell ⟨wr.heap.size + 1, 3, none⟩ (.string (iT k)) = U := ⟨_, rfl⟩
      have HDU : Hid (Blk U (wr.heap.size + 1) (.cells #[.int .i64 1, .int .i64 1, .int .i64 0, .string (iT k)] 65)) := by rw [← hU]; exact (HD5.out.set 1 _).set 3 _
      have HKU : Hid (Blk U w.heap.size (.cells #[.int .i64 s0, .int .i64 (s1 + 1)] 71)) := by rw [← hU]; exact (HK5.out.far (fun e9 => HNE.out e9.symm) _).far (fun e9 => HNE.out e9.symm) _
      have hfu : Frame (fun b => b = wr.heap.size + 1 ∨ b = w.heap.size) V U := by rw [← hU]; exact (HF5.out.setCell (p := ⟨wr.heap.size + 1, 1, none⟩) (.inl (.inl rfl)) _).setCell (p := ⟨wr.heap.size + 1, 3, none⟩) (.inl (.inl rfl)) _
      have HBU : Hid (Below w.heap.size w U) := by rw [← hU]; exact (HB5.out.setCell (p := ⟨wr.heap.size + 1, 1, none⟩) e1b _).setCell (p := ⟨wr.heap.size + 1, 3, none⟩) e1b _
      have HOU := Lib.hid (own_frame HOV.out hfu (fun g hg e9 => HO9.out g hg e9))
      rw [hU]
      clear hU hfu
      clear u1 u3 f1 f3 ul
      -- the deed is in its box: it goes to the list
      have hbu := HBU.out.size
      have hdl := HDU.out.lt
      have d9 := HDU.out
      have d0 := d9.cell 0 (v := .int .i64 ((⟨1, 1, 0, iT k⟩ : Dd) : Dd).do_) rfl
      have d1 := d9.cell 1 (v := .int .i64 ((⟨1, 1, 0, iT k⟩ : Dd) : Dd).end_) rfl
      have d2 := d9.cell 2 (v := .int .i64 ((⟨1, 1, 0, iT k⟩ : Dd) : Dd).at_) rfl
      have d3 := d9.cell 3 (v := .string ((⟨1, 1, 0, iT k⟩ : Dd) : Dd).t) rfl
      simp only at d0 d1 d2 d3
      clear d9
      go_wp2_with (at_builtin; go_must (refine wpList_app1' rDd _ rfl _ _ rfl HOU.out rfl [_, _, _, _] 1 rfl rfl (by simp [Value.oneCell']) (by have := HOL.out; omega) hbu ?_); intro v6 w6 ho6 hB6 hg6 hloc6; obtain ⟨D6, d6, rfl⟩ := own_fits ho6)
      have HB6 : Hid (Below w.heap.size w w6) := HBU.out.trans hB6
      have HK6 := Lib.hid (HKU.out.grown hg6 (own_ne HOU.out HKU.out (by decide)))
      have HO6 := Lib.hid ho6
      clear ho6 hB6 hg6 hloc6 d0 d1 d2 d3
      go_wp2_with fail
      go_roundw
      case rel =>
       have e1 : (O ++ [(⟨1, 1, 0, iT k⟩ : Dd)]).length = O.length + 1 := by simp
       have e2 : dds (O ++ [(⟨1, 1, 0, iT k⟩ : Dd)]) = dds O ++ ddC (⟨1, 1, 0, iT k⟩ : Dd) := by simp [dds]
       refine ⟨k + 1, D6, d6, by omega, by go_num, ?_, ?_, ?_, HB6.out⟩
       ·rw [HST.out, e1]
       ·rw [HST.out, e1, e2]; exact HO6.out
       ·rw [HST.out]; exact HK6.out
      case measure => simp [intOf]; omega
   by_cases q2 : q = 2
   ·subst q2
    have HST : Hid (actsN l (k + 1) = (s0, s1, O ++ [(⟨2, e, 0, emptyT⟩ : Dd)])) := by
     show _ = _
     rw [HSN.out]
     unfold actStep
     simp only [he.out, hr.out, hq.out]
     rfl
    go_upto_region 21 with fail
    -- world V.setCell ⟨wr.heap.size + 1, 1, none⟩ (.int .i64 e), made of V by stores: the deed's box is #[.int .i64 2, .int .i64 e, .int .i64 0, .string emptyT], the counts' box #[.int .i64 s0, .int .i64 s1]
    obtain ⟨U, hU⟩ : ∃ U, V.setCell ⟨wr.heap.size + 1, 1, none⟩ (.int .i64 e) = U := ⟨_, rfl⟩
    have HDU : Hid (Blk U (wr.heap.size + 1) (.cells #[.int .i64 2, .int .i64 e, .int .i64 0, .string emptyT] 65)) := by rw [← hU]; exact HDV.out.set 1 _
    have HKU : Hid (Blk U w.heap.size (.cells #[.int .i64 s0, .int .i64 s1] 71)) := by rw [← hU]; exact HKV.out.far (fun e9 => HNE.out e9.symm) _
    have hfu : Frame (fun b => b = wr.heap.size + 1 ∨ b = w.heap.size) V U := by rw [← hU]; exact (Frame.refl (fun b => b = wr.heap.size + 1 ∨ b = w.heap.size) V).setCell (p := ⟨wr.heap.size + 1, 1, none⟩) (.inl (.inl rfl)) _
    have HBU : Hid (Below w.heap.size w U) := by rw [← hU]; exact HBV.out.setCell (p := ⟨wr.heap.size + 1, 1, none⟩) e1b _
    have HOU := Lib.hid (own_frame HOV.out hfu (fun g hg e9 => HO9.out g hg e9))
    rw [hU]
    clear hU hfu
    clear u0 u1 u2 u3 f0 f1 f2 f3 ul
    -- the deed is in its box: it goes to the list
    have hbu := HBU.out.size
    have hdl := HDU.out.lt
    have d9 := HDU.out
    have d0 := d9.cell 0 (v := .int .i64 ((⟨2, e, 0, emptyT⟩ : Dd) : Dd).do_) rfl
    have d1 := d9.cell 1 (v := .int .i64 ((⟨2, e, 0, emptyT⟩ : Dd) : Dd).end_) rfl
    have d2 := d9.cell 2 (v := .int .i64 ((⟨2, e, 0, emptyT⟩ : Dd) : Dd).at_) rfl
    have d3 := d9.cell 3 (v := .string ((⟨2, e, 0, emptyT⟩ : Dd) : Dd).t) rfl
    simp only at d0 d1 d2 d3
    clear d9
    go_wp2_with (at_builtin; go_must (refine wpList_app1' rDd _ rfl _ _ rfl HOU.out rfl [_, _, _, _] 1 rfl rfl (by simp [Value.oneCell']) (by have := HOL.out; omega) hbu ?_); intro v6 w6 ho6 hB6 hg6 hloc6; obtain ⟨D6, d6, rfl⟩ := own_fits ho6)
    have HB6 : Hid (Below w.heap.size w w6) := HBU.out.trans hB6
    have HK6 := Lib.hid (HKU.out.grown hg6 (own_ne HOU.out HKU.out (by decide)))
    have HO6 := Lib.hid ho6
    clear ho6 hB6 hg6 hloc6 d0 d1 d2 d3
    go_wp2_with fail
    go_roundw
    case rel =>
     have e1 : (O ++ [(⟨2, e, 0, emptyT⟩ : Dd)]).length = O.length + 1 := by simp
     have e2 : dds (O ++ [(⟨2, e, 0, emptyT⟩ : Dd)]) = dds O ++ ddC (⟨2, e, 0, emptyT⟩ : Dd) := by simp [dds]
     refine ⟨k + 1, D6, d6, by omega, by go_num, ?_, ?_, ?_, HB6.out⟩
     ·rw [HST.out, e1]
     ·rw [HST.out, e1, e2]; exact HO6.out
     ·rw [HST.out]; exact HK6.out
    case measure => simp [intOf]; omega
   by_cases q3 : q = 3
   ·subst q3
    have k9 := HKV.out
    have k0 := k9.cell 0 (v := .int .i64 s0) rfl
    have k1 := k9.cell 1 (v := .int .i64 s1) rfl
    have g0 := k9.free 0
    have g1 := k9.free 1
    have kl := k9.lt
    clear k9
    rcases he2 with rfl | rfl
    ·have HST : Hid (actsN l (k + 1) = (0, s1, O ++ [(⟨3, 0, 0, emptyT⟩ : Dd)])) := by
      show _ = _
      rw [HSN.out]
      unfold actStep
      simp only [he.out, hr.out, hq.out]
      rfl
     go_upto_region 21 with fail
     -- world (V.setCell ⟨wr.heap.size + 1, 1, none⟩ (.int .i64 0)).setCell ⟨w.heap.size, 0, none⟩ (.int .i64 0), made of V by stores: the deed's box is #[.int .i64 3, .int .i64 0, .int .i64 0, .string emptyT], the counts' box #[.int .i64 0, .int .i64 s1]
     obtain ⟨U, hU⟩ : ∃ U, (V.setCell ⟨wr.heap.size + 1, 1, none⟩ (.int .i64 0)).setCell ⟨w.heap.size, 0, none⟩ (.int .i64 0) = U := ⟨_, rfl⟩
     have HDU : Hid (Blk U (wr.heap.size + 1) (.cells #[.int .i64 3, .int .i64 0, .int .i64 0, .string emptyT] 65)) := by rw [← hU]; exact (HDV.out.set 1 _).far HNE.out _
     have HKU : Hid (Blk U w.heap.size (.cells #[.int .i64 0, .int .i64 s1] 71)) := by rw [← hU]; exact (HKV.out.far (fun e9 => HNE.out e9.symm) _).set 0 _
     have hfu : Frame (fun b => b = wr.heap.size + 1 ∨ b = w.heap.size) V U := by rw [← hU]; exact ((Frame.refl (fun b => b = wr.heap.size + 1 ∨ b = w.heap.size) V).setCell (p := ⟨wr.heap.size + 1, 1, none⟩) (.inl (.inl rfl)) _).setCell (p := ⟨w.heap.size, 0, none⟩) (.inl (.inr rfl)) _
     have HBU : Hid (Below w.heap.size w U) := by rw [← hU]; exact (HBV.out.setCell (p := ⟨wr.heap.size + 1, 1, none⟩) e1b _).setCell (p := ⟨w.heap.size, 0, none⟩) (Nat.le_refl _) _
     have HOU := Lib.hid (own_frame HOV.out hfu (fun g hg e9 => HO9.out g hg e9))
     rw [hU]
     clear hU hfu
     clear k0 k1 g0 g1 kl u0 u1 u2 u3 f0 f1 f2 f3 ul
     -- the deed is in its box: it goes to the list
     have hbu := HBU.out.size
     have hdl := HDU.out.lt
     have d9 := HDU.out
     have d0 := d9.cell 0 (v := .int .i64 ((⟨3, 0, 0, emptyT⟩ : Dd) : Dd).do_) rfl
     have d1 := d9.cell 1 (v := .int .i64 ((⟨3, 0, 0, emptyT⟩ : Dd) : Dd).end_) rfl
     have d2 := d9.cell 2 (v := .int .i64 ((⟨3, 0, 0, emptyT⟩ : Dd) : Dd).at_) rfl
     have d3 := d9.cell 3 (v := .string ((⟨3, 0, 0, emptyT⟩ : Dd) : Dd).t) rfl
     simp only at d0 d1 d2 d3
     clear d9
     go_wp2_with (at_builtin; go_must (refine wpList_app1' rDd _ rfl _ _ rfl HOU.out rfl [_, _, _, _] 1 rfl rfl (by simp [Value.oneCell']) (by have := HOL.out; omega) hbu ?_); intro v6 w6 ho6 hB6 hg6 hloc6; obtain ⟨D6, d6, rfl⟩ := own_fits ho6)
     have HB6 : Hid (Below w.heap.size w w6) := HBU.out.trans hB6
     have HK6 := Lib.hid (HKU.out.grown hg6 (own_ne HOU.out HKU.out (by decide)))
     have HO6 := Lib.hid ho6
     clear ho6 hB6 hg6 hloc6 d0 d1 d2 d3
     go_wp2_with fail
     go_roundw
     case rel =>
      have e1 : (O ++ [(⟨3, 0, 0, emptyT⟩ : Dd)]).length = O.length + 1 := by simp
      have e2 : dds (O ++ [(⟨3, 0, 0, emptyT⟩ : Dd)]) = dds O ++ ddC (⟨3, 0, 0, emptyT⟩ : Dd) := by simp [dds]
      refine ⟨k + 1, D6, d6, by omega, by go_num, ?_, ?_, ?_, HB6.out⟩
      ·rw [HST.out, e1]
      ·rw [HST.out, e1, e2]; exact HO6.out
      ·rw [HST.out]; exact HK6.out
     case measure => simp [intOf]; omega
    ·have hn1 := HNE.out
     have hn2 : ¬ w.heap.size = wr.heap.size + 1 := fun h9 => hn1 h9.symm
     have HST : Hid (actsN l (k + 1) = (s0, 0, O ++ [(⟨3, 1, 0, emptyT⟩ : Dd)])) := by
      show _ = _
      rw [HSN.out]
      unfold actStep
      simp only [he.out, hr.out, hq.out]
      rfl
     go_upto_region 21 with fail
     -- world (V.setCell ⟨wr.heap.size + 1, 1, none⟩ (.int .i64 1)).setCell ⟨w.heap.size, 1, none⟩ (.int .i64 0), made of V by stores: the deed's box is #[.int .i64 3, .int .i64 1, .int .i64 0, .string emptyT], the counts' box #[.int .i64 s0, .int .i64 0]
     obtain ⟨U, hU⟩ : ∃ U, (V.setCell ⟨wr.heap.size + 1, 1, none⟩ (.int .i64 1)).setCell ⟨w.heap.size, 1, none⟩ (.int .i64 0) = U := ⟨_, rfl⟩
     have HDU : Hid (Blk U (wr.heap.size + 1) (.cells #[.int .i64 3, .int .i64 1, .int .i64 0, .string emptyT] 65)) := by rw [← hU]; exact (HDV.out.set 1 _).far HNE.out _
     have HKU : Hid (Blk U w.heap.size (.cells #[.int .i64 s0, .int .i64 0] 71)) := by rw [← hU]; exact (HKV.out.far (fun e9 => HNE.out e9.symm) _).set 1 _
     have hfu : Frame (fun b => b = wr.heap.size + 1 ∨ b = w.heap.size) V U := by rw [← hU]; exact ((Frame.refl (fun b => b = wr.heap.size + 1 ∨ b = w.heap.size) V).setCell (p := ⟨wr.heap.size + 1, 1, none⟩) (.inl (.inl rfl)) _).setCell (p := ⟨w.heap.size, 1, none⟩) (.inl (.inr rfl)) _
     have HBU : Hid (Below w.heap.size w U) := by rw [← hU]; exact (HBV.out.setCell (p := ⟨wr.heap.size + 1, 1, none⟩) e1b _).setCell (p := ⟨w.heap.size, 1, none⟩) (Nat.le_refl _) _
     have HOU := Lib.hid (own_frame HOV.out hfu (fun g hg e9 => HO9.out g hg e9))
     rw [hU]
     clear hU hfu
     clear k0 k1 g0 g1 kl u0 u1 u2 u3 f0 f1 f2 f3 ul
     -- the deed is in its box: it goes to the list
     have hbu := HBU.out.size
     have hdl := HDU.out.lt
     have d9 := HDU.out
     have d0 := d9.cell 0 (v := .int .i64 ((⟨3, 1, 0, emptyT⟩ : Dd) : Dd).do_) rfl
     have d1 := d9.cell 1 (v := .int .i64 ((⟨3, 1, 0, emptyT⟩ : Dd) : Dd).end_) rfl
     have d2 := d9.cell 2 (v := .int .i64 ((⟨3, 1, 0, emptyT⟩ : Dd) : Dd).at_) rfl
     have d3 := d9.cell 3 (v := .string ((⟨3, 1, 0, emptyT⟩ : Dd) : Dd).t) rfl
     simp only at d0 d1 d2 d3
     clear d9
     go_wp2_with (at_builtin; go_must (refine wpList_app1' rDd _ rfl _ _ rfl HOU.out rfl [_, _, _, _] 1 rfl rfl (by simp [Value.oneCell']) (by have := HOL.out; omega) hbu ?_); intro v6 w6 ho6 hB6 hg6 hloc6; obtain ⟨D6, d6, rfl⟩ := own_fits ho6)
     have HB6 : Hid (Below w.heap.size w w6) := HBU.out.trans hB6
     have HK6 := Lib.hid (HKU.out.grown hg6 (own_ne HOU.out HKU.out (by decide)))
     have HO6 := Lib.hid ho6
     clear ho6 hB6 hg6 hloc6 d0 d1 d2 d3
     go_wp2_with fail
     go_roundw
     case rel =>
      have e1 : (O ++ [(⟨3, 1, 0, emptyT⟩ : Dd)]).length = O.length + 1 := by simp
      have e2 : dds (O ++ [(⟨3, 1, 0, emptyT⟩ : Dd)]) = dds O ++ ddC (⟨3, 1, 0, emptyT⟩ : Dd) := by simp [dds]
      refine ⟨k + 1, D6, d6, by omega, by go_num, ?_, ?_, ?_, HB6.out⟩
      ·rw [HST.out, e1]
      ·rw [HST.out, e1, e2]; exact HO6.out
      ·rw [HST.out]; exact HK6.out
     case measure => simp [intOf]; omega
   have b1 : (q == 1) = false := beq_eq_false_iff_ne.2 q1
   have b2 : (q == 2) = false := beq_eq_false_iff_ne.2 q2
   have b3 : (q == 3) = false := beq_eq_false_iff_ne.2 q3
   have t9 := HTV.out
   have t1 := t9.cell 1 (v := .int .u8 x.a) rfl
   have tl := t9.lt
   clear t9
   by_cases q5 : q = 5 ∨ q = 6
   ·have HST : Hid (actsN l (k + 1) = (s0, s1, O ++ [(⟨q, 0, x.a, emptyT⟩ : Dd)])) := by
     show _ = _
     rw [HSN.out]
     unfold actStep
     simp only [he.out, hr.out, hq.out]
     rw [if_neg q1, if_neg q2, if_neg q3, if_pos q5]
    rcases q5 with rfl | rfl
    ·clear q1 q2 q3 b1 b2 b3
     go_upto_region 21 with fail
     -- world V.setCell ⟨wr.heap.size + 1, 2, none⟩ (.int .i64 x.a), made of V by stores: the deed's box is #[.int .i64 5, .int .i64 0, .int .i64 x.a, .string emptyT], the counts' box #[.int .i64 s0, .int .i64 s1]
     obtain ⟨U, hU⟩ : ∃ U, V.setCell ⟨wr.heap.size + 1, 2, none⟩ (.int .i64 x.a) = U := ⟨_, rfl⟩
     have HDU : Hid (Blk U (wr.heap.size + 1) (.cells #[.int .i64 5, .int .i64 0, .int .i64 x.a, .string emptyT] 65)) := by rw [← hU]; exact HDV.out.set 2 _
     have HKU : Hid (Blk U w.heap.size (.cells #[.int .i64 s0, .int .i64 s1] 71)) := by rw [← hU]; exact HKV.out.far (fun e9 => HNE.out e9.symm) _
     have hfu : Frame (fun b => b = wr.heap.size + 1 ∨ b = w.heap.size) V U := by rw [← hU]; exact (Frame.refl (fun b => b = wr.heap.size + 1 ∨ b = w.heap.size) V).setCell (p := ⟨wr.heap.size + 1, 2, none⟩) (.inl (.inl rfl)) _
     have HBU : Hid (Below w.heap.size w U) := by rw [← hU]; exact HBV.out.setCell (p := ⟨wr.heap.size + 1, 2, none⟩) e1b _
     have HOU := Lib.hid (own_frame HOV.out hfu (fun g hg e9 => HO9.out g hg e9))
     rw [hU]
     clear hU hfu
     clear u0 u1 u2 u3 f0 f1 f2 f3 ul t1 tl
     -- the deed is in its box: it goes to the list
     have hbu := HBU.out.size
     have hdl := HDU.out.lt
     have d9 := HDU.out
     have d0 := d9.cell 0 (v := .int .i64 ((⟨5, 0, x.a, emptyT⟩ : Dd) : Dd).do_) rfl
     have d1 := d9.cell 1 (v := .int .i64 ((⟨5, 0, x.a, emptyT⟩ : Dd) : Dd).end_) rfl
     have d2 := d9.cell 2 (v := .int .i64 ((⟨5, 0, x.a, emptyT⟩ : Dd) : Dd).at_) rfl
     have d3 := d9.cell 3 (v := .string ((⟨5, 0, x.a, emptyT⟩ : Dd) : Dd).t) rfl
     simp only at d0 d1 d2 d3
     clear d9
     go_wp2_with (at_builtin; go_must (refine wpList_app1' rDd _ rfl _ _ rfl HOU.out rfl [_, _, _, _] 1 rfl rfl (by simp [Value.oneCell']) (by have := HOL.out; omega) hbu ?_); intro v6 w6 ho6 hB6 hg6 hloc6; obtain ⟨D6, d6, rfl⟩ := own_fits ho6)
     have HB6 : Hid (Below w.heap.size w w6) := HBU.out.trans hB6
     have HK6 := Lib.hid (HKU.out.grown hg6 (own_ne HOU.out HKU.out (by decide)))
     have HO6 := Lib.hid ho6
     clear ho6 hB6 hg6 hloc6 d0 d1 d2 d3
     go_wp2_with fail
     go_roundw
     case rel =>
      have e1 : (O ++ [(⟨5, 0, x.a, emptyT⟩ : Dd)]).length = O.length + 1 := by simp
      have e2 : dds (O ++ [(⟨5, 0, x.a, emptyT⟩ : Dd)]) = dds O ++ ddC (⟨5, 0, x.a, emptyT⟩ : Dd) := by simp [dds]
      refine ⟨k + 1, D6, d6, by omega, by go_num, ?_, ?_, ?_, HB6.out⟩
      ·rw [HST.out, e1]
      ·rw [HST.out, e1, e2]; exact HO6.out
      ·rw [HST.out]; exact HK6.out
     case measure => simp [intOf]; omega
    ·clear q1 q2 q3 b1 b2 b3
     go_upto_region 21 with fail
     -- world V.setCell ⟨wr.heap.size + 1, 2, none⟩ (.int .i64 x.a), made of V by stores: the deed's box is #[.int .i64 6, .int .i64 0, .int .i64 x.a, .string emptyT], the counts' box #[.int .i64 s0, .int .i64 s1]
     obtain ⟨U, hU⟩ : ∃ U, V.setCell ⟨wr.heap.size + 1, 2, none⟩ (.int .i64 x.a) = U := ⟨_, rfl⟩
     have HDU : Hid (Blk U (wr.heap.size + 1) (.cells #[.int .i64 6, .int .i64 0, .int .i64 x.a, .string emptyT] 65)) := by rw [← hU]; exact HDV.out.set 2 _
     have HKU : Hid (Blk U w.heap.size (.cells #[.int .i64 s0, .int .i64 s1] 71)) := by rw [← hU]; exact HKV.out.far (fun e9 => HNE.out e9.symm) _
     have hfu : Frame (fun b => b = wr.heap.size + 1 ∨ b = w.heap.size) V U := by rw [← hU]; exact (Frame.refl (fun b => b = wr.heap.size + 1 ∨ b = w.heap.size) V).setCell (p := ⟨wr.heap.size + 1, 2, none⟩) (.inl (.inl rfl)) _
     have HBU : Hid (Below w.heap.size w U) := by rw [← hU]; exact HBV.out.setCell (p := ⟨wr.heap.size + 1, 2, none⟩) e1b _
     have HOU := Lib.hid (own_frame HOV.out hfu (fun g hg e9 => HO9.out g hg e9))
     rw [hU]
     clear hU hfu
     clear u0 u1 u2 u3 f0 f1 f2 f3 ul t1 tl
     -- the deed is in its box: it goes to the list
     have hbu := HBU.out.size
     have hdl := HDU.out.lt
     have d9 := HDU.out
     have d0 := d9.cell 0 (v := .int .i64 ((⟨6, 0, x.a, emptyT⟩ : Dd) : Dd).do_) rfl
     have d1 := d9.cell 1 (v := .int .i64 ((⟨6, 0, x.a, emptyT⟩ : Dd) : Dd).end_) rfl
     have d2 := d9.cell 2 (v := .int .i64 ((⟨6, 0, x.a, emptyT⟩ : Dd) : Dd).at_) rfl
     have d3 := d9.cell 3 (v := .string ((⟨6, 0, x.a, emptyT⟩ : Dd) : Dd).t) rfl
     simp only at d0 d1 d2 d3
     clear d9
     go_wp2_with (at_builtin; go_must (refine wpList_app1' rDd _ rfl _ _ rfl HOU.out rfl [_, _, _, _] 1 rfl rfl (by simp [Value.oneCell']) (by have := HOL.out; omega) hbu ?_); intro v6 w6 ho6 hB6 hg6 hloc6; obtain ⟨D6, d6, rfl⟩ := own_fits ho6)
     have HB6 : Hid (Below w.heap.size w w6) := HBU.out.trans hB6
     have HK6 := Lib.hid (HKU.out.grown hg6 (own_ne HOU.out HKU.out (by decide)))
     have HO6 := Lib.hid ho6
     clear ho6 hB6 hg6 hloc6 d0 d1 d2 d3
     go_wp2_with fail
     go_roundw
     case rel =>
      have e1 : (O ++ [(⟨6, 0, x.a, emptyT⟩ : Dd)]).length = O.length + 1 := by simp
      have e2 : dds (O ++ [(⟨6, 0, x.a, emptyT⟩ : Dd)]) = dds O ++ ddC (⟨6, 0, x.a, emptyT⟩ : Dd) := by simp [dds]
      refine ⟨k + 1, D6, d6, by omega, by go_num, ?_, ?_, ?_, HB6.out⟩
      ·rw [HST.out, e1]
      ·rw [HST.out, e1, e2]; exact HO6.out
      ·rw [HST.out]; exact HK6.out
     case measure => simp [intOf]; omega
   ·have b5 : (q == 5) = false := beq_eq_false_iff_ne.2 (fun h => q5 (.inl h))
    have b6 : (q == 6) = false := beq_eq_false_iff_ne.2 (fun h => q5 (.inr h))
    have HST : Hid (actsN l (k + 1) = (s0, s1, O ++ [(⟨4, 0, x.a, emptyT⟩ : Dd)])) := by
     show _ = _
     rw [HSN.out]
     unfold actStep
     simp only [he.out, hr.out, hq.out]
     rw [if_neg q1, if_neg q2, if_neg q3, if_neg q5]
    clear q1 q2 q3 q5
    go_upto_region 9 with fail
    refine draw (fun w' => Frame (fun b => b = wr.heap.size + 1 ∨ b = w.heap.size) V w') 7 rfl (by kernel_rfl) (fun Qd hQd => ?_)
    apply anyI_step 0 rfl (by kernel_rfl)
    focus (intro wI hI Kv hKv; have t9 := HTV.out.frame hI (by have := HSZ.out; omega); have t1 := t9.cell 1 (v := .int .u8 x.a) rfl; have tl := t9.lt; clear t9; go_simp; exact hKv)
    intro Kd hKd
    go_simp
    refine hKd _ ?_
    clear hKd Kd
    apply anyI_step 3 rfl (by kernel_rfl)
    focus (intro wI hI Kv hKv; have t9 := HTV.out.frame hI (by have := HSZ.out; omega); have t1 := t9.cell 1 (v := .int .u8 x.a) rfl; have tl := t9.lt; clear t9; go_simp; exact hKv)
    intro Kd hKd
    go_simp
    refine hKd _ ?_
    clear hKd Kd
    apply anyI_step 1 rfl (by kernel_rfl)
    focus (intro wI hI Kv hKv; have t9 := HTV.out.frame hI (by have := HSZ.out; omega); have t1 := t9.cell 1 (v := .int .u8 x.a) rfl; have tl := t9.lt; clear t9; go_simp; exact hKv)
    intro Kd hKd
    go_simp
    refine hKd _ ?_
    clear hKd Kd
    apply anyI_step 2 rfl (by kernel_rfl)
    focus (intro wI hI Kv hKv; have t9 := HTV.out.frame hI (by have := HSZ.out; omega); have t1 := t9.cell 1 (v := .int .u8 x.a) rfl; have tl := t9.lt; clear t9; go_simp; exact hKv)
    intro Kd hKd
    go_simp
    refine hKd _ ?_
    clear hKd Kd
    refine anyI_one' 4 rfl (by kernel_rfl) ((Frame.refl _ _).drew) (fun Kd hKd => ?_)
    go_wp2
    have F1 := ((Frame.refl (fun b => b = wr.heap.size + 1 ∨ b = w.heap.size) V).setCell (p := ⟨wr.heap.size + 1, 0, none⟩) (.inl (.inl rfl)) (.int .i64 4))
    apply anyI_step 5 rfl (by kernel_rfl)
    focus (intro wI hI Kv hKv; go_simp; exact hKv)
    intro Kd hKd
    go_simp
    refine hKd _ ?_
    clear hKd Kd
    refine anyI_one' 6 rfl (by kernel_rfl) (F1.drew) (fun Kd hKd => ?_)
    go_wp2
    have F2 := F1.setCell (p := ⟨wr.heap.size + 1, 2, none⟩) (.inl (.inl rfl)) (.int .i64 x.a)
    refine anyI_end (by kernel_rfl) (F2.drew) (hQd _ _ ?_)
    clear hQd Qd
    go_upto_region 21 with fail
    -- world ((V.setCell ⟨wr.heap.size + 1, 0, none⟩ (.int .i64 4)).setCell ⟨wr.heap.size + 1, 2, none⟩ (.int .i64 x.a)).drew, made of V by stores: the deed's box is #[.int .i64 4, .int .i64 0, .int .i64 x.a, .string emptyT], the counts' box #[.int .i64 s0, .int .i64 s1]
    obtain ⟨U, hU⟩ : ∃ U, ((V.setCell ⟨wr.heap.size + 1, 0, none⟩ (.int .i64 4)).setCell ⟨wr.heap.size + 1, 2, none⟩ (.int .i64 x.a)).drew = U := ⟨_, rfl⟩
    have HDU : Hid (Blk U (wr.heap.size + 1) (.cells #[.int .i64 4, .int .i64 0, .int .i64 x.a, .string emptyT] 65)) := by rw [← hU]; exact ((HDV.out.set 0 _).set 2 _).drew
    have HKU : Hid (Blk U w.heap.size (.cells #[.int .i64 s0, .int .i64 s1] 71)) := by rw [← hU]; exact ((HKV.out.far (fun e9 => HNE.out e9.symm) _).far (fun e9 => HNE.out e9.symm) _).drew
    have hfu : Frame (fun b => b = wr.heap.size + 1 ∨ b = w.heap.size) V U := by rw [← hU]; exact F2.drew
    have HBU : Hid (Below w.heap.size w U) := by rw [← hU]; exact ((HBV.out.setCell (p := ⟨wr.heap.size + 1, 0, none⟩) e1b _).setCell (p := ⟨wr.heap.size + 1, 2, none⟩) e1b _).drew
    have HOU := Lib.hid (own_frame HOV.out hfu (fun g hg e9 => HO9.out g hg e9))
    rw [hU]
    clear hU hfu
    clear u0 u1 u2 u3 f0 f1 f2 f3 ul t1 tl F1 F2
    -- the deed is in its box: it goes to the list
    have hbu := HBU.out.size
    have hdl := HDU.out.lt
    have d9 := HDU.out
    have d0 := d9.cell 0 (v := .int .i64 ((⟨4, 0, x.a, emptyT⟩ : Dd) : Dd).do_) rfl
    have d1 := d9.cell 1 (v := .int .i64 ((⟨4, 0, x.a, emptyT⟩ : Dd) : Dd).end_) rfl
    have d2 := d9.cell 2 (v := .int .i64 ((⟨4, 0, x.a, emptyT⟩ : Dd) : Dd).at_) rfl
    have d3 := d9.cell 3 (v := .string ((⟨4, 0, x.a, emptyT⟩ : Dd) : Dd).t) rfl
    simp only at d0 d1 d2 d3
    clear d9
    go_wp2_with (at_builtin; go_must (refine wpList_app1' rDd _ rfl _ _ rfl HOU.out rfl [_, _, _, _] 1 rfl rfl (by simp [Value.oneCell']) (by have := HOL.out; omega) hbu ?_); intro v6 w6 ho6 hB6 hg6 hloc6; obtain ⟨D6, d6, rfl⟩ := own_fits ho6)
    have HB6 : Hid (Below w.heap.size w w6) := HBU.out.trans hB6
    have HK6 := Lib.hid (HKU.out.grown hg6 (own_ne HOU.out HKU.out (by decide)))
    have HO6 := Lib.hid ho6
    clear ho6 hB6 hg6 hloc6 d0 d1 d2 d3
    go_wp2_with fail
    go_roundw
    case rel =>
     have e1 : (O ++ [(⟨4, 0, x.a, emptyT⟩ : Dd)]).length = O.length + 1 := by simp
     have e2 : dds (O ++ [(⟨4, 0, x.a, emptyT⟩ : Dd)]) = dds O ++ ddC (⟨4, 0, x.a, emptyT⟩ : Dd) := by simp [dds]
     refine ⟨k + 1, D6, d6, by omega, by go_num, ?_, ?_, ?_, HB6.out⟩
     ·rw [HST.out, e1]
     ·rw [HST.out, e1, e2]; exact HO6.out
     ·rw [HST.out]; exact HK6.out
    case measure => simp [intOf]; omega
  ·go_wp2
   go_ret
   have hke : k = n := by omega
   subst hke
   exact ⟨D, d, by unfold actsD; rw [HN.out]; rfl, by unfold actsD; rw [HN.out]; exact HO.out, HB.out⟩
end Go.Proofs.YtejabnoidhlfaaaDoor
