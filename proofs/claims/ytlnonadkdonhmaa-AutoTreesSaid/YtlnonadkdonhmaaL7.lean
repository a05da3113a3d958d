/- Contracts and lemmas that a claim of this seat uses. -/
import Derived.Test.YtlnonadkdonhmaaL4
import Derived.Test.YtlnonadkdonhmaaL5
import Derived.Test.YtlnonadkdonhmaaL1
import Derived.Test.YtlnonadkdonhmaaL3

/- The plans of trees, in plain words; contract of leaf. -/
namespace Go.Proofs.Ytlnonadkdonhmaa
open Go.RowKit Go.Maps

def goneI (r known has : Int) : Bool := bits BinOp.andNot .i64 (bits BinOp.and .i64 r known) has != 0
def leafGo (first : Bool) (known has : Int) : List Int → Nat → Bool → Int × Bool
  | [], _, out => (-1, out)
  | r :: rs, i, out => if withinI r has then ((i : Int), true) else if goneI r known has then leafGo first known has rs (i + 1) out else if first then (0, false) else leafGo first known has rs (i + 1) false
def leafA (rs : List Int) (first : Bool) (known has : Int) : Int × Bool := leafGo first known has rs 0 true

structure Pl where
  depth : Int
  chan : Int
  rule : Int
deriving DecidableEq
def plV (p : Pl) : Value := .agg #[.int .i64 p.depth, .int .i64 p.chan, .int .i64 p.rule]
/-- The channels below c have been tried. -/
def planTo (rec : Int → Int → Pl) (known has : Int) : Nat → Pl
  | 0 => ⟨7, 0, 0⟩
  | c + 1 =>
    let o := planTo rec known has c
    if inI known c then o else
      let d := 1 + max (rec (fullI known c) (fullI has c)).depth (rec (fullI known c) has).depth
      if d < o.depth then ⟨d, c, 0⟩ else o
def planF (rs : List Int) (n : Nat) (first : Bool) : Nat → Int → Int → Pl
  | 0, _, _ => ⟨7, 0, 0⟩
  | f + 1, known, has => if (leafA rs first known has).2 then ⟨0, -1, (leafA rs first known has).1⟩ else planTo (planF rs n first f) known has n
/-- How many of the first n channels are not in a set. -/
def unk (n : Nat) (known : Int) : Nat := ((List.range n).filter fun c : Nat => !(inI known c)).length
def planA (rs : List Int) (n : Nat) (first : Bool) (known has : Int) : Pl := planF rs n first (unk n known + 1) known has

theorem unk_all : ((List.range 7).all fun n => (List.range 64).all fun k => (List.range n).all fun c => inI (k : Int) (c : Int) || decide (unk n (fullI (k : Int) (c : Int)) + 1 = unk n (k : Int))) = true := by kernel_rfl
theorem unk_full {n c : Nat} {k : Int} (hn : n ≤ 6) (hk : isB k) (hc : c < n) (h : inI k c = false) : unk n (fullI k c) + 1 = unk n k := by
  obtain ⟨x, rfl⟩ := Int.eq_ofNat_of_zero_le hk.1
  have hx := hk.2
  have h1 := List.all_eq_true.1 unk_all n (List.mem_range.2 (by omega))
  have h2 := List.all_eq_true.1 h1 x (List.mem_range.2 (by omega))
  have h3 := List.all_eq_true.1 h2 c (List.mem_range.2 hc)
  simpa [h] using h3

theorem planTo_congr {rec rec' : Int → Int → Pl} {known has : Int} : ∀ n : Nat, (∀ c : Nat, c < n → inI known c = false → rec (fullI known c) (fullI has c) = rec' (fullI known c) (fullI has c) ∧ rec (fullI known c) has = rec' (fullI known c) has) → planTo rec known has n = planTo rec' known has n
  | 0, _ => rfl
  | n + 1, h => by
    have ih := planTo_congr n fun c hc hi => h c (by omega) hi
    simp only [planTo, ih]
    cases hi : inI known n with
    | true => rfl
    | false =>
      obtain ⟨e1, e2⟩ := h n (by omega) hi
      simp only [e1, e2]

theorem planA_leaf {rs : List Int} {n : Nat} {first : Bool} {known has r : Int} (h : leafA rs first known has = (r, true)) : planA rs n first known has = ⟨0, -1, r⟩ := by
  unfold planA planF; rw [h]; rfl
theorem planA_test {rs : List Int} {n : Nat} {first : Bool} {known has r : Int} (hn : n ≤ 6) (hk : isB known) (h : leafA rs first known has = (r, false)) : planA rs n first known has = planTo (planA rs n first) known has n := by
  have e : planA rs n first known has = planTo (planF rs n first (unk n known)) known has n := by
    unfold planA
    rw [planF, h]; rfl
  rw [e]
  refine planTo_congr n fun c hc hi => ?_
  have hu := unk_full hn hk hc hi
  unfold planA
  rw [hu]
  exact ⟨rfl, rfl⟩

theorem leafGo_rule {first : Bool} {known has : Int} : ∀ (rs : List Int) (i : Nat) (out : Bool), -1 ≤ (leafGo first known has rs i out).1 ∧ (leafGo first known has rs i out).1 < (i + rs.length : Nat) + (if rs = [] then 1 else 0)
  | [], i, out => by simp [leafGo]; omega
  | r :: rs, i, out => by
    unfold leafGo
    have ih := fun o => leafGo_rule (first := first) (known := known) (has := has) rs (i + 1) o
    split
    · simp; omega
    · split
      · have := ih out
        have e : (if rs = [] then (1 : Int) else 0) ≤ 1 := by split <;> omega
        simp only [List.length_cons, reduceCtorEq, if_false]
        rcases rs with _ | ⟨a, t⟩
        · simp [leafGo]; omega
        · simp only [reduceCtorEq, if_false, List.length_cons] at this ⊢
          omega
      · split
        · simp; omega
        · have := ih false
          simp only [List.length_cons, reduceCtorEq, if_false]
          rcases rs with _ | ⟨a, t⟩
          · simp [leafGo]; omega
          · simp only [reduceCtorEq, if_false, List.length_cons] at this ⊢
            omega
end Go.Proofs.Ytlnonadkdonhmaa

/- Contract of leaf; the table of plans in memory. -/
namespace Go.Proofs.Ytlnonadkdonhmaa
open Go.RowKit Go.Maps

/-- A grower in memory. -/
structure Gw (w : World) (bw bm : Nat) (n : Int) (A : Option Addr) (c : Nat) (rs : List Int) (first : Bool) : Prop where
  g : Blk w bw (.cells #[.int .i64 n, .slice A rs.length c, .bool first, .map (some bm)] 150)
  r : Cells w A (ints rs)

theorem results_tt {P : Program} {fn : Func} {tmps : Array Value} {w : World} {a b : Tmp} {x y : Value} (h : fn.results = #[.tmp a, .tmp b]) (ha : tmps.getD a undef = x) (hb : tmps.getD b undef = y) :
    (results fn tmps).run P w = .ok (.tuple #[x, y]) w := by
  subst ha hb
  simp [results, h, go_sem]

theorem drop_of {α : Type} {l : List α} {k : Nat} {x : α} (h : l[k]? = some x) : l.drop k = x :: l.drop (k + 1) := by
  obtain ⟨hk, rfl⟩ := List.getElem?_eq_some_iff.1 h
  exact List.drop_eq_getElem_cons hk

set_option maxRecDepth 100000 in
set_option maxHeartbeats 2000000 in
theorem leaf_any (bw bm : Nat) (n : Int) (A : Option Addr) (c : Nat) (rs : List Int) (first : Bool) (known has : Int) (w : World) (h : Gw w bw bm n A c rs first) :
    Calls Try.prog 121 #[.pointer (some ⟨bw, 0, none⟩), .agg #[.int .i64 known, .int .i64 has]] w fun e w' => e = .returned (.tuple #[.int .i64 (leafA rs first known has).1, .bool (leafA rs first known has).2]) ∧ Below w.heap.size w w' := by
  have hlr : rs.length ≤ 17592186043904 := by simpa [ints] using h.r.1
  have g1 := h.g.cell 1 (v := .slice A rs.length c) rfl
  have g2 := h.g.cell 2 (v := .bool first) rfl
  have hbw := h.g.lt
  have HR := Lib.hid h.r
  have hB1 : Below w.heap.size w (w.alloc (.cells #[.int .i64 known, .int .i64 has] 151)) := (Below.refl _ w).alloc (Nat.le_refl _) _
  clear h
  go_enter Try.func121, Try.ntmps121
  go_wp2
  go_loop [6, 17] (fun o i => ∃ (k : Nat) (ob : Bool), k ≤ rs.length ∧ i = .int .i64 k ∧ o = .bool ob ∧ leafA rs first known has = leafGo first known has (rs.drop k) k ob) (fun _ i => rs.length - (intOf i).toNat)
  case atStart => exact ⟨0, true, Nat.zero_le _, rfl, rfl, rfl⟩
  case round =>
    obtain ⟨k, ob, hk, rfl, rfl, hl⟩ := hrel
    have HL := Lib.hid hl
    clear hl
    by_cases hlt : k < rs.length
    · obtain ⟨r, b, o, hr, hb, hix, hcx⟩ := ints_at (c := c) HR.out Try.underlying22 szInt hlt
      have HD := Lib.hid (drop_of hr)
      clear hr
      by_cases hs : withinI r has = true
      · have HS := Lib.hid hs
        have ht : (bits BinOp.andNot .i64 r has == 0) = true := hs
        clear hs
        go_wp2
        refine bodyPost_ret (v := .tuple #[.int .i64 k, .bool true]) (results_tt rfl rfl rfl) rfl ?_
        rw [HL.out, HD.out, leafGo, if_pos HS.out]
        exact ⟨rfl, hB1⟩
      · simp only [Bool.not_eq_true] at hs
        have HS := Lib.hid hs
        have ht : (bits BinOp.andNot .i64 r has == 0) = false := hs
        clear hs
        by_cases hg : goneI r known has = true
        · have HG := Lib.hid hg
          have ht2 : (bits BinOp.andNot .i64 (bits BinOp.and .i64 r known) has != 0) = true := hg
          clear hg
          go_wp2
          go_round
          case rel => exact ⟨k + 1, ob, by omega, by go_num, rfl, by rw [HL.out, HD.out, leafGo, HS.out, HG.out]; rfl⟩
          case measure => simp [intOf]; omega
        · simp only [Bool.not_eq_true] at hg
          have HG := Lib.hid hg
          have ht2 : (bits BinOp.andNot .i64 (bits BinOp.and .i64 r known) has != 0) = false := hg
          clear hg
          cases first with
          | true =>
            go_wp2
            refine bodyPost_ret (v := .tuple #[.int .i64 0, .bool false]) (results_tt rfl rfl rfl) rfl ?_
            rw [HL.out, HD.out, leafGo, HS.out, HG.out]
            exact ⟨rfl, hB1⟩
          | false =>
            go_wp2
            go_round
            case rel => exact ⟨k + 1, false, by omega, by go_num, rfl, by rw [HL.out, HD.out, leafGo, HS.out, HG.out]; rfl⟩
            case measure => simp [intOf]; omega
    · obtain rfl : k = rs.length := by omega
      go_wp2
      refine bodyPost_ret (v := .tuple #[.int .i64 (-1), .bool ob]) (results_tt rfl rfl rfl) rfl ?_
      rw [HL.out, List.drop_length, leafGo]
      exact ⟨rfl, hB1⟩
end Go.Proofs.Ytlnonadkdonhmaa

/- The table of plans in memory; contract of plan. -/
namespace Go.Proofs.Ytlnonadkdonhmaa
open Go.RowKit Go.Maps

theorem row151 : (151 : TypeId) < Try.prog.types.size := of_decide_eq_true (by kernel_rfl)
theorem wide151 : (match Try.prog.underlying 151 with | some (.array _ _) | some (.struct _) => true | _ => false) = true := by rw [Try.underlying151]
set_option maxRecDepth 100000 in
theorem keyed151 : Keyed Try.prog 151 := Keyed.of_law (deep_law_laid laidOut (m := 2) (by omega) row151 (by kernel_rfl) wide151)
theorem cells151 : Try.prog.cellsOf 151 = 2 := by kernel_rfl
theorem type151 : Try.prog.keyType 151 = true := by kernel_rfl
theorem key151 (a b : Int) (ha : rng a) (hb : rng b) : ∃ l, keyOf Try.prog 151 (.agg #[.int .i64 a, .int .i64 b]) = some l := by
  have h1 : (Lit.int .i64 a).wf = true := WalkArith.wf_i64 ha
  have h2 : (Lit.int .i64 b).wf = true := WalkArith.wf_i64 hb
  have hf : (Value.agg #[.int .i64 a, .int .i64 b]).formed Try.prog 151 = true := by simp [Value.formed, Try.underlying151, cells151]
  have hk : ∃ ls, Try.prog.keyLits (Try.prog.types.size + 1) 151 (Value.agg #[.int .i64 a, .int .i64 b]).cells.toList = some ls := by
    have e1 : ∀ x : Int, (Lit.int .i64 x).wf = true → Try.prog.keyLits (192 + 1) 3 [.int .i64 x] = some [.int .i64 x] := by
      intro x hx
      simp [Program.keyLits, Try.underlying3, hx]
    rw [show Try.prog.types.size + 1 = 193 + 1 by kernel_rfl]
    refine ⟨[.int .i64 a, .int .i64 b], ?_⟩
    unfold Program.keyLits
    simp only [Try.underlying151, cells151, cells3]
    rw [show (193 : Nat) = 192 + 1 from rfl]
    simp [List.range_succ, Value.cells, e1 a h1, e1 b h2]
  obtain ⟨ls, hls⟩ := hk
  refine ⟨.string (keyBytes ls), ?_⟩
  simp only [keyOf, Try.underlying151, type151, hf, hls]
  rfl

abbrev PT := List ((Int × Int) × Pl)
def ptV (t : PT) : List (Value × Value) := t.map fun p => (.agg #[.int .i64 p.1.1, .int .i64 p.1.2], plV p.2)
def pget (t : PT) (p : Int × Int) : Option Pl := (t.find? fun q => q.1 == p).map (·.2)
def PtAt (w : World) (b : Nat) (t : PT) : Prop := MapIs Try.prog 151 w b (ptV t)
theorem zero154 (w : World) : (zeroValue 154).run Try.prog w = .ok (plV ⟨0, 0, 0⟩) w := by kernel_rfl

theorem pt_look {w : World} {b : Nat} {t : PT} {p q : Int} (h : PtAt w b t) (hp : rng p) (hq : rng q) :
    (Instr.lookup 148 (.map (some b)) (.agg #[.int .i64 p, .int .i64 q]) true).run Try.prog w = .ok (.tuple #[plV ((pget t (p, q)).getD ⟨0, 0, 0⟩), .bool (pget t (p, q)).isSome]) w := by
  obtain ⟨l, hl⟩ := key151 p q hp hq
  cases hx : t.find? (fun r => r.1 == (p, q)) with
  | none =>
    have e : pget t (p, q) = none := by unfold pget; rw [hx]; rfl
    rw [e]
    have := MapIs.look_no keyed151 Try.underlying148 h hl (fun r hr he => by
      obtain ⟨⟨⟨x, y⟩, n⟩, hm, rfl⟩ := List.mem_map.1 hr
      obtain ⟨e1, e2⟩ := pairV_inj he
      have := List.find?_eq_none.1 hx _ hm
      simp at this
      exact this e1 e2) (zero154 w) true
    simpa using this
  | some r =>
    obtain ⟨⟨x, y⟩, n⟩ := r
    have hm := List.mem_of_find?_eq_some hx
    have hk := List.find?_some hx
    simp at hk
    obtain ⟨rfl, rfl⟩ := hk
    have e : pget t (x, y) = some n := by unfold pget; rw [hx]; rfl
    rw [e]
    have := MapIs.look_yes keyed151 Try.underlying148 h hl (v := plV n) (List.mem_map.2 ⟨_, hm, rfl⟩) true
    simpa using this
theorem pt_put {w : World} {b : Nat} {t : PT} {p q : Int} {n : Pl} (h : PtAt w b t) (hp : rng p) (hq : rng q) (hn : pget t (p, q) = none) :
    ∃ w', (Instr.mapUpdate 148 (.map (some b)) (.agg #[.int .i64 p, .int .i64 q]) (plV n)).run Try.prog w = .ok () w' ∧ PtAt w' b (t ++ [((p, q), n)]) ∧ w.grownBy w' (some b) := by
  obtain ⟨l, hl⟩ := key151 p q hp hq
  have hx : t.find? (fun r => r.1 == (p, q)) = none := by
    unfold pget at hn
    simpa using hn
  obtain ⟨w', h1, h2, h3⟩ := MapIs.put_new keyed151 Try.underlying148 h hl (v := plV n) (fun r hr he => by
      obtain ⟨⟨⟨x, y⟩, n⟩, hm, rfl⟩ := List.mem_map.1 hr
      obtain ⟨e1, e2⟩ := pairV_inj he
      have := List.find?_eq_none.1 hx _ hm
      simp at this
      exact this e1 e2)
  exact ⟨w', h1, by simpa [PtAt, ptV] using h2, h3⟩
theorem pget_snoc {t : PT} {p q : Int × Int} {n : Pl} (hn : pget t p = none) : pget (t ++ [(p, n)]) q = if q = p then some n else pget t q := by
  unfold pget at *
  rw [List.find?_append]
  by_cases h : q = p
  · subst h
    simp only [Option.map_eq_none_iff] at hn
    simp [hn]
  · rw [if_neg h]
    cases hx : t.find? (fun r => r.1 == q) with
    | some r => simp
    | none =>
      have : (p == q) = false := by simp; exact fun e => h e.symm
      simp [this]
/-- Each entry is the plan of its part. -/
def PtOk (rs : List Int) (n : Nat) (first : Bool) (t : PT) : Prop := ∀ q x, pget t q = some x → x = planA rs n first q.1 q.2

theorem planTo_bd {rec : Int → Int → Pl} {known has : Int} (h : ∀ a b, 0 ≤ (rec a b).depth) : ∀ n : Nat, 0 ≤ (planTo rec known has n).depth ∧ (planTo rec known has n).depth ≤ 7 ∧ 0 ≤ (planTo rec known has n).chan ∧ (planTo rec known has n).chan ≤ n ∧ (planTo rec known has n).rule = 0
  | 0 => by simp [planTo]
  | n + 1 => by
    obtain ⟨h1, h2, h3, h4, h5⟩ := planTo_bd h n
    have a1 := h (fullI known n) (fullI has n)
    have a2 := h (fullI known n) has
    simp only [planTo]
    split
    · exact ⟨h1, h2, h3, by omega, h5⟩
    · split
      · simp only
        refine ⟨by omega, by omega, by omega, by omega, trivial⟩
      · exact ⟨h1, h2, h3, by omega, h5⟩
theorem planF_bd {rs : List Int} {n : Nat} {first : Bool} : ∀ (f : Nat) (known has : Int), 0 ≤ (planF rs n first f known has).depth ∧ (planF rs n first f known has).depth ≤ 7
  | 0, _, _ => by simp [planF]
  | f + 1, known, has => by
    rw [planF]
    split
    · simp
    · have := planTo_bd (rec := planF rs n first f) (known := known) (has := has) (fun a b => (planF_bd f a b).1) n
      exact ⟨this.1, this.2.1⟩
theorem planA_bd (rs : List Int) (n : Nat) (first : Bool) (known has : Int) : 0 ≤ (planA rs n first known has).depth ∧ (planA rs n first known has).depth ≤ 7 := planF_bd _ _ _
end Go.Proofs.Ytlnonadkdonhmaa

/- Contract of plan. -/
namespace Go.Proofs.Ytlnonadkdonhmaa
open Go.RowKit Go.Maps

theorem load154 {w : World} {b : Nat} {x y z : Int} (h : Blk w b (.cells #[.int .i64 x, .int .i64 y, .int .i64 z] 154)) : (loadVar 154 ⟨b, 0, none⟩).run Try.prog w = .ok (.agg #[.int .i64 x, .int .i64 y, .int .i64 z]) w := by
  have h0 := h.cell 0 (v := .int .i64 x) rfl
  have h1 := h.cell 1 (v := .int .i64 y) rfl
  have h2 := h.cell 2 (v := .int .i64 z) rfl
  go_simp
/-- What plan leaves. -/
def PlanPost (rs : List Int) (n : Nat) (first : Bool) (bm : Nat) (known has : Int) (t : PT) (w : World) (e : Ending) (w' : World) : Prop :=
  e = .returned (plV (planA rs n first known has)) ∧ ∃ t', PtAt w' bm t' ∧ PtOk rs n first t' ∧ (∀ q, pget t' q ≠ none → pget t q ≠ none ∨ unk n q.1 ≤ unk n known) ∧ Frame (fun b => b = bm) w w'

def PlanIH (rs : List Int) (n : Nat) (first : Bool) (bw bm : Nat) (A : Option Addr) (c : Nat) (f : Nat) : Prop :=
  ∀ (known has : Int) (t : PT) (w : World), unk n known < f → isB known → isB has → Gw w bw bm n A c rs first → PtAt w bm t → PtOk rs n first t → (ints rs ≠ [] → ∀ a, A = some a → a.block ≠ bm) →
    Calls Try.prog 105 #[.pointer (some ⟨bw, 0, none⟩), .agg #[.int .i64 known, .int .i64 has]] w (PlanPost rs n first bm known has t w)

theorem Gw.later {w w' : World} {bw bm : Nat} {n : Int} {A : Option Addr} {c : Nat} {rs : List Int} {first : Bool} (h : Gw w bw bm n A c rs first) (hB : Below w.heap.size w w') : Gw w' bw bm n A c rs first :=
  ⟨h.g.below hB h.g.lt, h.r.below hB (Nat.le_refl _)⟩
theorem PtAt.later {w w' : World} {b : Nat} {t : PT} (h : PtAt w b t) (hB : Below w.heap.size w w') : PtAt w' b t := MapIs.frame h (Frame.of_all (S := fun _ => False) hB) (fun h => h)
theorem isB_rng {x : Int} (h : isB x) : rng x := ⟨by have := h.1; omega, by have := h.2; omega⟩

set_option maxRecDepth 100000 in
set_option maxHeartbeats 4000000 in
theorem plan_found (rs : List Int) (n : Nat) (first : Bool) (bw bm : Nat) (A : Option Addr) (c : Nat) (known has : Int) (t : PT) (w : World) (hk : isB known) (hh : isB has) (hG : Gw w bw bm n A c rs first) (hT : PtAt w bm t) (hO : PtOk rs n first t)
    {x : Pl} (hx : pget t (known, has) = some x) :
    Calls Try.prog 105 #[.pointer (some ⟨bw, 0, none⟩), .agg #[.int .i64 known, .int .i64 has]] w (PlanPost rs n first bm known has t w) := by
  have hG1 := (hG.later ((Below.refl _ w).alloc (Nat.le_refl _) (.cells #[.int .i64 known, .int .i64 has] 151)))
  have g3 := hG.g.cell 3 (v := .map (some bm)) rfl
  have hbw := hG.g.lt
  have HX := Lib.hid (hO _ _ hx)
  have hrun : ∀ w', Below w.heap.size w w' → (Instr.lookup 148 (.map (some bm)) (.agg #[.int .i64 known, .int .i64 has]) true).run Try.prog w' = .ok (.tuple #[plV x, .bool true]) w' := by
    intro w' hB
    have := pt_look (hT.later hB) (isB_rng hk) (isB_rng hh)
    rw [hx] at this
    exact this
  have HRUN := Lib.hid hrun
  have HT := Lib.hid hT
  have HO := Lib.hid hO
  obtain ⟨d, ch, r⟩ := x
  simp only [plV] at HRUN
  have HB0 : Hid (Below w.heap.size w (((w.alloc (.cells #[.int .i64 known, .int .i64 has] 151)).alloc (.cells #[.int .i64 0, .int .i64 0, .int .i64 0] 154)))) := ((Below.refl _ w).alloc (Nat.le_refl _) _).alloc (by simp) _
  clear hrun hx hT hO hG hG1
  go_enter Try.func105, Try.ntmps105
  go_wp2
  obtain ⟨W, hW⟩ : ∃ W, (w.alloc (.cells #[.int .i64 known, .int .i64 has] 151)).alloc (.cells #[.int .i64 0, .int .i64 0, .int .i64 0] 154) = W := ⟨_, rfl⟩
  rw [hW] at HB0 ⊢
  have hb1 : Blk W w.heap.size (.cells #[.int .i64 known, .int .i64 has] 151) := by rw [← hW]; exact (Blk.new _ _).alloc _
  have hb2 : Blk W (w.heap.size + 1) (.cells #[.int .i64 0, .int .i64 0, .int .i64 0] 154) := by
    rw [← hW]
    have e := Blk.new (w.alloc (.cells #[.int .i64 known, .int .i64 has] 151)) (.cells #[.int .i64 0, .int .i64 0, .int .i64 0] 154)
    rw [World.size_alloc] at e
    exact e
  have hsW : W.heap.size = w.heap.size + 2 := by rw [← hW]; simp
  have HSW := Lib.hid hsW
  have p0 := hb1.cell 0 (v := .int .i64 known) rfl
  have p1 := hb1.cell 1 (v := .int .i64 has) rfl
  have q3 := cell_chain HB0.out hbw g3
  have l1 : w.heap.size < W.heap.size := by omega
  have l2 : w.heap.size + 1 < W.heap.size := by omega
  have l3 : bw < W.heap.size := by omega
  have H1 := Lib.hid hb1
  have H2 := Lib.hid hb2
  clear hW hb1 hb2 hsW
  refine draw (fun w' => Below W.heap.size W w') 12 rfl (by kernel_rfl) (fun Qd hQd => ?_)
  apply anyI_step 0 rfl (by kernel_rfl)
  focus (intro wI hI Kv hKv; have t0 := cell_chain hI l1 p0; have t1 := cell_chain hI l1 p1; have t3 := cell_chain hI l3 q3; have tl := HRUN.out wI (HB0.out.trans (hI.mono (by omega))); go_simp; exact hKv)
  intro Kd hKd
  go_simp
  refine hKd _ ?_
  clear hKd Kd
  apply anyI_step 1 rfl (by kernel_rfl)
  focus (intro wI hI Kv hKv; have t0 := cell_chain hI l1 p0; have t1 := cell_chain hI l1 p1; have t3 := cell_chain hI l3 q3; have tl := HRUN.out wI (HB0.out.trans (hI.mono (by omega))); go_simp; exact hKv)
  intro Kd hKd
  go_simp
  refine hKd _ ?_
  clear hKd Kd
  apply anyI_step 2 rfl (by kernel_rfl)
  focus (intro wI hI Kv hKv; have t0 := cell_chain hI l1 p0; have t1 := cell_chain hI l1 p1; have t3 := cell_chain hI l3 q3; have tl := HRUN.out wI (HB0.out.trans (hI.mono (by omega))); go_simp; exact hKv)
  intro Kd hKd
  go_simp
  refine hKd _ ?_
  clear hKd Kd
  apply anyI_step 3 rfl (by kernel_rfl)
  focus (intro wI hI Kv hKv; have t0 := cell_chain hI l1 p0; have t1 := cell_chain hI l1 p1; have t3 := cell_chain hI l3 q3; have tl := HRUN.out wI (HB0.out.trans (hI.mono (by omega))); go_simp; exact hKv)
  intro Kd hKd
  go_simp
  refine hKd _ ?_
  clear hKd Kd
  apply anyI_step 4 rfl (by kernel_rfl)
  focus (intro wI hI Kv hKv; have t0 := cell_chain hI l1 p0; have t1 := cell_chain hI l1 p1; have t3 := cell_chain hI l3 q3; have tl := HRUN.out wI (HB0.out.trans (hI.mono (by omega))); go_simp; exact hKv)
  intro Kd hKd
  go_simp
  refine hKd _ ?_
  clear hKd Kd
  apply anyI_step 5 rfl (by kernel_rfl)
  focus (intro wI hI Kv hKv; have t0 := cell_chain hI l1 p0; have t1 := cell_chain hI l1 p1; have t3 := cell_chain hI l3 q3; have tl := HRUN.out wI (HB0.out.trans (hI.mono (by omega))); go_simp; exact hKv)
  intro Kd hKd
  go_simp
  refine hKd _ ?_
  clear hKd Kd
  apply anyI_step 6 rfl (by kernel_rfl)
  focus (intro wI hI Kv hKv; have t0 := cell_chain hI l1 p0; have t1 := cell_chain hI l1 p1; have t3 := cell_chain hI l3 q3; have tl := HRUN.out wI (HB0.out.trans (hI.mono (by omega))); go_simp; exact hKv)
  intro Kd hKd
  go_simp
  refine hKd _ ?_
  clear hKd Kd
  apply anyI_step 7 rfl (by kernel_rfl)
  focus (intro wI hI Kv hKv; have t0 := cell_chain hI l1 p0; have t1 := cell_chain hI l1 p1; have t3 := cell_chain hI l3 q3; have tl := HRUN.out wI (HB0.out.trans (hI.mono (by omega))); go_simp; exact hKv)
  intro Kd hKd
  go_simp
  refine hKd _ ?_
  clear hKd Kd
  apply anyI_step 8 rfl (by kernel_rfl)
  focus (intro wI hI Kv hKv; have t0 := cell_chain hI l1 p0; have t1 := cell_chain hI l1 p1; have t3 := cell_chain hI l3 q3; have tl := HRUN.out wI (HB0.out.trans (hI.mono (by omega))); go_simp; exact hKv)
  intro Kd hKd
  go_simp
  refine hKd _ ?_
  clear hKd Kd
  refine anyI_one' 9 rfl (by kernel_rfl) ((Below.refl _ _).drew) (fun Kd hKd => ?_)
  go_wp2
  refine anyI_one' 10 rfl (by kernel_rfl) ((((Below.refl _ W).alloc (Nat.le_refl _) _).drew)) (fun Kd hKd => ?_)
  go_wp2
  apply anyI_step 11 rfl (by kernel_rfl)
  focus (intro wI hI Kv hKv; go_simp; exact hKv)
  intro Kd hKd
  go_simp
  refine hKd _ ?_
  clear hKd Kd
  refine anyI_end (by kernel_rfl) ((((Below.refl _ W).alloc (Nat.le_refl _) _).drew)) (hQd _ _ ?_)
  clear hQd Qd
  have z0 := H2.out.cell 0 (v := .int .i64 0) rfl
  have z1 := H2.out.cell 1 (v := .int .i64 0) rfl
  have z2 := H2.out.cell 2 (v := .int .i64 0) rfl
  have y0 := H2.out.free 0
  have y1 := H2.out.free 1
  have y2 := H2.out.free 2
  go_wp2
  have hX := (((((H2.out.set 0 (.int .i64 d)).set 1 (.int .i64 ch)).set 2 (.int .i64 r)).alloc (.cells #[.int .i64 d, .int .i64 ch, .int .i64 r] 154)).drew)
  have hB : Below w.heap.size W ((((W.setCell ⟨w.heap.size + 1, 0, none⟩ (.int .i64 d)).setCell ⟨w.heap.size + 1, 1, none⟩ (.int .i64 ch)).setCell ⟨w.heap.size + 1, 2, none⟩ (.int .i64 r)).alloc (.cells #[.int .i64 d, .int .i64 ch, .int .i64 r] 154)).drew :=
    (((((Below.refl _ W).setCell (by simp) _).setCell (by simp) _).setCell (by simp) _).alloc (by simp; omega) _).drew
  have hl := load154 hX
  clear z0 z1 z2 y0 y1 y2
  refine bodyPost_ret (v := .agg #[.int .i64 d, .int .i64 ch, .int .i64 r]) (results_c rfl rfl hl) rfl ⟨?_, t, HT.out.later (HB0.out.trans hB), HO.out, fun q hq => .inl hq, Frame.of_all (HB0.out.trans hB)⟩
  rw [← HX.out]
  rfl
end Go.Proofs.Ytlnonadkdonhmaa

/- Contract of plan: a leaf that was not known. -/
namespace Go.Proofs.Ytlnonadkdonhmaa
open Go.RowKit Go.Maps

theorem plan_close {rs : List Int} {n : Nat} {first : Bool} {bm br : Nat} {known has : Int} {t t' : PT} {w V w5 : World} {d ch r : Int} (hbr : w.heap.size ≤ br) (hb : Blk w5 br (.cells #[.int .i64 0, .int .i64 0, .int .i64 0] 154))
    (hT : PtAt w5 bm (t' ++ [((known, has), (⟨d, ch, r⟩ : Pl))])) (hg : V.drew.grownBy w5 (some bm)) (hF : Frame (fun b => b = bm) w V) (hO : PtOk rs n first t') (hN : pget t' (known, has) = none)
    (hK : ∀ q, pget t' q ≠ none → pget t q ≠ none ∨ unk n q.1 ≤ unk n known) (hP : (⟨d, ch, r⟩ : Pl) = planA rs n first known has) :
    (loadVar 154 ⟨br, 0, none⟩).run Try.prog (((w5.setCell ⟨br, 0, none⟩ (.int .i64 d)).setCell ⟨br, 1, none⟩ (.int .i64 ch)).setCell ⟨br, 2, none⟩ (.int .i64 r)) = .ok (.agg #[.int .i64 d, .int .i64 ch, .int .i64 r]) (((w5.setCell ⟨br, 0, none⟩ (.int .i64 d)).setCell ⟨br, 1, none⟩ (.int .i64 ch)).setCell ⟨br, 2, none⟩ (.int .i64 r)) ∧
    PlanPost rs n first bm known has t w (.returned (.agg #[.int .i64 d, .int .i64 ch, .int .i64 r])) (((w5.setCell ⟨br, 0, none⟩ (.int .i64 d)).setCell ⟨br, 1, none⟩ (.int .i64 ch)).setCell ⟨br, 2, none⟩ (.int .i64 r)) := by
  have hne : bm ≠ br := MapIs.not_blk hT hb
  refine ⟨load154 (((hb.set 0 (.int .i64 d)).set 1 (.int .i64 ch)).set 2 (.int .i64 r)), ?_, t' ++ [((known, has), (⟨d, ch, r⟩ : Pl))], ?_, ?_, ?_, ?_⟩
  · rw [← hP]; rfl
  · exact MapIs.far (MapIs.far (MapIs.far hT (p := ⟨br, 0, none⟩) hne _) (p := ⟨br, 1, none⟩) hne _) (p := ⟨br, 2, none⟩) hne _
  · intro q x hq
    rw [pget_snoc hN] at hq
    by_cases e : q = (known, has)
    · rw [if_pos e] at hq
      injection hq with hq
      subst e
      rw [← hq]; exact hP
    · rw [if_neg e] at hq
      exact hO q x hq
  · intro q hq
    rw [pget_snoc hN] at hq
    by_cases e : q = (known, has)
    · subst e; exact .inr (Nat.le_refl _)
    · rw [if_neg e] at hq
      exact hK q hq
  · have h1 : Frame (fun b => b = bm) w w5 := hF.drew.trans (Frame.of_grown hg) (fun b hb e => by injection e with e; exact e.symm)
    exact ((h1.setCell (p := ⟨br, 0, none⟩) (.inr hbr) _).setCell (p := ⟨br, 1, none⟩) (.inr hbr) _).setCell (p := ⟨br, 2, none⟩) (.inr hbr) _



set_option maxRecDepth 100000 in
set_option maxHeartbeats 4000000 in
theorem plan_leaf (rs : List Int) (n : Nat) (first : Bool) (bw bm : Nat) (A : Option Addr) (c : Nat) (known has : Int) (t : PT) (w : World) (hk : isB known) (hh : isB has) (hG : Gw w bw bm n A c rs first) (hT : PtAt w bm t) (hO : PtOk rs n first t)
    (hx : pget t (known, has) = none) {r : Int} (HL : Hid (leafA rs first known has = (r, true))) :
    Calls Try.prog 105 #[.pointer (some ⟨bw, 0, none⟩), .agg #[.int .i64 known, .int .i64 has]] w (PlanPost rs n first bm known has t w) := by
  have hG0 := hG
  have g3 := hG.g.cell 3 (v := .map (some bm)) rfl
  have hbw := hG.g.lt
  have hrun : ∀ w', Below w.heap.size w w' → (Instr.lookup 148 (.map (some bm)) (.agg #[.int .i64 known, .int .i64 has]) true).run Try.prog w' = .ok (.tuple #[plV ⟨0, 0, 0⟩, .bool false]) w' := by
    intro w' hB
    have := pt_look (hT.later hB) (isB_rng hk) (isB_rng hh)
    rw [hx] at this
    exact this
  have HRUN := Lib.hid hrun
  have HT := Lib.hid hT
  have HO := Lib.hid hO
  have HX := Lib.hid hx
  have HG := Lib.hid hG
  simp only [plV] at HRUN
  have HB0 : Hid (Below w.heap.size w (((w.alloc (.cells #[.int .i64 known, .int .i64 has] 151)).alloc (.cells #[.int .i64 0, .int .i64 0, .int .i64 0] 154)))) := ((Below.refl _ w).alloc (Nat.le_refl _) _).alloc (by simp) _
  clear hrun hx hT hO hG hG0
  go_enter Try.func105, Try.ntmps105
  go_wp2
  obtain ⟨W, hW⟩ : ∃ W, (w.alloc (.cells #[.int .i64 known, .int .i64 has] 151)).alloc (.cells #[.int .i64 0, .int .i64 0, .int .i64 0] 154) = W := ⟨_, rfl⟩
  rw [hW] at HB0 ⊢
  have hb1 : Blk W w.heap.size (.cells #[.int .i64 known, .int .i64 has] 151) := by rw [← hW]; exact (Blk.new _ _).alloc _
  have hb2 : Blk W (w.heap.size + 1) (.cells #[.int .i64 0, .int .i64 0, .int .i64 0] 154) := by
    rw [← hW]
    have e := Blk.new (w.alloc (.cells #[.int .i64 known, .int .i64 has] 151)) (.cells #[.int .i64 0, .int .i64 0, .int .i64 0] 154)
    rw [World.size_alloc] at e
    exact e
  have hsW : W.heap.size = w.heap.size + 2 := by rw [← hW]; simp
  have p0 := hb1.cell 0 (v := .int .i64 known) rfl
  have p1 := hb1.cell 1 (v := .int .i64 has) rfl
  have q3 := cell_chain HB0.out hbw g3
  have l1 : w.heap.size < W.heap.size := by omega
  have l2 : w.heap.size + 1 < W.heap.size := by omega
  have l3 : bw < W.heap.size := by omega
  have HSW := Lib.hid hsW
  have H1 := Lib.hid hb1
  have H2 := Lib.hid hb2
  clear hW hb1 hb2 hsW
  refine draw (fun w' => Below W.heap.size W w') 12 rfl (by kernel_rfl) (fun Qd hQd => ?_)
  apply anyI_step 0 rfl (by kernel_rfl)
  focus (intro wI hI Kv hKv; have t0 := cell_chain hI l1 p0; have t1 := cell_chain hI l1 p1; have t3 := cell_chain hI l3 q3; have tl := HRUN.out wI (HB0.out.trans (hI.mono (by omega))); go_simp; exact hKv)
  intro Kd hKd
  go_simp
  refine hKd _ ?_
  clear hKd Kd
  apply anyI_step 1 rfl (by kernel_rfl)
  focus (intro wI hI Kv hKv; have t0 := cell_chain hI l1 p0; have t1 := cell_chain hI l1 p1; have t3 := cell_chain hI l3 q3; have tl := HRUN.out wI (HB0.out.trans (hI.mono (by omega))); go_simp; exact hKv)
  intro Kd hKd
  go_simp
  refine hKd _ ?_
  clear hKd Kd
  apply anyI_step 2 rfl (by kernel_rfl)
  focus (intro wI hI Kv hKv; have t0 := cell_chain hI l1 p0; have t1 := cell_chain hI l1 p1; have t3 := cell_chain hI l3 q3; have tl := HRUN.out wI (HB0.out.trans (hI.mono (by omega))); go_simp; exact hKv)
  intro Kd hKd
  go_simp
  refine hKd _ ?_
  clear hKd Kd
  apply anyI_step 3 rfl (by kernel_rfl)
  focus (intro wI hI Kv hKv; have t0 := cell_chain hI l1 p0; have t1 := cell_chain hI l1 p1; have t3 := cell_chain hI l3 q3; have tl := HRUN.out wI (HB0.out.trans (hI.mono (by omega))); go_simp; exact hKv)
  intro Kd hKd
  go_simp
  refine hKd _ ?_
  clear hKd Kd
  apply anyI_step 4 rfl (by kernel_rfl)
  focus (intro wI hI Kv hKv; have t0 := cell_chain hI l1 p0; have t1 := cell_chain hI l1 p1; have t3 := cell_chain hI l3 q3; have tl := HRUN.out wI (HB0.out.trans (hI.mono (by omega))); go_simp; exact hKv)
  intro Kd hKd
  go_simp
  refine hKd _ ?_
  clear hKd Kd
  apply anyI_step 5 rfl (by kernel_rfl)
  focus (intro wI hI Kv hKv; have t0 := cell_chain hI l1 p0; have t1 := cell_chain hI l1 p1; have t3 := cell_chain hI l3 q3; have tl := HRUN.out wI (HB0.out.trans (hI.mono (by omega))); go_simp; exact hKv)
  intro Kd hKd
  go_simp
  refine hKd _ ?_
  clear hKd Kd
  apply anyI_step 6 rfl (by kernel_rfl)
  focus (intro wI hI Kv hKv; have t0 := cell_chain hI l1 p0; have t1 := cell_chain hI l1 p1; have t3 := cell_chain hI l3 q3; have tl := HRUN.out wI (HB0.out.trans (hI.mono (by omega))); go_simp; exact hKv)
  intro Kd hKd
  go_simp
  refine hKd _ ?_
  clear hKd Kd
  apply anyI_step 7 rfl (by kernel_rfl)
  focus (intro wI hI Kv hKv; have t0 := cell_chain hI l1 p0; have t1 := cell_chain hI l1 p1; have t3 := cell_chain hI l3 q3; have tl := HRUN.out wI (HB0.out.trans (hI.mono (by omega))); go_simp; exact hKv)
  intro Kd hKd
  go_simp
  refine hKd _ ?_
  clear hKd Kd
  apply anyI_step 8 rfl (by kernel_rfl)
  focus (intro wI hI Kv hKv; have t0 := cell_chain hI l1 p0; have t1 := cell_chain hI l1 p1; have t3 := cell_chain hI l3 q3; have tl := HRUN.out wI (HB0.out.trans (hI.mono (by omega))); go_simp; exact hKv)
  intro Kd hKd
  go_simp
  refine hKd _ ?_
  clear hKd Kd
  refine anyI_one' 9 rfl (by kernel_rfl) ((Below.refl _ _).drew) (fun Kd hKd => ?_)
  go_wp2
  refine anyI_one' 10 rfl (by kernel_rfl) ((((Below.refl _ W).alloc (Nat.le_refl _) _).drew)) (fun Kd hKd => ?_)
  go_wp2
  apply anyI_step 11 rfl (by kernel_rfl)
  focus (intro wI hI Kv hKv; go_simp; exact hKv)
  intro Kd hKd
  go_simp
  refine hKd _ ?_
  clear hKd Kd
  refine anyI_end (by kernel_rfl) ((((Below.refl _ W).alloc (Nat.le_refl _) _).drew)) (hQd _ _ ?_)
  clear hQd Qd
  have HBW : Hid (Below W.heap.size W (W.alloc (.cells #[.int .i64 0, .int .i64 0, .int .i64 0] 154)).drew) := ((Below.refl _ W).alloc (Nat.le_refl _) _).drew
  have HGW := Lib.hid ((HG.out.later HB0.out).later HBW.out)
  go_wp2_with (go_at_call 121; go_must (refine (leaf_any bw bm n A c rs first known has _ HGW.out).mono ?_); rintro e w2 ⟨rfl, hB2⟩; rw [HL.out]; have HB2 : Hid (Below W.heap.size W w2) := HBW.out.trans (hB2.mono (by simp)); clear hB2; have s0 := cell_chain HB2.out l1 p0; have s1 := cell_chain HB2.out l1 p1; have s3 := cell_chain HB2.out l3 q3; have hs2 := HB2.out.size; have k1 : w.heap.size < w2.heap.size := Nat.lt_of_lt_of_le l1 hs2; have k2 : w.heap.size + 1 < w2.heap.size := Nat.lt_of_lt_of_le l2 hs2; have k3 : bw < w2.heap.size := Nat.lt_of_lt_of_le l3 hs2)
  obtain ⟨V, hV⟩ : ∃ V, w2.alloc (.cells #[.int .i64 0, .int .i64 (-1), .int .i64 r] 154) = V := ⟨_, rfl⟩
  rw [hV]
  have HBV : Hid (Below w2.heap.size w2 V) := by rw [← hV]; exact (Below.refl _ w2).alloc (Nat.le_refl _) _
  have HV9 : Hid (Blk V w2.heap.size (.cells #[.int .i64 0, .int .i64 (-1), .int .i64 r] 154)) := by rw [← hV]; exact Blk.new _ _
  have HWV : Hid (Below W.heap.size W V) := HB2.out.trans (HBV.out.mono hs2)
  have HTV : Hid (PtAt V bm t) := HT.out.later (HB0.out.trans (HWV.out.mono (by omega)))
  have HOV : Hid (PtOk rs n first t) := HO.out
  have HNV : Hid (pget t (known, has) = none) := HX.out
  have HFV : Hid (Frame (fun b => b = bm) w V) := Frame.of_all (HB0.out.trans (HWV.out.mono (by omega)))
  have HKV : Hid (∀ q, pget t q ≠ none → pget t q ≠ none ∨ unk n q.1 ≤ unk n known) := fun q hq => .inl hq
  have HPL : Hid ((⟨0, -1, r⟩ : Pl) = planA rs n first known has) := (planA_leaf HL.out).symm
  clear hV s0 s1 s3 k1 k2 k3
  have s0 := cell_chain HWV.out l1 p0
  have s1 := cell_chain HWV.out l1 p1
  have s3 := cell_chain HWV.out l3 q3
  have H2V := Lib.hid (H2.out.below HWV.out l2)
  have v0 := HV9.out.cell 0 rfl
  have v1 := HV9.out.cell 1 rfl
  have v2 := HV9.out.cell 2 rfl
  obtain ⟨w5, hput, hT5, hg5⟩ := pt_put (w := V.drew) HTV.out (isB_rng hk) (isB_rng hh) HNV.out (n := ⟨0, -1, r⟩)
  simp only [plV] at hput
  have HT5 := Lib.hid hT5
  have HG5 := Lib.hid hg5
  have hn9 : some bm ≠ some w2.heap.size := fun e => HTV.out.not_blk HV9.out (by injection e)
  have hnr : some bm ≠ some (w.heap.size + 1) := fun e => HTV.out.not_blk H2V.out (by injection e)
  have V9 := Lib.hid (Blk.grown (w := V.drew) HV9.out hg5 hn9)
  have V2 := Lib.hid (Blk.grown (w := V.drew) H2V.out hg5 hnr)
  have x0 := V9.out.cell 0 rfl
  have x1 := V9.out.cell 1 rfl
  have x2 := V9.out.cell 2 rfl
  have z0 := V2.out.cell 0 (v := .int .i64 0) rfl
  have z1 := V2.out.cell 1 (v := .int .i64 0) rfl
  have z2 := V2.out.cell 2 (v := .int .i64 0) rfl
  have y0 := V2.out.free 0
  have y1 := V2.out.free 1
  have y2 := V2.out.free 2
  clear hT5 hg5 hn9 hnr
  refine stail 6 (by kernel_rfl) (by kernel_rfl) (fun Kq hKq => ?_)
  simp only [List.take_succ_cons, List.take_zero, List.drop_succ_cons, List.drop_zero] at hKq ⊢
  repeat still_step
  refine wpStill_nil (hKq _ ?_)
  clear hKq Kq
  go_wp2
  obtain ⟨hl, hp⟩ := plan_close (br := w.heap.size + 1) (by omega) V2.out HT5.out HG5.out HFV.out HOV.out HNV.out HKV.out HPL.out
  exact bodyPost_ret (v := .agg #[.int .i64 0, .int .i64 (-1), .int .i64 r]) (results_c rfl rfl hl) rfl hp
end Go.Proofs.Ytlnonadkdonhmaa
