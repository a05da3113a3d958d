/- Contracts and lemmas that a claim of this seat uses. -/
import Derived.Test.YtlnonadkdonhmaaL1
import Derived.Test.YtlnonadkdonhmaaL31
import Derived.Test.YtlnonadkdonhmaaL6
import Derived.Deep.LoopGhost

/- A queue in a row of its own: a slice that may begin in the midst of it; append of one element; the slice without its first element. -/
namespace Go.Proofs.Ytlnonadkdonhmaa
open Go.RowKit

def queRow (w : World) (base : Nat) (e : TypeId) (size : Nat) (v : Value) (n : Nat) (xs : List Value) : Prop :=
  xs.length = n * size ∧ ∃ g off cap cur, v = .slice (some ⟨g, off, none⟩) n cap ∧ base ≤ g ∧ w.heap[g]? = some (.cells cur e (0, 0)) ∧ n ≤ cap ∧ cap ≤ maxLen ∧ off + cap * size ≤ cur.size ∧ (cur.toList.drop off).take (n * size) = xs

section
variable {w w' : World} {base : Nat} {e : TypeId} {size : Nat} {v : Value} {n : Nat} {xs : List Value} {S : Nat → Prop}
theorem queRow.frame (h : queRow w base e size v n xs) (hF : Frame S w w') (hn : ∀ g, v.ownBlock = some g → ¬ S g) : queRow w' base e size v n xs := by
  obtain ⟨hl, g, off, cap, cur, rfl, hb, hg, h1, h2, h3, h4⟩ := h
  have hlt : g < w.heap.size := Blk.lt (o := .cells cur e) hg
  exact ⟨hl, g, off, cap, cur, rfl, hb, (hF.block g hlt (hn g rfl)).trans hg, h1, h2, h3, h4⟩
theorem queRow.lt (h : queRow w base e size v n xs) : ∀ g, v.ownBlock = some g → base ≤ g ∧ g < w.heap.size := by
  obtain ⟨hl, g, off, cap, cur, rfl, hb, hg, h1, h2, h3, h4⟩ := h
  intro k hk
  have : g = k := by simpa [Value.ownBlock] using hk
  subst this
  exact ⟨hb, Blk.lt (o := .cells cur e) hg⟩
theorem queRow.ne (h : queRow w base e size v n xs) {b : Nat} {cs : Array Value} {t : TypeId} (hb : Blk w b (.cells cs t)) (hne : e ≠ t) : v.ownBlock ≠ some b := by
  obtain ⟨hl, g, off, cap, cur, rfl, _, hg, h1, h2, h3, h4⟩ := h
  intro he
  have hgb : g = b := by simpa [Value.ownBlock] using he
  subst hgb
  unfold Blk at hb
  rw [hg] at hb
  injection hb with hb
  injection hb with _ ht
  exact hne ht
theorem queRow.not_map (h : queRow w base e size v n xs) {P : Program} {kt : TypeId} {b : Nat} {m : List (Value × Value)} (hb : MapIs P kt w b m) : v.ownBlock ≠ some b := by
  obtain ⟨hl, g, off, cap, cur, rfl, _, hg, h1, h2, h3, h4⟩ := h
  intro he
  have hgb : g = b := by simpa [Value.ownBlock] using he
  subst hgb
  obtain ⟨es, c, hb, _⟩ := hb
  unfold Blk at hb
  rw [hg] at hb
  cases hb
theorem queRow.out (h : queRow w base e size v n xs) (hl : xs.length ≤ 17592186043904) : ∃ A c, v = .slice A n c ∧ Cells w A xs := by
  obtain ⟨hl', g, off, cap, cur, rfl, hb, hg, h1, h2, h3, h4⟩ := h
  have hlt : g < w.heap.size := Blk.lt (o := .cells cur e) hg
  refine ⟨_, _, rfl, hl, g, off, by omega, fun _ => ⟨rfl, hlt⟩, fun k u hk => ?_⟩
  have hkl : k < xs.length := (List.getElem?_eq_some_iff.1 hk).1
  rw [← h4, List.getElem?_take_of_lt (by omega), List.getElem?_drop] at hk
  simp [World.cell?, hg]
  simpa using hk
theorem queRow.of_own (h : w.ownsRow base e size v n xs) (hn : 0 < n) : queRow w base e size v n xs := by
  obtain ⟨hl, ⟨_, h0⟩ | ⟨g, cap, cur, rfl, hb, hg, h1, h2, h3, h4⟩⟩ := h
  · omega
  · exact ⟨hl, g, 0, cap, cur, rfl, hb, hg, h1, h2, by omega, by rw [List.drop_zero]; exact h4⟩
theorem queRow.mono {base' : Nat} (h : queRow w base e size v n xs) (hb : base' ≤ base) : queRow w base' e size v n xs := by
  obtain ⟨hl, g, off, cap, cur, h0, hb0, r⟩ := h
  exact ⟨hl, g, off, cap, cur, h0, Nat.le_trans hb hb0, r⟩

variable {P : Program}
theorem run_append_room_off (t ty e : TypeId) (i : TypeInfo) (ht : P.underlying t = some (.slice e)) (hi : P.info? e = some i) (w : World)
    (g off sLen sCap : Nat) (cur : Array Value) (hg : w.heap[g]? = some (.cells cur e (0, 0)))
    (a : Addr) (m c : Nat) (news : List Value) (hl : news.length = m * i.size) (hnews : ∀ j u, news[j]? = some u → w.cell? (a.add j) = some u) (h1 : ∀ u ∈ news, u.oneCell' = true)
    (hroom : sLen + m ≤ sCap) (hfit : off + sLen * i.size + news.length ≤ cur.size) :
    (Builtin.append_ #[t, t] ty #[.slice (some ⟨g, off, none⟩) sLen sCap, .slice (some a) m c]).run P w =
      .ok (.slice (some ⟨g, off, none⟩) (sLen + m) sCap) (w.setRow g (cur.toList.take (off + sLen * i.size) ++ news ++ cur.toList.drop (off + sLen * i.size + news.length)).toArray) := by
  have hf := run_firstCells_some (P := P) w i.size m a m c news hl hnews
  have hst := run_storeCells_at P g (off + sLen * i.size) e news 0 cur w hg (by simpa using hfit) h1
  simp only [Nat.add_zero] at hst
  simp [Builtin.append_, run_underlying ht, sizeOf, typeInfo, hi, Builtin.lenOf, hroom, hf, Addr.add_lit, hst]

/-- append of one element, which lies in the block that was made for it last. -/
theorem wpList_que1 {t e : TypeId} {size bytes : Nat} (R : ElemRow P t e size bytes) (w : World) {ops : Array Oper} {rest : List Oper} {o : Oper} {a : Act} {Q : Exit → Act → World → Prop} (hgd : o.guard = none) (s x : Operand)
    (ho : o.op = .call { callee := .builtin .append, args := #[s, x], argTypes := #[t, t] })
    {base : Nat} {v : Value} {n : Nat} {xs : List Value} (hown : queRow w base e size v n xs) (hs : a.eval s = v) (news : List Value) (c : Nat) (hx : a.eval x = .slice (some ⟨w.heap.size, 0, none⟩) 1 c)
    (hnl : news.length = size) (hone : ∀ u ∈ news, u.oneCell' = true) (hbytes : (n + 1) * bytes ≤ 140737488355328) (hbase : base ≤ w.heap.size)
    (h : ∀ v' w', queRow w' base e size v' (n + 1) (xs ++ news) → w.grownBy w' v.ownBlock → (∀ g, v'.ownBlock = some g → v.ownBlock = some g ∨ w.heap.size ≤ g) → wpList P ops Q rest (a.put o.dst v') w') :
    wpList P ops Q (o :: rest) a (w.alloc (.cells news.toArray e)) := by
  obtain ⟨i, z, hi, hz, hs1, hb1, hzs⟩ := R.row
  have hm : n + 1 ≤ maxLen := by
    have h1 : (n + 1) * 1 ≤ (n + 1) * bytes := Nat.mul_le_mul_left _ R.pos'
    unfold maxLen; omega
  have hsmall : n + 1 ≤ 9223372036854775807 := by simp only [maxLen] at hm; omega
  obtain ⟨hl, g, off, cap, cur, rfl, hb, hg, hnc, hcm, hcs, htake⟩ := hown
  have hlt : g < w.heap.size := Blk.lt (o := .cells cur e) hg
  have hg' : (w.alloc (.cells news.toArray e)).heap[g]? = some (.cells cur e (0, 0)) := (Below.heap_alloc w _ g hlt).trans hg
  have hnews : ∀ (j : Nat) (u : Value), news[j]? = some u → (w.alloc (.cells news.toArray e)).cell? ((⟨w.heap.size, 0, none⟩ : Addr).add j) = some u := by
    intro j u hj
    have h1 : (w.alloc (.cells news.toArray e)).heap[w.heap.size]? = some (.cells news.toArray e (0, 0)) := heap_alloc_new w _
    rw [Addr.add_lit]
    simp only [World.cell?, h1]
    simpa using hj
  have hnl1 : news.length = 1 * i.size := by rw [Nat.one_mul, hs1]; exact hnl
  refine wpList_plain hgd fun K hK => ?_
  have hlen : (xs ++ news).length = (n + 1) * size := by rw [List.length_append, hl, hnl, Nat.add_mul, Nat.one_mul]
  by_cases hroom : n + 1 ≤ cap
  · have hmul : (n + 1) * size ≤ cap * size := Nat.mul_le_mul_right _ hroom
    rw [Nat.add_mul, Nat.one_mul] at hmul
    have hfit : off + n * i.size + news.length ≤ cur.size := by rw [hs1, hnl]; omega
    have hr := run_append_room_off (P := P) t o.type e i R.ut hi (w.alloc (.cells news.toArray e)) g off n cap cur hg' ⟨w.heap.size, 0, none⟩ 1 c news hnl1 hnews hone hroom hfit
    unfold Oper.wp execOp
    simp only [ho, resolve, invoke, builtin, Sem.run_bind, Sem.run_pure, Result.andThen_ok, List.map_toArray, List.map_cons, List.map_nil, hs, hx, hr]
    refine hK _ _ (h _ _ ⟨hlen, g, off, cap, _, rfl, hb, setRow_heap _ g cur _ e _ hg', hroom, hcm, ?_, ?_⟩ ?_ (fun k hk => .inl hk))
    · simp only [List.size_toArray, List.length_append, List.length_take, List.length_drop, Array.length_toList]
      omega
    · have hP : off + n * i.size ≤ cur.toList.length := by rw [Array.length_toList]; omega
      have e1 : (cur.toList.take (off + n * i.size)).drop off = xs := by
        rw [List.drop_take, Nat.add_sub_cancel_left, hs1]
        exact htake
      have e2 : (cur.toList.take (off + n * i.size) ++ news ++ cur.toList.drop (off + n * i.size + news.length)).toArray.toList.drop off = (xs ++ news) ++ cur.toList.drop (off + n * i.size + news.length) := by
        show List.drop off (cur.toList.take (off + n * i.size) ++ news ++ cur.toList.drop (off + n * i.size + news.length)) = _
        rw [List.append_assoc, List.drop_append_of_le_length (by rw [List.length_take]; omega), e1, List.append_assoc]
      rw [e2, ← hlen]
      exact List.take_left
    · refine (World.grownBy_alloc w (.cells news.toArray e) _).trans ⟨rfl, rfl, rfl, by simp, fun k _ hk => setRow_other _ g k _ (fun e => hk (by simp [Value.ownBlock, e]))⟩
  · have holds : ∀ (j : Nat) (u : Value), xs[j]? = some u → (w.alloc (.cells news.toArray e)).cell? ((⟨g, off, none⟩ : Addr).add j) = some u := by
      intro j u hj
      have hjl : j < xs.length := (List.getElem?_eq_some_iff.1 hj).1
      rw [← htake, List.getElem?_take_of_lt (by omega), List.getElem?_drop] at hj
      rw [Addr.add_lit]
      simp only [World.cell?, hg']
      simpa using hj
    have hr := run_append_grow (P := P) (w.alloc (.cells news.toArray e)) t o.type e i z R.ut hi hz ⟨g, off, none⟩ n cap xs (by rw [hs1]; exact hl) holds ⟨w.heap.size, 0, none⟩ 1 c news hnl1 hnews (by omega) (by omega) (growslice_fits (by omega) (by rw [hb1]; exact hbytes))
    unfold Oper.wp execOp
    simp only [ho, resolve, invoke, builtin, Sem.run_bind, Sem.run_pure, Result.andThen_ok, List.map_toArray, List.map_cons, List.map_nil, hs, hx, hr]
    have hge := grownCap_ge (w.alloc (.cells news.toArray e)) (n + 1) cap e
    have hcm2 : grownCap (w.alloc (.cells news.toArray e)) (n + 1) cap e ≤ maxLen := grownCap_le_maxLen _ (n + 1) cap e hm
    refine hK _ _ (h _ _ ⟨hlen, (w.alloc (.cells news.toArray e)).heap.size, 0, _, _, rfl, by simp; omega, heap_alloc_new _ _, hge, hcm2, ?_, ?_⟩ ?_ (fun k hk => .inr ?_))
    · simp only [Array.size_append, List.size_toArray, size_zeroCells, hzs, hl, hnl]
      have e1 : (n + 1) * size = n * size + size := by rw [Nat.add_mul, Nat.one_mul]
      have e2 : grownCap (w.alloc (.cells news.toArray e)) (n + 1) cap e * size = (n + 1) * size + (grownCap (w.alloc (.cells news.toArray e)) (n + 1) cap e - (n + 1)) * size := by
        rw [← Nat.add_mul]
        congr 1
        omega
      omega
    · rw [List.drop_zero]
      simp only [Array.toList_append, List.append_assoc]
      rw [← List.append_assoc, ← hlen]
      exact List.take_left
    · exact (World.grownBy_alloc w (.cells news.toArray e) _).trans ⟨rfl, rfl, rfl, by simp, fun k hk _ => Below.heap_alloc (w.alloc (.cells news.toArray e)).drew _ k hk⟩
    · have hk' : (w.alloc (.cells news.toArray e)).heap.size = k := by injection hk
      simp at hk'
      omega

/-- The queue without its first element. -/
theorem que_tail {t : TypeId} (ht : P.underlying t = some (.slice e)) (hte : P.elem t = e) (hsz : (P.info? e).map (·.size) = some size) {ys zs : List Value} (h : queRow w base e size v (n + 1) (ys ++ zs)) (hy : ys.length = size) :
    ∃ v', (∀ w', (Instr.sliceAt t v (some (.int .i64 1)) none none).run P w' = .ok v' w') ∧ (∀ w', (Instr.slice t v (some (.int .i64 1)) none none).run P w' = .ok v' w') ∧ queRow w base e size v' n zs ∧ v'.ownBlock = v.ownBlock := by
  obtain ⟨hl, g, off, cap, cur, rfl, hb, hg, hnc, hcm, hcs, htake⟩ := h
  have ht' : P.underlying t = some (.slice (P.elem t)) := by rw [hte]; exact ht
  obtain ⟨i, hi, hie⟩ : ∃ i, P.info? e = some i ∧ i.size = size := by
    cases hx : P.info? e with
    | none => rw [hx] at hsz; cases hsz
    | some i => rw [hx] at hsz; exact ⟨i, rfl, by simpa using hsz⟩
  have run : ∀ w', (Instr.slice t (.slice (some ⟨g, off, none⟩) (n + 1) cap) (some (.int .i64 1)) none none).run P w' = .ok (sliced (some ⟨g, off, none⟩) 1 (n + 1) cap size) w' := by
    intro w'
    rw [run_slice_l (P := P) w' t (some ⟨g, off, none⟩) (n + 1) cap ht' .i64 1 (by omega) (by omega), hte]
    simp [sizeOf, typeInfo, hi, hie, Result.andThen]
  refine ⟨_, fun w' => by rw [run_sliceAt_slice (P := P) w' t _ _ _ _ ht']; exact run w', run, ?_, ?_⟩
  · have hzl : zs.length = n * size := by
      have := hl
      rw [List.length_append, hy, Nat.add_mul, Nat.one_mul] at this
      omega
    unfold sliced
    by_cases hc : cap = 1
    · obtain rfl : n = 0 := by omega
      rw [if_pos hc]
      have hz0 : zs = [] := List.eq_nil_of_length_eq_zero (by omega)
      subst hz0
      exact ⟨by simp, g, off, cap - 1, cur, by simp, hb, hg, by omega, by omega, by rw [hc]; simp; rw [hc, Nat.one_mul] at hcs; omega, by simp⟩
    · rw [if_neg hc]
      have hmul : cap * size = size + (cap - 1) * size := by
        have : cap = 1 + (cap - 1) := by omega
        rw [this, Nat.add_mul, Nat.one_mul, Nat.add_sub_cancel_left]
      refine ⟨hzl, g, off + 1 * size, cap - 1, cur, by simp [Addr.add_lit], hb, hg, by omega, by omega, by omega, ?_⟩
      have e1 : (cur.toList.drop off).take ((n + 1) * size) = ys ++ zs := htake
      have e2 : ((cur.toList.drop off).take ((n + 1) * size)).drop size = zs := by rw [e1, ← hy]; exact List.drop_left
      rw [List.drop_take, List.drop_drop] at e2
      rw [Nat.one_mul]
      rw [Nat.add_mul, Nat.one_mul, Nat.add_sub_cancel] at e2
      exact e2
  · unfold sliced
    split <;> simp [Value.ownBlock, Addr.add_lit]
end
end Go.Proofs.Ytlnonadkdonhmaa

/- Pairs of states that are gone through, plainly; the map of those that were met. -/
namespace Go.Proofs.Ytlnonadkdonhmaa
open Go.RowKit Go.Maps

theorem row125 : (125 : TypeId) < Try.prog.types.size := of_decide_eq_true (by kernel_rfl)
theorem wide125 : (match Try.prog.underlying 125 with | some (.array _ _) | some (.struct _) => true | _ => false) = true := by rw [Try.underlying125]
set_option maxRecDepth 100000 in
theorem keyed125 : Keyed Try.prog 125 := Keyed.of_law (deep_law_laid laidOut (m := 2) (by omega) row125 (by kernel_rfl) wide125)
theorem cells125 : Try.prog.cellsOf 125 = 2 := by kernel_rfl
theorem type125 : Try.prog.keyType 125 = true := by kernel_rfl
theorem key125 (a b : Int) (ha : rng a) (hb : rng b) : ∃ l, keyOf Try.prog 125 (.agg #[.int .i64 a, .int .i64 b]) = some l := by
  have h1 : (Lit.int .i64 a).wf = true := WalkArith.wf_i64 ha
  have h2 : (Lit.int .i64 b).wf = true := WalkArith.wf_i64 hb
  have hf : (Value.agg #[.int .i64 a, .int .i64 b]).formed Try.prog 125 = true := by simp [Value.formed, Try.underlying125, cells125]
  have hk : ∃ ls, Try.prog.keyLits (Try.prog.types.size + 1) 125 (Value.agg #[.int .i64 a, .int .i64 b]).cells.toList = some ls := by
    have e1 : ∀ x : Int, (Lit.int .i64 x).wf = true → Try.prog.keyLits (192 + 1) 3 [.int .i64 x] = some [.int .i64 x] := by
      intro x hx
      simp [Program.keyLits, Try.underlying3, hx]
    rw [show Try.prog.types.size + 1 = 193 + 1 by kernel_rfl]
    refine ⟨[.int .i64 a, .int .i64 b], ?_⟩
    unfold Program.keyLits
    simp only [Try.underlying125, cells125, cells3]
    rw [show (193 : Nat) = 192 + 1 from rfl]
    simp [List.range_succ, Value.cells, e1 a h1, e1 b h2]
  obtain ⟨ls, hls⟩ := hk
  refine ⟨.string (keyBytes ls), ?_⟩
  simp only [keyOf, Try.underlying125, type125, hf, hls]
  rfl
theorem rPq : ElemRow Try.prog 142 125 2 16 := ElemRow.mk' (z := .agg #[.int .i64 0, .int .i64 0]) Try.underlying142 (by kernel_rfl) rfl (by decide) (by decide)

def metV (l : List (Int × Int)) : List (Value × Value) := l.map fun p => (.agg #[.int .i64 p.1, .int .i64 p.2], .bool true)
abbrev MetAt (w : World) (b : Nat) (l : List (Int × Int)) : Prop := MapIs Try.prog 125 w b (metV l)
theorem met_look {w : World} {b : Nat} {l : List (Int × Int)} {p q : Int} (h : MetAt w b l) (hp : rng p) (hq : rng q) :
    (Instr.lookup 141 (.map (some b)) (.agg #[.int .i64 p, .int .i64 q]) false).run Try.prog w = .ok (.bool (decide ((p, q) ∈ l))) w := by
  obtain ⟨k, hk⟩ := key125 p q hp hq
  have hz : (zeroValue 4).run Try.prog w = .ok (.bool false) w := by kernel_rfl
  by_cases hm : (p, q) ∈ l
  · rw [decide_eq_true hm]
    have := h.look_yes keyed125 Try.underlying141 hk (v := .bool true) (List.mem_map.2 ⟨_, hm, rfl⟩) false
    simpa using this
  · rw [decide_eq_false hm]
    have := h.look_no keyed125 Try.underlying141 hk (fun r hr he => by
      obtain ⟨⟨x, y⟩, hm2, rfl⟩ := List.mem_map.1 hr
      obtain ⟨e1, e2⟩ := pairV_inj he
      simp only at e1 e2
      subst e1 e2
      exact hm hm2) hz false
    simpa using this
theorem met_put {w : World} {b : Nat} {l : List (Int × Int)} {p q : Int} (h : MetAt w b l) (hp : rng p) (hq : rng q) (hn : (p, q) ∉ l) :
    ∃ w', (Instr.mapUpdate 141 (.map (some b)) (.agg #[.int .i64 p, .int .i64 q]) (.bool true)).run Try.prog w = .ok () w' ∧ MetAt w' b (l ++ [(p, q)]) ∧ w.grownBy w' (some b) := by
  obtain ⟨k, hk⟩ := key125 p q hp hq
  obtain ⟨w', h1, h2, h3⟩ := h.put_new keyed125 Try.underlying141 hk (v := .bool true) (fun r hr he => by
    obtain ⟨⟨x, y⟩, hm2, rfl⟩ := List.mem_map.1 hr
    obtain ⟨e1, e2⟩ := pairV_inj he
    simp only at e1 e2
    subst e1 e2
    exact hn hm2)
  exact ⟨w', h1, by simpa [MetAt, metV] using h2, h3⟩

/-! ### the plain law -/
/-- All that lies behind a pair was met. -/
def DoneP (m m' : Mach) (met : List (Int × Int)) (p : Int × Int) : Prop := rulesEq (rowM m p.1.toNat) (rowM m' p.2.toNat) ∧
  ∀ (c : Nat) (x y : AAct) (j : Nat) (q r : Int), (rowM m p.1.toNat)[c]? = some x → (rowM m' p.2.toNat)[c]? = some y → x.next[j]? = some q → y.next[j]? = some r → (q, r) ∈ met
/-- .. up to the j-th of the c-th channel. -/
def DoneTo (m m' : Mach) (met : List (Int × Int)) (p : Int × Int) (c j : Nat) : Prop :=
  (∀ (c' : Nat) (x y : AAct), c' < c → (rowM m p.1.toNat)[c']? = some x → (rowM m' p.2.toNat)[c']? = some y → x.rule = y.rule ∧ ∀ (j' : Nat) (q r : Int), x.next[j']? = some q → y.next[j']? = some r → (q, r) ∈ met) ∧
  ∀ (x y : AAct) (j' : Nat) (q r : Int), (rowM m p.1.toNat)[c]? = some x → (rowM m' p.2.toNat)[c]? = some y → j' < j → x.next[j']? = some q → y.next[j']? = some r → (q, r) ∈ met
structure BInv (m m' : Mach) (met opn : List (Int × Int)) (ex : Int × Int → Prop) : Prop where
  start : (0, 0) ∈ met
  rng : ∀ p ∈ met, (0 ≤ p.1 ∧ p.1 < (m.length : Int)) ∧ 0 ≤ p.2 ∧ p.2 < (m'.length : Int)
  sub : ∀ p ∈ opn, p ∈ met
  chk : ∀ p ∈ met, p ∉ opn → ex p ∨ DoneP m m' met p
  sim : Sim m m' 0 0 → ∀ p ∈ met, Sim m m' p.1.toNat p.2.toNat
  nodup : met.Nodup
section
variable {n : Int} {rs : List Int} {m m' : Mach} {met opn : List (Int × Int)} {p : Int × Int} {c j : Nat}
theorem DoneP.mono {met' : List (Int × Int)} (h : DoneP m m' met p) (hm : ∀ q ∈ met, q ∈ met') : DoneP m m' met' p := ⟨h.1, fun c x y j q r hx hy hp hq => hm _ (h.2 c x y j q r hx hy hp hq)⟩
theorem DoneTo.mono {met' : List (Int × Int)} (h : DoneTo m m' met p c j) (hm : ∀ q ∈ met, q ∈ met') : DoneTo m m' met' p c j :=
  ⟨fun c' x y hc hx hy => ⟨(h.1 c' x y hc hx hy).1, fun j' q r hq hr => hm _ ((h.1 c' x y hc hx hy).2 j' q r hq hr)⟩, fun x y j' q r hx hy hj hq hr => hm _ (h.2 x y j' q r hx hy hj hq hr)⟩
theorem DoneTo.start (m m' : Mach) (met : List (Int × Int)) (p : Int × Int) : DoneTo m m' met p 0 0 := ⟨fun c' x y hc => by omega, fun x y j' q r _ _ hj => by omega⟩
theorem DoneTo.next {x y : AAct} {q r : Int} (h : DoneTo m m' met p c j) (hx : (rowM m p.1.toNat)[c]? = some x) (hy : (rowM m' p.2.toNat)[c]? = some y) (hq : x.next[j]? = some q) (hr : y.next[j]? = some r) (hm : (q, r) ∈ met) : DoneTo m m' met p c (j + 1) := by
  refine ⟨h.1, fun x' y' j' q' r' hx' hy' hj hq' hr' => ?_⟩
  by_cases e : j' = j
  · subst e
    rw [hx] at hx'
    rw [hy] at hy'
    injection hx' with hx'
    injection hy' with hy'
    subst hx' hy'
    rw [hq] at hq'
    rw [hr] at hr'
    injection hq' with hq'
    injection hr' with hr'
    rw [← hq', ← hr']
    exact hm
  · exact h.2 x' y' j' q' r' hx' hy' (by omega) hq' hr'
theorem DoneTo.act {x y : AAct} (h : DoneTo m m' met p c j) (hx : (rowM m p.1.toNat)[c]? = some x) (hy : (rowM m' p.2.toNat)[c]? = some y) (hr : x.rule = y.rule) (hj : x.next.length ≤ j) : DoneTo m m' met p (c + 1) 0 := by
  refine ⟨fun c' x' y' hc hx' hy' => ?_, fun x' y' j' q' r' _ _ hj => by omega⟩
  by_cases e : c' = c
  · subst e
    rw [hx] at hx'
    rw [hy] at hy'
    injection hx' with hx'
    injection hy' with hy'
    subst hx' hy'
    exact ⟨hr, fun j' q r hq hr => h.2 x y j' q r hx hy (by have := (List.getElem?_eq_some_iff.1 hq).1; omega) hq hr⟩
  · exact h.1 c' x' y' (by omega) hx' hy'
theorem DoneTo.all (h : DoneTo m m' met p c 0) (hc : (rowM m p.1.toNat).length ≤ c) : DoneP m m' met p :=
  ⟨fun c' x y hx hy => (h.1 c' x y (by have := (List.getElem?_eq_some_iff.1 hx).1; omega) hx hy).1, fun c' x y j' q r hx hy hq hr => (h.1 c' x y (by have := (List.getElem?_eq_some_iff.1 hx).1; omega) hx hy).2 j' q r hq hr⟩

theorem BInv.pop (h : BInv m m' met (p :: opn) (fun _ => False)) : BInv m m' met opn (fun q => q = p) := by
  refine ⟨h.start, h.rng, fun q hq => h.sub q (List.mem_cons_of_mem _ hq), fun q hq hn => ?_, h.sim, h.nodup⟩
  by_cases e : q = p
  · exact .inl e
  · have : q ∉ p :: opn := by
      rw [List.mem_cons]
      exact fun hh => hh.elim e hn
    exact .inr ((h.chk q hq this).resolve_left id)
theorem BInv.push {q : Int × Int} {ex : Int × Int → Prop} (h : BInv m m' met opn ex) (hq : q ∉ met) (hr : (0 ≤ q.1 ∧ q.1 < (m.length : Int)) ∧ 0 ≤ q.2 ∧ q.2 < (m'.length : Int)) (hs : Sim m m' 0 0 → Sim m m' q.1.toNat q.2.toNat) :
    BInv m m' (met ++ [q]) (opn ++ [q]) ex := by
  refine ⟨List.mem_append_left _ h.start, fun p hp => ?_, fun p hp => ?_, fun p hp hn => ?_, fun hsim p hp => ?_, ?_⟩
  · rcases List.mem_append.1 hp with hp | hp
    · exact h.rng p hp
    · simp at hp; subst hp; exact hr
  · rcases List.mem_append.1 hp with hp | hp
    · exact List.mem_append_left _ (h.sub p hp)
    · exact List.mem_append_right _ hp
  · rcases List.mem_append.1 hp with hp | hp
    · exact (h.chk p hp (fun hh => hn (List.mem_append_left _ hh))).imp id fun hd => hd.mono fun r hr => List.mem_append_left _ hr
    · exact absurd (List.mem_append_right _ hp) hn
  · rcases List.mem_append.1 hp with hp | hp
    · exact h.sim hsim p hp
    · simp at hp; subst hp; exact hs hsim
  · rw [List.nodup_append]
    exact ⟨h.nodup, by simp, fun a ha b hb => by simp at hb; subst hb; rintro rfl; exact hq ha⟩
theorem BInv.done (h : BInv m m' met opn (fun q => q = p)) (hd : DoneP m m' met p) : BInv m m' met opn (fun _ => False) :=
  ⟨h.start, h.rng, h.sub, fun q hq hn => .inr ((h.chk q hq hn).elim (fun e => e ▸ hd) id), h.sim, h.nodup⟩
theorem BInv.len {ex : Int × Int → Prop} (h : BInv m m' met opn ex) (h1 : m.length ≤ 64) (h2 : m'.length ≤ 64) : met.length ≤ 4096 := by
  have e := nodup_below 4096 (met.map fun p => p.1 + 64 * p.2) (nodup_map h.nodup (fun x hx y hy e => by
      have hx' := h.rng x hx
      have hy' := h.rng y hy
      exact Prod.ext (by omega) (by omega))) (fun x hx => by
      obtain ⟨p, hp, rfl⟩ := List.mem_map.1 hx
      have := h.rng p hp
      omega)
  simpa using e
theorem BInv.end_ (h : BInv m m' met [] (fun _ => False)) : Sim m m' 0 0 := by
  refine ⟨fun a b => ((a : Int), (b : Int)) ∈ met, ⟨?_, ?_, ?_⟩, h.start⟩
  · intro a b hab
    have := h.rng _ hab
    simp only at this
    omega
  · intro a b hab
    have := ((h.chk _ hab (by simp)).resolve_left id).1
    simpa using this
  · intro a b hab c x y j q r hx hy hq hr
    have hd := ((h.chk _ hab (by simp)).resolve_left id).2 c x y j q r (by simpa using hx) (by simpa using hy) hq hr
    have := h.rng _ hd
    simp only at this
    rw [Int.toNat_of_nonneg this.1.1, Int.toNat_of_nonneg this.2.1]
    exact hd
theorem BInv.start_ (h1 : 1 ≤ m.length) (h2 : 1 ≤ m'.length) : BInv m m' [(0, 0)] [(0, 0)] (fun _ => False) := by
  refine ⟨by simp, fun p hp => ?_, fun p hp => hp, fun p hp hn => absurd hp hn, fun hs p hp => ?_, by simp⟩
  · simp at hp
    subst hp
    simp only
    omega
  · simp at hp
    subst hp
    exact hs
end
end Go.Proofs.Ytlnonadkdonhmaa

/- Contract: alike. -/
namespace Go.Proofs.Ytlnonadkdonhmaa
open Go.RowKit Go.Maps

def tot (met opn : List (Int × Int)) : Nat := (4096 - met.length) * 2 + opn.length
theorem prs_cons (p : Int × Int) (l : List (Int × Int)) : prs (p :: l) = [.int .i64 p.1, .int .i64 p.2] ++ prs l := by simp [prs, prCells]
theorem prs_len (l : List (Int × Int)) : (prs l).length = l.length * 2 := by unfold prs; rw [flat_len prCells_len]

set_option maxRecDepth 100000 in
set_option maxHeartbeats 16000000 in
theorem alike_any (n : Int) (A : Option Addr) (c : Nat) (rs : List Int) (B : Option Addr) (d : Nat) (m : Mach) (B' : Option Addr) (d' : Nat) (m' : Mach) (w : World) (hM : MachAt w B m) (hM' : MachAt w B' m') (hf : formedA n rs m = true) (hf' : formedA n rs m' = true) :
    Calls Try.prog 41 #[.agg #[.int .i64 n, .slice A rs.length c], .agg #[.slice B m.length d], .agg #[.slice B' m'.length d']] w fun e w' => ∃ b, e = .returned (.bool b) ∧ (b = true ↔ Sim m m' 0 0) ∧ Below w.heap.size w w' := by
  obtain ⟨hm1, hm64⟩ := formed_len hf
  obtain ⟨hn1, hn64⟩ := formed_len hf'
  have h6 := (grpOk_true (formed_grp hf)).2.1
  obtain ⟨W, hW⟩ : ∃ W, ((w.alloc (.cells #[.int .i64 n, .slice A rs.length c] 24)).alloc (.cells #[.slice B m.length d] 27)).alloc (.cells #[.slice B' m'.length d'] 27) = W := ⟨_, rfl⟩
  have hBW : Below w.heap.size w W := by rw [← hW]; exact (((Below.refl _ w).alloc (Nat.le_refl _) _).alloc (by simp) _).alloc (by simp <;> omega) _
  have hsWa : W.heap.size ≤ w.heap.size + 3 := by rw [← hW]; simp
  have hsWb : w.heap.size + 3 ≤ W.heap.size := by rw [← hW]; simp
  have b1 : Blk W (w.heap.size + 1) (.cells #[.slice B m.length d] 27) := by
    rw [← hW]
    have e := (Blk.new (w.alloc (.cells #[.int .i64 n, .slice A rs.length c] 24)) (.cells #[.slice B m.length d] 27)).alloc (.cells #[.slice B' m'.length d'] 27)
    rw [World.size_alloc] at e
    exact e
  have b2 : Blk W (w.heap.size + 2) (.cells #[.slice B' m'.length d'] 27) := by
    rw [← hW]
    have e := Blk.new ((w.alloc (.cells #[.int .i64 n, .slice A rs.length c] 24)).alloc (.cells #[.slice B m.length d] 27)) (.cells #[.slice B' m'.length d'] 27)
    rw [World.size_alloc, World.size_alloc] at e
    exact e
  have HF := Lib.hid hf
  have HF' := Lib.hid hf'
  have HBW := Lib.hid hBW
  have H1 := Lib.hid b1
  have H2 := Lib.hid b2
  obtain ⟨k0, hkey⟩ := key125 0 0 (by unfold rng; omega) (by unfold rng; omega)
  have hmm := @run_makeMap Try.prog
  obtain ⟨w1, hput, hmap, hgr⟩ := (MapIs.new Try.prog 125 W).put_new keyed125 Try.underlying141 hkey (by simp) (v := .bool true)
  have hs1 := hgr.size
  simp only [World.size_alloc] at hs1
  obtain ⟨w2, hw2⟩ : ∃ w2, w1.alloc (.cells #[.int .i64 0, .int .i64 0] 125) = w2 := ⟨_, rfl⟩
  have hW1 : Below W.heap.size W w1 := ((Below.refl _ W).alloc (Nat.le_refl _) _).trans ((Frame.of_grown hgr).below (fun b hb => by injection hb with hb; omega) (by simp))
  have HBW2 : Hid (Below W.heap.size W w2) := by rw [← hw2]; exact hW1.alloc (by omega) _
  have HQ2 : Hid (queRow w2 W.heap.size 125 2 (.slice (some ⟨w1.heap.size, 0, none⟩) 1 1) 1 (prs [(0, 0)])) := by
    rw [← hw2]
    exact Lib.hid (queRow.of_own ⟨rfl, .inr ⟨w1.heap.size, 1, _, rfl, by omega, heap_alloc_new w1 _, by omega, by decide, rfl, rfl⟩⟩ (by decide))
  have HM2 : Hid (MetAt w2 W.heap.size [(0, 0)]) := by
    rw [← hw2]
    exact Lib.hid (MapIs.alloc (by simpa [metV] using hmap) _)
  have HI2 := Lib.hid (BInv.start_ (m := m) (m' := m') hm1 hn1)
  clear b1 b2 hf hf' hBW hkey hmap hgr hW1
  go_enter Try.func41, Try.ntmps41
  go_wp2
  clear hput hmm hW hw2 hs1
  obtain ⟨bm, hbm⟩ : ∃ bm, W.heap.size = bm := ⟨_, rfl⟩
  obtain ⟨B0, hB0⟩ : ∃ B0, W.heap.size = B0 := ⟨_, rfl⟩
  have HB0 := Lib.hid hB0
  rw [hbm] at HM2 ⊢
  have hbB : B0 ≤ bm := by omega
  have hwB : w.heap.size + 3 ≤ B0 := by omega
  rw [hB0] at HBW2 HQ2
  clear hbm hB0 hsWa hsWb
  go_loopg [8] (tot [(0, 0)] [(0, 0)]) (fun g v wr => ∃ met opn : List (Int × Int), tot met opn ≤ g ∧ g ≤ 10000 ∧ queRow wr B0 125 2 v opn.length (prs opn) ∧ MetAt wr bm met ∧ BInv m m' met opn (fun _ => False) ∧ Below B0 W wr)
  case atStart => exact ⟨_, _, Nat.le_refl _, by decide, HQ2.out, HM2.out, HI2.out, HBW2.out⟩
  case round =>
    obtain ⟨met, opn, htot, hg4, hque, hmet, hinv, hB⟩ := hrel
    obtain ⟨gko, rfl⟩ : ∃ gko : Nat, gko = gk := ⟨_, rfl⟩
    have HTOT := Lib.hid htot
    have HQUE := Lib.hid hque
    have HMET := Lib.hid hmet
    have HINV := Lib.hid hinv
    have HB := Lib.hid hB
    have hszr := hB.size
    have hmlen := hinv.len hm64 hn64
    have HWB : Hid (W.heap.size ≤ B0 ∧ B0 ≤ W.heap.size) := by rw [HB0.out]; exact ⟨Nat.le_refl _, Nat.le_refl _⟩
    have a1 := (H1.out.below hB (by have := H1.out.lt; have := HWB.out.1; omega)).cell 0 (v := .slice B m.length d) rfl
    have a2 := (H2.out.below hB (by have := H2.out.lt; have := HWB.out.1; omega)).cell 0 (v := .slice B' m'.length d') rfl
    have l1 : w.heap.size + 2 < wr.heap.size := by have := HWB.out.2; omega
    have l2 : w.heap.size + 1 < wr.heap.size := by omega
    clear htot hmet hB
    cases opn with
    | nil =>
      obtain ⟨A0, c0, rfl, _⟩ := hque.out (by simp [prs])
      have HS : Hid (Sim m m' 0 0) := hinv.end_
      clear hque hinv
      go_wp2
      go_ret
      exact ⟨true, rfl, ⟨fun _ => HS.out, fun _ => rfl⟩, HBW.out.trans (HB.out.mono (by omega))⟩
    | cons p opn =>
      have hmem := hinv.sub p (List.mem_cons_self ..)
      have hpr := hinv.rng p hmem
      obtain ⟨p1, p2⟩ := p
      simp only at hpr
      obtain ⟨a, rfl⟩ := Int.eq_ofNat_of_zero_le hpr.1.1
      obtain ⟨b, rfl⟩ := Int.eq_ofNat_of_zero_le hpr.2.1
      have ham : a < m.length := by omega
      have hbm : b < m'.length := by omega
      have hto : opn.length ≤ 10000 := by have := HTOT.out; unfold tot at this; simp only [List.length_cons] at this; omega
      obtain ⟨A0, c0, rfl, hcs⟩ := hque.out (by rw [prs_len]; simp only [List.length_cons]; omega)
      obtain ⟨x0, b0, o0, hx0, hb0, hix0, hc0⟩ := flat_at (f := prCells) (c := c0) (k := 0) hcs prCells_len Try.underlying142 rPq.size_eq (by decide) (by simp)
      have hx0' : ((a : Int), (b : Int)) = x0 := by simpa using hx0
      subst hx0'
      have e00 := hc0 0 (.int .i64 (a : Int)) rfl
      have e01 := hc0 1 (.int .i64 (b : Int)) rfl
      rw [Nat.add_zero] at e00
      have hol : (((a : Int), (b : Int)) :: opn).length = opn.length + 1 := rfl
      rw [hol] at hque hix0 ⊢
      rw [show ((0 : Nat) : Int) = 0 from rfl] at hix0
      rw [prs_cons] at hque
      obtain ⟨v1, hsl1, hsl2, hque1, hob1⟩ := que_tail (P := Try.prog) (t := 142) Try.underlying142 (by kernel_rfl) rPq.size_eq hque rfl
      have HPOP := Lib.hid hinv.pop
      have HPM := Lib.hid hmem
      have HQ1 := Lib.hid hque1
      obtain ⟨E1, f1, k1, o1, hk1, hix1, hcr1, hrow1, hlr1, _⟩ := row_at (d := d) hM HF.out ham
      obtain ⟨E2, f2, k2, o2, hk2, hix2, hcr2, hrow2, hlr2, _⟩ := row_at (d := d') hM' HF'.out hbm
      obtain ⟨row1, HR1⟩ : ∃ row1, Hid (rowM m a = row1) := ⟨_, rfl⟩
      obtain ⟨row2, HR2⟩ : ∃ row2, Hid (rowM m' b = row2) := ⟨_, rfl⟩
      rw [HR1.out] at hcr1 hrow1 hlr1
      rw [HR2.out] at hcr2 hrow2 hlr2
      have HWr : Hid (Below w.heap.size w wr) := HBW.out.trans (HB.out.mono (by omega))
      have g1 := cell_chain HWr.out hk1 hcr1
      have g1l : k1 < wr.heap.size := Nat.lt_of_lt_of_le hk1 HWr.out.size
      obtain ⟨WC, hWC⟩ : ∃ WC, wr.alloc (.cells #[.int .i64 (a : Int), .int .i64 (b : Int)] 125) = WC := ⟨_, rfl⟩
      have hBC : Below wr.heap.size wr WC := by rw [← hWC]; exact (Below.refl _ wr).alloc (Nat.le_refl _) _
      have hCa : WC.heap.size ≤ wr.heap.size + 1 := by rw [← hWC]; simp
      have hCb : wr.heap.size + 1 ≤ WC.heap.size := by rw [← hWC]; simp
      have bC : Blk WC wr.heap.size (.cells #[.int .i64 (a : Int), .int .i64 (b : Int)] 125) := by rw [← hWC]; exact Blk.new _ _
      have HBC := Lib.hid hBC
      have HbC := Lib.hid bC
      have q0 := bC.cell 0 (v := .int .i64 (a : Int)) rfl
      have qa1 := cell_chain hBC l2 a1
      have qg1 := cell_chain hBC g1l g1
      have ql1 : w.heap.size + 1 < WC.heap.size := by omega
      have ql2 : k1 < WC.heap.size := by omega
      have ql3 : wr.heap.size < WC.heap.size := by omega
      have HQC : Hid (queRow WC B0 125 2 v1 opn.length (prs opn)) := hque1.frame (S := fun _ => False) (Frame.of_all hBC) (fun _ _ h => h)
      have HMC : Hid (MetAt WC bm met) := HMET.out.frame (S := fun _ => False) (Frame.of_all hBC) (fun h => h)
      have HVL : Hid (∀ g, v1.ownBlock = some g → B0 ≤ g ∧ g < wr.heap.size) := hque1.lt
      have hbmr : bm < wr.heap.size := HMET.out.lt
      have hlr12 : row1.length = row2.length := by omega
      have hr16 : row1.length ≤ 6 := by omega
      have HT0 : Hid (tot met opn + 1 ≤ gko) := by
        have := HTOT.out
        unfold tot at this ⊢
        simp only [List.length_cons] at this
        show _ ≤ _
        omega
      have HLR := Lib.hid hlr12
      have HCR2 : Hid (k2 < w.heap.size ∧ w.cell? ⟨k2, o2, none⟩ = some (.slice E2 row2.length f2)) := Lib.hid ⟨hk2, hcr2⟩
      obtain ⟨wq, rfl⟩ : ∃ wq : World, wq = wr := ⟨_, rfl⟩
      clear hx0 hc0 hcs hque hque1 hinv hmem hpr hob1 hBC bC hmlen hlr1 hlr2 hcr1 hcr2 hlr12
      go_wp2
      clear qa1 qg1 hix1 hsl1 hsl2 hix0 e00 e01
      go_loopg [8, 35] row1.length (fun g v i W' => ∃ (cc : Nat) (met' opn' : List (Int × Int)), cc + g = row1.length ∧ i = .int .i64 cc ∧ tot met' opn' ≤ tot met opn ∧ queRow W' B0 125 2 v opn'.length (prs opn') ∧ MetAt W' bm met' ∧
        BInv m m' met' opn' (fun q => q = ((a : Int), (b : Int))) ∧ ((a : Int), (b : Int)) ∈ met' ∧ DoneTo m m' met' ((a : Int), (b : Int)) cc 0 ∧ (∀ g, v.ownBlock = some g → v1.ownBlock = some g ∨ WC.heap.size ≤ g) ∧ Frame (fun k => k = bm ∨ v1.ownBlock = some k) WC W')
      case atStart => exact ⟨0, met, opn, by omega, rfl, Nat.le_refl _, HQC.out, HMC.out, HPOP.out, HPM.out, DoneTo.start _ _ _ _, fun g h => .inl h, Frame.refl _ _⟩
      case round =>
        obtain ⟨cc, met', opn', hcg, rfl, htot', hque', hmet', hinv', hpm', hdone, hloc, hF⟩ := hrel
        have HTOT' := Lib.hid htot'
        have HQUE' := Lib.hid hque'
        have HMET' := Lib.hid hmet'
        have HINV' := Lib.hid hinv'
        have HPM' := Lib.hid hpm'
        have HDONE := Lib.hid hdone
        have HLOC := Lib.hid hloc
        have HFc := Lib.hid hF
        have hszc := hF.size
        have HBc : Hid (Below B0 W wr) := (HB.out.trans (HBC.out.mono (by omega))).trans (hF.below (B := B0) (fun k e => by rcases e with e | e; omega; exact (HVL.out k e).1) (by omega))
        have HWc : Hid (Below w.heap.size w wr) := HBW.out.trans (HBc.out.mono (by omega))
        have HbC' : Hid (Blk wr wq.heap.size (.cells #[.int .i64 (a : Int), .int .i64 (b : Int)] 125)) := HbC.out.frame hF (fun e => by rcases e with e | e; omega; have := (HVL.out _ e).2; omega)
        have hto' : opn'.length ≤ 10000 := by
          have h1 := HT0.out
          unfold tot at htot' h1
          omega
        have hbmc : bm < wr.heap.size := hmet'.lt
        clear htot' hque' hmet' hinv' hpm' hdone hloc hF
        by_cases hct : cc < row1.length
        · obtain ⟨x, D1, e1, b3, o3, hx, hb3, hix3, hc30, hc31, hD1⟩ := acts_at (c := f1) hrow1 hct
          obtain ⟨y, D2, e2, b4, o4, hy, hb4, hix4, hc40, hc41, hD2⟩ := acts_at (c := f2) (k := cc) hrow2 (by have := HLR.out; omega)
          have hokx := act_ok HF.out ham (by rw [HR1.out]; exact hx)
          have hoky := act_ok HF'.out hbm (by rw [HR2.out]; exact hy)
          have hmx := next_many hokx
          have hmy := next_many hoky
          have hnx := next_len hokx
          have HXIN : Hid (∀ q ∈ x.next, 0 ≤ q ∧ q < (m.length : Int)) := fun q hq => next_mem hokx hq
          have HYIN : Hid (∀ q ∈ y.next, 0 ≤ q ∧ q < (m'.length : Int)) := fun q hq => next_mem hoky hq
          obtain ⟨rx, HRX⟩ : ∃ rx, Hid (x.rule = rx) := ⟨_, rfl⟩
          obtain ⟨ry, HRY⟩ : ∃ ry, Hid (y.rule = ry) := ⟨_, rfl⟩
          obtain ⟨nx, HNX⟩ : ∃ nx, Hid (x.next = nx) := ⟨_, rfl⟩
          obtain ⟨ny, HNY⟩ : ∃ ny, Hid (y.next = ny) := ⟨_, rfl⟩
          rw [HRX.out] at hc30 hmx
          rw [HRY.out] at hc40 hmy
          rw [HNX.out] at hc31 hD1 hnx hmx HXIN
          rw [HNY.out] at hc41 hD2 hmy HYIN
          have HX : Hid ((rowM m a)[cc]? = some x) := by rw [HR1.out]; exact hx
          have HY : Hid ((rowM m' b)[cc]? = some y) := by rw [HR2.out]; exact hy
          have u30 := cell_chain HWc.out hb3 hc30
          have u31 := HWc.out.cell (p := ⟨b3, o3 + 1, none⟩) hb3
          rw [hc31] at u31
          have u3l : b3 < wr.heap.size := Nat.lt_of_lt_of_le hb3 HWc.out.size
          obtain ⟨WA, hWA⟩ : ∃ WA, wr.alloc (.cells #[.int .i64 rx, .slice D1 nx.length e1] 103) = WA := ⟨_, rfl⟩
          have hBA : Below wr.heap.size wr WA := by rw [← hWA]; exact (Below.refl _ wr).alloc (Nat.le_refl _) _
          have hAa : WA.heap.size ≤ wr.heap.size + 1 := by rw [← hWA]; simp
          have hAb : wr.heap.size + 1 ≤ WA.heap.size := by rw [← hWA]; simp
          have bA : Blk WA wr.heap.size (.cells #[.int .i64 rx, .slice D1 nx.length e1] 103) := by rw [← hWA]; exact Blk.new _ _
          have HWA' : Hid (Below w.heap.size w WA) := HWc.out.trans (hBA.mono (by have := HWc.out.size; omega))
          have v40 := cell_chain HWA'.out hb4 hc40
          have v41 := HWA'.out.cell (p := ⟨b4, o4 + 1, none⟩) hb4
          rw [hc41] at v41
          have v4l : b4 < WA.heap.size := Nat.lt_of_lt_of_le hb4 HWA'.out.size
          have v2 := cell_chain HWA'.out HCR2.out.1 HCR2.out.2
          have v2l : k2 < WA.heap.size := Nat.lt_of_lt_of_le HCR2.out.1 HWA'.out.size
          have vc := (HbC'.out.below hBA HbC'.out.lt).cell 1 (v := .int .i64 (b : Int)) rfl
          have vcl : wq.heap.size < WA.heap.size := (HbC'.out.below hBA HbC'.out.lt).lt
          have va2 := ((H2.out.below HBc.out (by have := H2.out.lt; have := HWB.out.1; omega)).below hBA (by have := H2.out.lt; have := HWB.out.1; omega)).cell 0 (v := .slice B' m'.length d') rfl
          have va2l : w.heap.size + 2 < WA.heap.size := by omega
          obtain ⟨WB, hWB⟩ : ∃ WB, WA.alloc (.cells #[.int .i64 ry, .slice D2 ny.length e2] 103) = WB := ⟨_, rfl⟩
          have hBB : Below WA.heap.size WA WB := by rw [← hWB]; exact (Below.refl _ WA).alloc (Nat.le_refl _) _
          have hBa : WB.heap.size ≤ WA.heap.size + 1 := by rw [← hWB]; simp
          have hBb : WA.heap.size + 1 ≤ WB.heap.size := by rw [← hWB]; simp
          have bB1 : Blk WB wr.heap.size (.cells #[.int .i64 rx, .slice D1 nx.length e1] 103) := bA.below hBB bA.lt
          have bB2 : Blk WB WA.heap.size (.cells #[.int .i64 ry, .slice D2 ny.length e2] 103) := by rw [← hWB]; exact Blk.new _ _
          have w0 := bB1.cell 0 (v := .int .i64 rx) rfl
          have w1' := bB1.cell 1 (v := .slice D1 nx.length e1) rfl
          have w2' := bB2.cell 0 (v := .int .i64 ry) rfl
          have wl1 := bB1.lt
          have wl2 := bB2.lt
          have HBAB : Hid (Below wr.heap.size wr WB) := hBA.trans (hBB.mono (by omega))
          have HB1 := Lib.hid bB1
          have HB2' := Lib.hid bB2
          have HD1 := Lib.hid hD1
          have HD2 := Lib.hid hD2
          clear hokx hoky hx hy hc30 hc31 hc40 hc41 hBA bA hBB bB1 bB2 hD1 hD2
          by_cases hrr : rx = ry
          · have hne : (rx != ry) = false := by simpa using hrr
            have hnl : nx.length = ny.length := by rw [hmx, hmy, hrr]
            have HRR := Lib.hid hrr
            have HNL := Lib.hid hnl
            have HVC : Hid (∀ g, u8.ownBlock = some g → B0 ≤ g ∧ g < wr.heap.size) := HQUE'.out.lt
            have HQB : Hid (queRow WB B0 125 2 u8 opn'.length (prs opn')) := HQUE'.out.frame (S := fun _ => False) (Frame.of_all HBAB.out) (fun _ _ h => h)
            have HMB : Hid (MetAt WB bm met') := HMET'.out.frame (S := fun _ => False) (Frame.of_all HBAB.out) (fun h => h)
            have HWWB : Hid (Below w.heap.size w WB) := HWc.out.trans (HBAB.out.mono (by have := HWc.out.size; omega))
            have hD0 := HDONE.out
            clear hrr hmx hmy hnl hD0
            go_wp2
            obtain ⟨wc, rfl⟩ : ∃ wc : World, wc = wr := ⟨_, rfl⟩
            obtain ⟨gkc, rfl⟩ : ∃ gkc : Nat, gkc = gk := ⟨_, rfl⟩
            obtain ⟨vC, rfl⟩ : ∃ vC : Value, vC = u8 := ⟨_, rfl⟩
            clear w0 w1' w2' v40 v41 v2 vc va2 u30 u31 hix3 hix4 hix2
            go_loopg [8, 57] nx.length (fun g v i W' => ∃ (j : Nat) (met2 opn2 : List (Int × Int)), j + g = nx.length ∧ i = .int .i64 j ∧ tot met2 opn2 ≤ tot met opn ∧ queRow W' B0 125 2 v opn2.length (prs opn2) ∧ MetAt W' bm met2 ∧
              BInv m m' met2 opn2 (fun q => q = ((a : Int), (b : Int))) ∧ ((a : Int), (b : Int)) ∈ met2 ∧ DoneTo m m' met2 ((a : Int), (b : Int)) cc j ∧ (∀ g, v.ownBlock = some g → vC.ownBlock = some g ∨ WB.heap.size ≤ g) ∧ Frame (fun k => k = bm ∨ vC.ownBlock = some k) WB W')
            case atStart => exact ⟨0, met', opn', by omega, rfl, HTOT'.out, HQB.out, HMB.out, HINV'.out, HPM'.out, HDONE.out, fun g h => .inl h, Frame.refl _ _⟩
            case round =>
              obtain ⟨j, met2, opn2, hjg, rfl, htot2, hque2, hmet2, hinv2, hpm2, hdone2, hloc2, hF2⟩ := hrel
              have HTOT2 := Lib.hid htot2
              have HQUE2 := Lib.hid hque2
              have HMET2 := Lib.hid hmet2
              have HINV2 := Lib.hid hinv2
              have HPM2 := Lib.hid hpm2
              have HDONE2 := Lib.hid hdone2
              have HLOC2 := Lib.hid hloc2
              have HF2 := Lib.hid hF2
              have hsz2 := hF2.size
              have hto2 : opn2.length ≤ 10000 := by
                have h1 := HT0.out
                unfold tot at htot2 h1
                omega
              have HW2 : Hid (Below w.heap.size w wr) := HWWB.out.trans (hF2.below (B := w.heap.size) (fun k e => by rcases e with e | e; omega; have := (HVC.out k e).1; omega) (by omega))
              have HBx1 : Hid (Blk wr wc.heap.size (.cells #[.int .i64 rx, .slice D1 nx.length e1] 103)) := HB1.out.frame hF2 (fun e => by rcases e with e | e; omega; have := (HVC.out _ e).2; omega)
              have HBx2 : Hid (Blk wr WA.heap.size (.cells #[.int .i64 ry, .slice D2 ny.length e2] 103)) := HB2'.out.frame hF2 (fun e => by rcases e with e | e; omega; have := (HVC.out _ e).2; omega)
              have hnl := HNL.out
              clear htot2 hque2 hmet2 hinv2 hpm2 hdone2 hloc2 hF2
              by_cases hjt : j < nx.length
              · obtain ⟨q, b5, o5, hq, hb5, hix5, hc5⟩ := ints_at (c := e1) (HD1.out.below HW2.out (Nat.le_refl _)) Try.underlying22 szInt hjt
                obtain ⟨r, b6, o6, hr, hb6, hix6, hc6⟩ := ints_at (c := e2) (k := j) (HD2.out.below HW2.out (Nat.le_refl _)) Try.underlying22 szInt (by omega)
                have hqb := HXIN.out q (List.mem_of_getElem? hq)
                have hrb := HYIN.out r (List.mem_of_getElem? hr)
                have HRQ : Hid (rng q ∧ rng r) := by constructor <;> unfold rng <;> omega
                have HQX : Hid (x.next[j]? = some q) := by rw [HNX.out]; exact hq
                have HRY2 : Hid (y.next[j]? = some r) := by rw [HNY.out]; exact hr
                have HSM : Hid (Sim m m' 0 0 → Sim m m' q.toNat r.toNat) := fun hs => by
                  have e := HINV2.out.sim hs _ HPM2.out
                  exact e.next (by simpa using HX.out) (by simpa using HY.out) HQX.out HRY2.out
                have HQR : Hid ((0 ≤ q ∧ q < (m.length : Int)) ∧ 0 ≤ r ∧ r < (m'.length : Int)) := Lib.hid ⟨hqb, hrb⟩
                have s0 := HBx1.out.cell 1 (v := .slice D1 nx.length e1) rfl
                have s1 := HBx2.out.cell 1 (v := .slice D2 ny.length e2) rfl
                have sl0 := HBx1.out.lt
                have sl1 := HBx2.out.lt
                clear hq hr hqb hrb hnl
                go_wp2
                refine draw (fun w' => Below wr.heap.size wr w') 13 rfl (by kernel_rfl) (fun Qd hQd => ?_)
                apply anyI_step 0 rfl (by kernel_rfl)
                focus (intro wI hI Kv hKv; have t0 := cell_chain hI sl0 s0; have t1 := cell_chain hI sl1 s1; have t5 := cell_chain hI hb5 hc5; have t6 := cell_chain hI hb6 hc6; go_simp; exact hKv)
                intro Kd hKd
                go_simp
                refine hKd _ ?_
                clear hKd Kd
                apply anyI_step 2 rfl (by kernel_rfl)
                focus (intro wI hI Kv hKv; have t0 := cell_chain hI sl0 s0; have t1 := cell_chain hI sl1 s1; have t5 := cell_chain hI hb5 hc5; have t6 := cell_chain hI hb6 hc6; go_simp; exact hKv)
                intro Kd hKd
                go_simp
                refine hKd _ ?_
                clear hKd Kd
                apply anyI_step 5 rfl (by kernel_rfl)
                focus (intro wI hI Kv hKv; have t0 := cell_chain hI sl0 s0; have t1 := cell_chain hI sl1 s1; have t5 := cell_chain hI hb5 hc5; have t6 := cell_chain hI hb6 hc6; go_simp; exact hKv)
                intro Kd hKd
                go_simp
                refine hKd _ ?_
                clear hKd Kd
                apply anyI_step 7 rfl (by kernel_rfl)
                focus (intro wI hI Kv hKv; have t0 := cell_chain hI sl0 s0; have t1 := cell_chain hI sl1 s1; have t5 := cell_chain hI hb5 hc5; have t6 := cell_chain hI hb6 hc6; go_simp; exact hKv)
                intro Kd hKd
                go_simp
                refine hKd _ ?_
                clear hKd Kd
                apply anyI_step 1 rfl (by kernel_rfl)
                focus (intro wI hI Kv hKv; have t0 := cell_chain hI sl0 s0; have t1 := cell_chain hI sl1 s1; have t5 := cell_chain hI hb5 hc5; have t6 := cell_chain hI hb6 hc6; go_simp; exact hKv)
                intro Kd hKd
                go_simp
                refine hKd _ ?_
                clear hKd Kd
                apply anyI_step 6 rfl (by kernel_rfl)
                focus (intro wI hI Kv hKv; have t0 := cell_chain hI sl0 s0; have t1 := cell_chain hI sl1 s1; have t5 := cell_chain hI hb5 hc5; have t6 := cell_chain hI hb6 hc6; go_simp; exact hKv)
                intro Kd hKd
                go_simp
                refine hKd _ ?_
                clear hKd Kd
                apply anyI_step 3 rfl (by kernel_rfl)
                focus (intro wI hI Kv hKv; have t0 := cell_chain hI sl0 s0; have t1 := cell_chain hI sl1 s1; have t5 := cell_chain hI hb5 hc5; have t6 := cell_chain hI hb6 hc6; go_simp; exact hKv)
                intro Kd hKd
                go_simp
                refine hKd _ ?_
                clear hKd Kd
                apply anyI_step 8 rfl (by kernel_rfl)
                focus (intro wI hI Kv hKv; have t0 := cell_chain hI sl0 s0; have t1 := cell_chain hI sl1 s1; have t5 := cell_chain hI hb5 hc5; have t6 := cell_chain hI hb6 hc6; go_simp; exact hKv)
                intro Kd hKd
                go_simp
                refine hKd _ ?_
                clear hKd Kd
                apply anyI_step 4 rfl (by kernel_rfl)
                focus (intro wI hI Kv hKv; have t0 := cell_chain hI sl0 s0; have t1 := cell_chain hI sl1 s1; have t5 := cell_chain hI hb5 hc5; have t6 := cell_chain hI hb6 hc6; go_simp; exact hKv)
                intro Kd hKd
                go_simp
                refine hKd _ ?_
                clear hKd Kd
                apply anyI_step 9 rfl (by kernel_rfl)
                focus (intro wI hI Kv hKv; have t0 := cell_chain hI sl0 s0; have t1 := cell_chain hI sl1 s1; have t5 := cell_chain hI hb5 hc5; have t6 := cell_chain hI hb6 hc6; go_simp; exact hKv)
                intro Kd hKd
                go_simp
                refine hKd _ ?_
                clear hKd Kd
                apply anyI_step 10 rfl (by kernel_rfl)
                focus (intro wI hI Kv hKv; have t0 := cell_chain hI sl0 s0; have t1 := cell_chain hI sl1 s1; have t5 := cell_chain hI hb5 hc5; have t6 := cell_chain hI hb6 hc6; go_simp; exact hKv)
                intro Kd hKd
                go_simp
                refine hKd _ ?_
                clear hKd Kd
                refine anyI_one' 11 rfl (by kernel_rfl) ((Below.refl _ _).drew) (fun Kd hKd => ?_)
                go_wp2
                refine anyI_one' 12 rfl (by kernel_rfl) ((((Below.refl _ wr).alloc (Nat.le_refl _) _).drew)) (fun Kd hKd => ?_)
                go_wp2
                refine anyI_end (by kernel_rfl) ((((Below.refl _ wr).alloc (Nat.le_refl _) _).drew)) (hQd _ _ ?_)
                clear hQd Qd
                obtain ⟨W3, hW3⟩ : ∃ W3, (wr.alloc (.cells #[.int .i64 q, .int .i64 r] 125)).drew = W3 := ⟨_, rfl⟩
                have hB3 : Below wr.heap.size wr W3 := by rw [← hW3]; exact ((Below.refl _ wr).alloc (Nat.le_refl _) _).drew
                have hs3a : W3.heap.size ≤ wr.heap.size + 1 := by rw [← hW3]; exact (Nat.le_of_eq (World.size_alloc _ _))
                have b7 : Blk W3 wr.heap.size (.cells #[.int .i64 q, .int .i64 r] 125) := by rw [← hW3]; exact (Blk.new wr _).drew
                rw [hW3]
                have HB3 := Lib.hid hB3
                have HB7 := Lib.hid b7
                have hmet3 : MetAt W3 bm met2 := HMET2.out.frame (S := fun _ => False) (Frame.of_all hB3) (fun h => h)
                have HQ3 : Hid (queRow W3 B0 125 2 u8 opn2.length (prs opn2)) := HQUE2.out.frame (S := fun _ => False) (Frame.of_all hB3) (fun _ _ h => h)
                have hlk := met_look hmet3 HRQ.out.1 HRQ.out.2
                have z0 := b7.cell 0 (v := .int .i64 q) rfl
                have z1 := b7.cell 1 (v := .int .i64 r) rfl
                have zl := b7.lt
                have HMET3 := Lib.hid hmet3
                clear hW3 s0 s1 hix5 hix6 hc5 hc6 b7 hB3 hmet3
                by_cases hin : (q, r) ∈ met2
                · rw [decide_eq_true hin] at hlk
                  have HIN := Lib.hid hin
                  clear hin
                  go_wp2
                  go_roundg (gk - 1)
                  case measure => omega
                  case rel =>
                    refine ⟨j + 1, met2, opn2, by omega, by go_num, HTOT2.out, HQ3.out, HMET3.out, HINV2.out, HPM2.out, ?_, HLOC2.out, ?_⟩
                    · exact HDONE2.out.next (by simpa using HX.out) (by simpa using HY.out) HQX.out HRY2.out HIN.out
                    · exact HF2.out.trans (Frame.of_all (S := fun _ => False) HB3.out) (fun _ _ h => h.elim)
                · rw [decide_eq_false hin] at hlk
                  obtain ⟨W4, hput, hmet4, hg4⟩ := met_put HMET3.out HRQ.out.1 HRQ.out.2 hin
                  have HPU : Hid (BInv m m' (met2 ++ [(q, r)]) (opn2 ++ [(q, r)]) (fun q => q = ((a : Int), (b : Int)))) := HINV2.out.push hin HQR.out HSM.out
                  have hml := HPU.out.len hm64 hn64
                  have b8 := HB7.out.grown hg4 (fun e => HMET3.out.not_blk HB7.out (by injection e))
                  have z2 := b8.cell 0 (v := .int .i64 q) rfl
                  have z3 := b8.cell 1 (v := .int .i64 r) rfl
                  have zl2 := b8.lt
                  have hq4 : queRow W4 B0 125 2 u8 opn2.length (prs opn2) := HQ3.out.frame (Frame.of_grown hg4) (fun g hg e => HQ3.out.not_map HMET3.out (by rw [hg, ← e]))
                  have hs4 := hg4.size
                  have HG4 := Lib.hid hg4
                  have HMET4 := Lib.hid hmet4
                  have HNIN := Lib.hid hin
                  simp only [List.length_append, List.length_cons, List.length_nil] at hml
                  have hb4 : B0 ≤ W4.heap.size := by have := HW2.out.size; omega
                  clear hin hg4 hmet4 b8
                  go_wp2_with (at_builtin; go_must (refine wpList_que1 rPq _ rfl _ _ rfl hq4 rfl [_, _] 1 rfl rfl (by simp [Value.oneCell']) (by omega) (by omega) ?_); intro v5 W5 hq5 hg5 hloc5)
                  go_roundg (gk - 1)
                  case measure => omega
                  case rel =>
                    have hm5 : MetAt W5 bm (met2 ++ [(q, r)]) := HMET4.out.frame (Frame.of_grown hg5) (fun e => hq4.not_map HMET4.out e)
                    refine ⟨j + 1, met2 ++ [(q, r)], opn2 ++ [(q, r)], by omega, by go_num, ?_, by rw [prs_snoc, List.length_append]; exact hq5, hm5, HPU.out, List.mem_append_left _ HPM2.out, ?_, ?_, ?_⟩
                    · have h1 := HTOT2.out
                      unfold tot at h1 ⊢
                      simp only [List.length_append, List.length_cons, List.length_nil]
                      omega
                    · exact (HDONE2.out.mono fun z hz => List.mem_append_left _ hz).next (by simpa using HX.out) (by simpa using HY.out) HQX.out HRY2.out (List.mem_append_right _ (List.mem_cons_self ..))
                    · intro g hg
                      rcases hloc5 g hg with e | e
                      · exact HLOC2.out g e
                      · exact .inr (by omega)
                    · refine ((HF2.out.trans (Frame.of_all (S := fun _ => False) HB3.out) (fun _ _ h => h.elim)).trans (Frame.of_grown HG4.out) (fun k _ e => .inl (by injection e with e; exact e.symm))).trans (Frame.of_grown hg5) (fun k hk e => ?_)
                      rcases HLOC2.out k e with e | e
                      · exact .inr e
                      · omega
              · obtain rfl : j = nx.length := by omega
                have HDA : Hid (DoneTo m m' met2 ((a : Int), (b : Int)) (cc + 1) 0) := HDONE2.out.act (x := x) (y := y) (by simpa using HX.out) (by simpa using HY.out) (by rw [HRX.out, HRY.out]; exact HRR.out) (by rw [HNX.out]; exact Nat.le_refl _)
                go_wp2
                go_roundg (gkc - 1)
                case measure => omega
                case rel =>
                  refine ⟨cc + 1, met2, opn2, by omega, by go_num, HTOT2.out, HQUE2.out, HMET2.out, HINV2.out, HPM2.out, HDA.out, ?_, ?_⟩
                  · intro g hg
                    rcases HLOC2.out g hg with e | e
                    · exact HLOC.out g e
                    · exact .inr (by omega)
                  · refine (HFc.out.trans (Frame.of_all (S := fun _ => False) HBAB.out) (fun _ _ h => h.elim)).trans HF2.out (fun k hk e => ?_)
                    rcases e with e | e
                    · exact .inl e
                    · rcases HLOC.out k e with e | e
                      · exact .inr e
                      · omega
          · have hne : (rx != ry) = true := by simpa using hrr
            have HNS : Hid (¬ Sim m m' 0 0) := fun hs => by
              have e := (HINV'.out.sim hs _ HPM'.out).rule cc x y (by simpa using HX.out) (by simpa using HY.out)
              rw [HRX.out, HRY.out] at e
              exact hrr e
            have HEND : Hid (Below w.heap.size w WB) := HWc.out.trans (HBAB.out.mono (by have := HWc.out.size; omega))
            clear hrr hmx hmy
            go_wp2
            go_ret
            exact ⟨false, rfl, ⟨fun h => (by cases h), fun h => absurd h HNS.out⟩, HEND.out⟩
        · obtain rfl : cc = row1.length := by omega
          have HDN : Hid (BInv m m' met' opn' (fun _ => False)) := HINV'.out.done (HDONE.out.all (by
            show (rowM m ((a : Int)).toNat).length ≤ _
            rw [Int.toNat_natCast, HR1.out]
            exact Nat.le_refl _))
          go_wp2
          go_roundg (gko - 1)
          case measure => have := HT0.out; omega
          case rel => exact ⟨met', opn', by have h1 := HT0.out; have h2 := HTOT'.out; omega, by omega, HQUE'.out, HMET'.out, HDN.out, HBc.out⟩
end Go.Proofs.Ytlnonadkdonhmaa
