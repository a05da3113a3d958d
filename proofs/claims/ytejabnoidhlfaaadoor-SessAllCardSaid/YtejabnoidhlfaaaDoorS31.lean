/- Contract: Delete. -/
import Derived.Test.YtejabnoidhlfaaaDoorS26
import Derived.Deep.Upon
import Derived.Deep.RegionLaw
import Derived.Lib.SliceRun

/- Contract: slices.Delete of one packet of a wire. -/
namespace Go.Proofs.YtejabnoidhlfaaaDoor
open Go.RowKit Go.Maps

def setArr (cur : Array Value) : Nat → List Value → Array Value
 | _, [] => cur
 | o, v :: r => setArr (cur.setIfInBounds o v) (o + 1) r
theorem setArr_size : ∀ (vs : List Value) (cur : Array Value) (o : Nat), (setArr cur o vs).size = cur.size
 | [], cur, o => rfl
 | v :: r, cur, o => by rw [setArr, setArr_size r]; simp
theorem setArr_get : ∀ (vs : List Value) (cur : Array Value) (o j : Nat), o + vs.length ≤ cur.size → (setArr cur o vs)[j]? = if o ≤ j ∧ j < o + vs.length then vs[j - o]? else cur[j]?
 | [], cur, o, j, _ => by
  rw [if_neg (by simp)]
  rfl
 | v :: r, cur, o, j, h => by
  simp only [List.length_cons] at h ⊢
  rw [setArr, setArr_get r (cur.setIfInBounds o v) (o + 1) j (by simp; omega)]
  by_cases h1 : o + 1 ≤ j ∧ j < o + 1 + r.length
  ·rw [if_pos h1, if_pos (by omega), show j - o = (j - (o + 1)) + 1 by omega, List.getElem?_cons_succ]
  ·rw [if_neg h1]
   by_cases h2 : j = o
   ·subst h2
    rw [if_pos (by omega), Nat.sub_self, Array.getElem?_setIfInBounds_self_of_lt (by omega)]
    rfl
   ·rw [if_neg (by omega), Array.getElem?_setIfInBounds_ne (by omega)]
theorem blk_setCells {b : Nat} {t : TypeId} : ∀ (vs : List Value) (cur : Array Value) (o : Nat) (w : World), Blk w b (.cells cur t) → Blk (w.setCells b o vs) b (.cells (setArr cur o vs) t)
 | [], _, _, _, h => h
 | v :: r, cur, o, _, h => blk_setCells r (cur.setIfInBounds o v) (o + 1) _ (h.set o v)
theorem frame_setCells {S : Nat → Prop} {w0 : World} {b : Nat} : ∀ (vs : List Value) (o : Nat) (w : World), Frame S w0 w → S b → Frame S w0 (w.setCells b o vs)
 | [], _, _, h, _ => h
 | v :: r, o, _, h, hb => frame_setCells r (o + 1) _ (h.setCell (p := ⟨b, o, none⟩) (.inl hb) v) hb
theorem tpC_one : ∀ l : List Tp, ∀ u ∈ tps l, u.oneCell' = true := by
 intro l u hu
 obtain ⟨x, _, hx⟩ := List.mem_flatMap.1 hu
 simp [tpC] at hx
 rcases hx with rfl | rfl | rfl | rfl | rfl | rfl | rfl | rfl <;> rfl
theorem z116 (w : World) : (zeroValue 106).run Tryd.prog w = .ok (.agg #[.int .i64 0, .int .i64 0, .int .i64 0, .int .i64 0, .int .i64 0, .string ByteArray.empty, .int .i64 0, .int .i64 0]) w := by kernel_rfl
def zTp : List Value := [.int .i64 0, .int .i64 0, .int .i64 0, .int .i64 0, .int .i64 0, .string ByteArray.empty, .int .i64 0, .int .i64 0]
/-- 'clear(s)', s of one element. -/
theorem clear_one {w : World} {b o c : Nat} {cur : Array Value} {t e : TypeId} {z : Value} {zs : List Value} (ht : Tryd.prog.underlying t = some (.slice e)) (hv : ∀ w, (zeroValue e).run Tryd.prog w = .ok z w) (hz : (Builtin.zeroCells z.cells 1).toList = zs) (h1 : ∀ v ∈ zs, v.oneCell' = true) (hB : Blk w b (.cells cur e)) (ho : o + zs.length ≤ cur.size) (ty : TypeId) :
  (Builtin.clear_ #[t] ty #[.slice (some ⟨b, o, none⟩) 1 c]).run Tryd.prog w = .ok (.tuple #[]) (w.setCells b o zs) := by
 have hst := run_storeCells_cells (P := Tryd.prog) b o zs 0 w (fun j hj => by
   rw [Nat.add_zero, hB.cell (o + j) (v := cur[o + j]'(by omega)) (by simp)]; rfl) (fun j hj => hB.free _) h1
 simp only [Nat.add_zero] at hst
 simp [Builtin.clear_, run_underlying ht, hv, hz, hst]
theorem zTp_one : ∀ v ∈ zTp, v.oneCell' = true := by intro v hv; simp [zTp] at hv; rcases hv with rfl | rfl | rfl <;> rfl
theorem zTp_eq : (Builtin.zeroCells (Value.agg #[.int .i64 0, .int .i64 0, .int .i64 0, .int .i64 0, .int .i64 0, .string ByteArray.empty, .int .i64 0, .int .i64 0]).cells 1).toList = zTp := by kernel_rfl
/-- 'clear(s)', s of one packet. -/
theorem clear116 {w : World} {b o c : Nat} {cur : Array Value} (hB : Blk w b (.cells cur 106)) (ho : o + 8 ≤ cur.size) (ty : TypeId) :
  (Builtin.clear_ #[25] ty #[.slice (some ⟨b, o, none⟩) 1 c]).run Tryd.prog w = .ok (.tuple #[]) (w.setCells b o zTp) := clear_one Tryd.underlying25 z116 zTp_eq zTp_one hB ho ty
theorem erase_eq (ws : List Tp) (k : Nat) : tps (ws.eraseIdx k) = tps (ws.take k) ++ tps (ws.drop (k + 1)) := by
 rw [List.eraseIdx_eq_take_drop_succ]
 simp [tps]
/-- append where there is room. -/
theorem wpList_room {P : Program} {ops : Array Oper} {rest : List Oper} {o : Oper} {a : Act} {w : World} {Q : Exit → Act → World → Prop} (hgd : o.guard = none) (s x : Operand) (t : TypeId)
  (ho : o.op = .call { callee := .builtin .append, args := #[s, x], argTypes := #[t, t] })
  (e : TypeId) (size : Nat) (h1 : P.underlying t = some (.slice e)) (h2 : (P.info? e).map (·.size) = some size)
  (b off n cap : Nat) (hs : a.eval s = .slice (some ⟨b, off, none⟩) n cap)
  (ad : Addr) (m c : Nat) (news : List Value) (hx : a.eval x = .slice (some ad) m c) (hn : news.length = m * size) (hc : ∀ j u, news[j]? = some u → w.cell? (ad.add j) = some u) (h1c : ∀ u ∈ news, u.oneCell' = true)
  (hroom : n + m ≤ cap) (hspare : ∀ j, j < news.length → (w.cell? ⟨b, off + n * size + j, none⟩).isSome = true ∧ w.frozen? ⟨b, off + n * size + j, none⟩ = false)
  (h : wpList P ops Q rest (a.put o.dst (.slice (some ⟨b, off, none⟩) (n + m) cap)) (w.setCells b (off + n * size) news)) : wpList P ops Q (o :: rest) a w := by
 cases hi : P.info? e with
 | none => rw [hi] at h2; cases h2
 | some i =>
  rw [hi] at h2
  obtain rfl : i.size = size := by simpa using h2
  refine wpList_plain hgd fun K hK => ?_
  have hrun := run_append_room_cells (P := P) w t o.type e i h1 hi b off n cap ad m c news hn hc h1c hroom (fun j hj => (hspare j hj).1) (fun j hj => (hspare j hj).2)
  unfold Oper.wp
  simp [execOp, ho, resolve, invoke, builtin, hs, hx, hrun, Result.andThen]
  exact hK _ _ h
set_option maxRecDepth 100000 in
set_option maxHeartbeats 8000000 in
theorem delete_any (B g c k j : Nat) (ws : List Tp) (w : World) (h : w.ownsRow B 106 8 (.slice (some ⟨g, 0, none⟩) ws.length c) ws.length (tps ws)) (hk : k < ws.length) (hj : k + 1 = j) (hl : ws.length ≤ 1000000000) :
  Calls Tryd.prog 46 #[.slice (some ⟨g, 0, none⟩) ws.length c, .int .i64 (k : Int), .int .i64 (j : Int)] w fun r w' => r = .returned (.slice (some ⟨g, 0, none⟩) (ws.length - 1) c) ∧ w'.ownsRow B 106 8 (.slice (some ⟨g, 0, none⟩) (ws.length - 1) c) (ws.length - 1) (tps (ws.eraseIdx k)) ∧ Frame (fun b => b = g) w w' := by
 obtain ⟨cur, HB, hBg, hcs, htk, hcl, hcm⟩ : ∃ cur, Blk w g (.cells cur 106) ∧ B ≤ g ∧ cur.size = c * 8 ∧ cur.toList.take (ws.length * 8) = tps ws ∧ ws.length ≤ c ∧ c ≤ maxLen := by
  rcases h.2 with ⟨hv, _⟩ | ⟨g', cap, cur, hv, hb, hh, h1, h2, h3, h4⟩
  ·cases hv
  ·injection hv with e1 e2 e3
   injection e1 with e1
   injection e1 with e1
   subst e1 e3
   exact ⟨cur, hh, hb, h3, h4, h1, h2⟩
 have HBK := Lib.hid HB
 have HTK := Lib.hid htk
 have HCS := Lib.hid hcs
 have HJ := Lib.hid hj
 have HBG := Lib.hid hBg
 have hij : k ≤ j := by omega
 have hjl : j ≤ ws.length := by omega
 have hjc : j ≤ c := by omega
 have hkc : k ≤ c := by omega
 have hlt : k < j := by omega
 obtain ⟨news, hnews⟩ : ∃ news, Hid (news = tps (ws.drop j)) := ⟨_, rfl⟩
 have hget : Hid (∀ t u, news[t]? = some u → cur[j * 8 + t]? = some u) := by
  intro t u hu
  rw [hnews.out] at hu
  have e1 : tps ws = tps (ws.take j) ++ tps (ws.drop j) := by
   unfold tps
   rw [← List.flatMap_append, List.take_append_drop]
  have e2 : (tps (ws.take j)).length = j * 8 := by rw [tps_len, List.length_take]; congr 1; omega
  have e3 : (tps ws)[j * 8 + t]? = some u := by
   rw [e1, List.getElem?_append_right (by omega), e2, Nat.add_sub_cancel_left]
   exact hu
  rw [← htk, List.getElem?_take] at e3
  split at e3
  ·rw [← Array.getElem?_toList]; exact e3
  ·cases e3
 obtain ⟨A, hA, hsrc⟩ : ∃ A : Addr, (if c = j then some (⟨g, 0, none⟩ : Addr) else some ⟨g, j * 8, none⟩) = some A ∧ Hid (∀ t u, news[t]? = some u → w.drew.cell? (A.add t) = some u) := by
  by_cases h : c = j
  ·refine ⟨⟨g, 0, none⟩, by simp [h], fun t u hu => ?_⟩
   have h0 : news = [] := by
    rw [hnews.out, List.drop_eq_nil_of_le (by omega)]; rfl
   rw [h0] at hu
   simp at hu
  ·refine ⟨⟨g, j * 8, none⟩, by simp [h], fun t u hu => ?_⟩
   have h2 : ((⟨g, j * 8, none⟩ : Addr).add t) = ⟨g, j * 8 + t, none⟩ := by
    unfold Addr.add; split <;> simp_all
   rw [h2]
   exact HB.drew.cell _ (hget.out t u hu)
 have s1 : Hid (news.length = (ws.length - j) * 8) := by rw [hnews.out]; exact (tps_len _).trans (by rw [List.length_drop])
 have s2 : Hid (∀ u ∈ news, u.oneCell' = true) := by rw [hnews.out]; exact tpC_one _
 have s3 : Hid (∀ t, t < news.length → (w.drew.cell? ⟨g, 0 + k * 8 + t, none⟩).isSome = true ∧ w.drew.frozen? ⟨g, 0 + k * 8 + t, none⟩ = false) := by
  intro t ht
  rw [s1.out] at ht
  rw [Nat.zero_add, HB.drew.cell (k * 8 + t) (v := cur[k * 8 + t]'(by omega)) (by simp)]
  exact ⟨rfl, HB.drew.free _⟩
 obtain ⟨W1, hW1⟩ : ∃ W1, w.drew.setCells g (0 + k * 8) news = W1 := ⟨_, rfl⟩
 have HB1 : Hid (Blk W1 g (.cells (setArr cur (k * 8) news) 106)) := by
  rw [← hW1, Nat.zero_add]
  exact blk_setCells news cur (k * 8) _ HB.drew
 have HF1 : Hid (Frame (fun b => b = g) w W1) := by rw [← hW1]; exact frame_setCells _ _ _ (Frame.refl _ w).drew rfl
 have HL1 := s1.out
 obtain ⟨W2, hW2⟩ : ∃ W2, W1.setCells g ((k + (ws.length - j)) * 8) zTp = W2 := ⟨_, rfl⟩
 have hclr : ∀ ty, (Builtin.clear_ #[25] ty #[.slice (some ⟨g, (k + (ws.length - j)) * 8, none⟩) (ws.length - (k + (ws.length - j))) (c - (k + (ws.length - j)))]).run Tryd.prog W1 = .ok (.tuple #[]) W2 := fun ty => by
  rw [← hW2, show ws.length - (k + (ws.length - j)) = 1 by omega]
  exact clear116 HB1.out (by rw [setArr_size, hcs]; omega) ty
 have HB2 : Hid (Blk W2 g (.cells (setArr (setArr cur (k * 8) news) ((k + (ws.length - j)) * 8) zTp) 106)) := by
  rw [← hW2]
  exact blk_setCells zTp _ _ _ HB1.out
 have HF2 : Hid (Frame (fun b => b = g) w W2) := by rw [← hW2]; exact frame_setCells _ _ _ HF1.out rfl
 have HFIN : Hid ((setArr (setArr cur (k * 8) news) ((k + (ws.length - j)) * 8) zTp).toList.take ((ws.length - 1) * 8) = tps (ws.eraseIdx k)) := by
  show _ = _
  have e0 : (tps (ws.take k)).length = k * 8 := by rw [tps_len, List.length_take]; congr 1; omega
  have e1 : tps ws = tps (ws.take k) ++ tps (ws.drop k) := by
   unfold tps
   rw [← List.flatMap_append, List.take_append_drop]
  have ez : zTp.length = 8 := rfl
  apply List.ext_getElem?
  intro i
  rw [erase_eq, hj, ← hnews.out, List.getElem?_take]
  by_cases hi : i < (ws.length - 1) * 8
  ·rw [if_pos hi, Array.getElem?_toList, setArr_get _ _ _ _ (by rw [setArr_size, hcs, ez]; omega), if_neg (by omega), setArr_get _ _ _ _ (by rw [hcs]; omega)]
   by_cases h2 : i < k * 8
   ·rw [if_neg (by omega), List.getElem?_append_left (by omega), ← Array.getElem?_toList]
    have e2 : (cur.toList.take (ws.length * 8))[i]? = (tps ws)[i]? := by rw [htk]
    rw [List.getElem?_take, if_pos (by omega), e1, List.getElem?_append_left (by omega)] at e2
    exact e2
   ·rw [if_pos (by omega), List.getElem?_append_right (by omega), e0]
  ·rw [if_neg hi, List.getElem?_eq_none (by simp only [List.length_append]; omega)]
 clear h hj HB htk hcs hBg hW2 HL1
 go_enter Tryd.func46, Tryd.ntmps46
 go_wp2_with fail
 refine stail 6 (by kernel_rfl) (by kernel_rfl) (fun Kq hKq => ?_)
 simp only [List.take_succ_cons, List.take_zero, List.drop_succ_cons, List.drop_zero] at hKq ⊢
 repeat still_step
 refine wpStill_nil (hKq _ ?_)
 clear hKq Kq
 go_wp2_with (at_builtin; go_must (refine wpList_room rfl _ _ 25 rfl 106 8 Tryd.underlying25 rTp.size_eq g 0 k c rfl A (ws.length - j) (c - j) news rfl s1.out hsrc.out s2.out (by omega) s3.out ?_); rw [hW1])
 go_ret
 have hJ := HJ.out
 obtain ⟨X, hX⟩ : ∃ X, setArr (setArr cur (k * 8) news) ((k + (ws.length - j)) * 8) zTp = X := ⟨_, rfl⟩
 have h9 : X.size = c * 8 := by rw [← hX, setArr_size, setArr_size, HCS.out]
 have HB3 := HB2.out
 have HF3 := HFIN.out
 rw [hX] at HB3 HF3
 have hl9 : (tps (ws.eraseIdx k)).length = (ws.length - 1) * 8 := by
  have e10 : X.toList.length = X.size := by simp
  rw [← HF3, List.length_take]
  omega
 refine ⟨?_, ⟨hl9, .inr ⟨g, c, X, rfl, HBG.out, HB3, by omega, hcm, h9, HF3⟩⟩, HF2.out⟩
 have e8 : k + (ws.length - j) = ws.length - 1 := by omega
 rw [e8]
 rfl
end Go.Proofs.YtejabnoidhlfaaaDoor
