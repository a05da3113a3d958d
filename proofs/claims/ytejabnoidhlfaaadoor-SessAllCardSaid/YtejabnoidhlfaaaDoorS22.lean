/- What Take gains. -/
import Derived.Test.YtejabnoidhlfaaaDoorS12
import Derived.Test.YtejabnoidhlfaaaDoorS16
import Derived.Test.YtejabnoidhlfaaaDoorS17
import Derived.Test.YtejabnoidhlfaaaDoorS18
import Derived.Test.YtejabnoidhlfaaaDoorS21

/- What Take holds in memory. -/
namespace Go.Proofs.YtejabnoidhlfaaaDoor
open Go.RowKit Go.Maps

theorem fine_any (e : En) (A : Option Addr) (c : Nat) (B : Option Addr) (d : Nat) (w : World) (h : EnAt w e A B) :
  Calls Tryd.prog 23 #[enV e A c B d] w fun r w' => r = .returned (.bool (goodB e)) ∧ Below w.heap.size w w' := by
 by_cases hn : numsOk e
 ·exact fine_yes e A c B d w h hn
 ·exact fine_no e A c B d w h hn
theorem results_cct {P : Program} {fn : Func} {tmps : Array Value} {w : World} {a b k : Tmp} {t s : TypeId} {p q : Addr} {v u z : Value} (h : fn.results = #[.cell a t, .cell b s, .tmp k]) (ha : tmps.getD a undef = .pointer (some p)) (hb : tmps.getD b undef = .pointer (some q)) (hk : tmps.getD k undef = z)
  (hl : (loadVar t p).run P w = .ok v w) (hl2 : (loadVar s q).run P w = .ok u w) : (results fn tmps).run P w = .ok (.tuple #[v, u, z]) w := by
 simp only [Array.getD_eq_getD_getElem?] at ha hb hk
 simp [results, h, ha, hb, hk, hl, hl2, asAddr, Result.andThen]
theorem results_ctt {P : Program} {fn : Func} {tmps : Array Value} {w : World} {a b k : Tmp} {t : TypeId} {p : Addr} {v u z : Value} (h : fn.results = #[.cell a t, .tmp b, .tmp k]) (ha : tmps.getD a undef = .pointer (some p)) (hb : tmps.getD b undef = u) (hk : tmps.getD k undef = z)
  (hl : (loadVar t p).run P w = .ok v w) : (results fn tmps).run P w = .ok (.tuple #[v, u, z]) w := by
 simp only [Array.getD_eq_getD_getElem?] at ha hb hk
 simp [results, h, ha, hb, hk, hl, asAddr, Result.andThen]
def gnV (g : Gn) (P : Option Addr) (cp : Nat) (T : Option Addr) (ct : Nat) (L : Option Addr) (cl : Nat) : Value := .agg #[.slice P g.packets.length cp, .slice T g.taken.length ct, .slice L g.lost.length cl]
def gnB (g : Gn) (P : Option Addr) (cp : Nat) (T : Option Addr) (ct : Nat) (L : Option Addr) (cl : Nat) : Array Value := #[.slice P g.packets.length cp, .slice T g.taken.length ct, .slice L g.lost.length cl]
structure GnAt (w : World) (g : Gn) (P T L : Option Addr) : Prop where
 p : Cells w P (pks g.packets)
 t : Cells w T (strs g.taken)
 l : Cells w L (strs g.lost)
theorem load47 {w : World} {b : Nat} {g : Gn} {P T L : Option Addr} {cp ct cl : Nat} (h : Blk w b (.cells (gnB g P cp T ct L cl) 44)) : (loadVar 44 ⟨b, 0, none⟩).run Tryd.prog w = .ok (gnV g P cp T ct L cl) w := by
 have h0 := h.cell 0 (v := .slice P g.packets.length cp) rfl
 have h1 := h.cell 1 (v := .slice T g.taken.length ct) rfl
 have h2 := h.cell 2 (v := .slice L g.lost.length cl) rfl
 unfold gnV
 go_simp
structure Ts (w0 w : World) (bx bm bg b3 b4 b5 N : Nat) (e : En) (p : Pk) (A : Option Addr) (c : Nat) (vi vP : Value) (ps : List Pk) (T : Option Addr) (ct : Nat) (tk : List ByteArray) (L : Option Addr) (cl : Nat) (ls : List ByteArray) : Prop where
 xs : Xs w bx bm e A c vi
 row : RowAt w w0.heap.size A e.out
 g : Blk w bg (.cells #[vP, .slice T tk.length ct, .slice L ls.length cl] 44)
 rps : w.ownsRow N 49 7 vP ps.length (pks ps)
 rtk : w.ownsRow N 9 1 (.slice T tk.length ct) tk.length (strs tk)
 rls : w.ownsRow N 9 1 (.slice L ls.length cl) ls.length (strs ls)
 k3 : Blk w b3 (.cells (pkB p) 49)
 k4 : Blk w b4 (.cells (enB noEn none 0 none 0) 38)
 k5 : Blk w b5 (.cells #[.slice none 0 0, .slice none 0 0, .slice none 0 0] 44)
 below : Below w0.heap.size w0 w
 ox : w0.heap.size ≤ bx
 om : w0.heap.size ≤ bm
 og : w0.heap.size ≤ bg
 o3 : w0.heap.size ≤ b3
 o4 : w0.heap.size ≤ b4
 o5 : w0.heap.size ≤ b5
 n3 : b3 < N
 ng5 : bg ≠ b5
 nN : N ≤ w.heap.size
 oN : w0.heap.size ≤ N
section
variable {w0 w w' : World} {bx bm bg b3 b4 b5 N : Nat} {e e' : En} {p : Pk} {A A' : Option Addr} {c c' : Nat} {vi vP : Value} {ps : List Pk} {T : Option Addr} {ct : Nat} {tk : List ByteArray} {L : Option Addr} {cl : Nat} {ls : List ByteArray}
/-- The end has changed. -/
theorem Ts.x (h : Ts w0 w bx bm bg b3 b4 b5 N e p A c vi vP ps T ct tk L cl ls) (hF : Frame (fun b => b = bx ∨ b = bm ∨ ∃ cur, Blk w b (.cells cur 53)) w w') (hx : Xs w' bx bm e' A' c' vi) (hr : RowAt w' w0.heap.size A' e'.out) (hB : Below w0.heap.size w w') :
  Ts w0 w' bx bm bg b3 b4 b5 N e' p A' c' vi vP ps T ct tk L cl ls := by
 have ho : ∀ {e : TypeId} {size n : Nat} {v : Value} {xs : List Value}, w.ownsRow N e size v n xs → e ≠ 86 → e ≠ 53 → w'.ownsRow N e size v n xs := fun hr h1 h2 => own_frame hr hF (fun g hg e2 => by
  rcases e2 with e2 | e2 | ⟨cur, hc⟩
  ·exact own_ne hr h.xs.box h1 (by rw [hg, e2])
  ·exact h.xs.map.not_own hr (by rw [hg, e2])
  ·exact own_ne hr hc h2 hg)
 have hb : ∀ {b : Nat} {cs : Array Value} {t : TypeId}, Blk w b (.cells cs t) → t ≠ 86 → t ≠ 53 → Blk w' b (.cells cs t) := fun hr h1 h2 => hr.frame hF (fun e2 => by
  rcases e2 with e2 | e2 | ⟨cur, hc⟩
  ·exact blk_ne hr h.xs.box h1 e2
  ·exact h.xs.map.not_blk hr e2.symm
  ·exact blk_ne hr hc h2 rfl)
 exact ⟨hx, hr, hb h.g (by decide) (by decide), ho h.rps (by decide) (by decide), ho h.rtk (by decide) (by decide), ho h.rls (by decide) (by decide), hb h.k3 (by decide) (by decide), hb h.k4 (by decide) (by decide), hb h.k5 (by decide) (by decide), h.below.trans hB, h.ox, h.om, h.og, h.o3, h.o4, h.o5, h.n3, h.ng5, by have := h.nN; have := hF.size; omega, h.oN⟩
theorem Ts.drew (h : Ts w0 w bx bm bg b3 b4 b5 N e p A c vi vP ps T ct tk L cl ls) : Ts w0 w.drew bx bm bg b3 b4 b5 N e p A c vi vP ps T ct tk L cl ls :=
 h.x ((Frame.refl _ w).drew) h.xs.drew (h.row.frame (Frame.refl (fun _ => False) w).drew (fun _ _ _ h => h)) (Below.refl _ w).drew
theorem Ts.noOut (h : Ts w0 w bx bm bg b3 b4 b5 N e p A c vi vP ps T ct tk L cl ls) (hA : A = none) : e.out.length = 0 := by
 have h1 := h.xs.nil hA
 have h2 := h.xs.cap
 omega
/-- A greater memory. -/
theorem Ts.more (h : Ts w0 w bx bm bg b3 b4 b5 N e p A c vi vP ps T ct tk L cl ls) (hB : Below w.heap.size w w') : Ts w0 w' bx bm bg b3 b4 b5 N e p A c vi vP ps T ct tk L cl ls :=
 h.x (Frame.of_all hB) (h.xs.below hB) (h.row.frame (Frame.of_all (S := fun _ => False) hB) (fun _ _ _ h => h)) (hB.mono (by have := h.nN; have := h.oN; omega))
/-- A store into the end's box. -/
theorem Ts.xset (h : Ts w0 w bx bm bg b3 b4 b5 N e p A c vi vP ps T ct tk L cl ls) (i : Nat) (u : Value) (hb : Blk (w.setCell ⟨bx, i, none⟩ u) bx (.cells #[.int .i64 e'.life, .int .i64 e'.peer, .int .i64 e'.phase, .int .i64 e'.base, .slice A e'.out.length c, .int .i64 e'.want, vi, .map (some bm)] 86)) (ho : e'.out = e.out) (hi : e'.inn = e.inn) :
  Ts w0 (w.setCell ⟨bx, i, none⟩ u) bx bm bg b3 b4 b5 N e' p A c vi vP ps T ct tk L cl ls := by
 have hF : Frame (fun b => b = bx) w (w.setCell ⟨bx, i, none⟩ u) := (Frame.refl (fun b => b = bx) w).setCell (p := ⟨bx, i, none⟩) (.inl rfl) _
 have hn : ∀ b cur, Blk w b (.cells cur 53) → ¬ b = bx := fun b cur hb e2 => blk_ne hb h.xs.box (by decide) e2
 refine h.x (hF.mono (fun b _ e2 => .inl e2)) ⟨hb, by rw [ho]; exact h.row.cells h.xs.out hF hn, by rw [hi]; exact h.xs.map.frame hF (h.xs.map.not_blk h.xs.box), by rw [ho]; exact h.xs.cap, h.xs.nil⟩ (by rw [ho]; exact h.row.frame hF hn) ((Below.refl _ w).setCell h.ox _)
/-- A store into the gain. -/
theorem Ts.gset (h : Ts w0 w bx bm bg b3 b4 b5 N e p A c vi vP ps T ct tk L cl ls) (i : Nat) (u : Value) :
  Xs (w.setCell ⟨bg, i, none⟩ u) bx bm e A c vi ∧ RowAt (w.setCell ⟨bg, i, none⟩ u) w0.heap.size A e.out ∧ Blk (w.setCell ⟨bg, i, none⟩ u) b3 (.cells (pkB p) 49) ∧ Blk (w.setCell ⟨bg, i, none⟩ u) b4 (.cells (enB noEn none 0 none 0) 38) ∧
   Blk (w.setCell ⟨bg, i, none⟩ u) b5 (.cells #[.slice none 0 0, .slice none 0 0, .slice none 0 0] 44) ∧ Below w0.heap.size w0 (w.setCell ⟨bg, i, none⟩ u) ∧ (w.setCell ⟨bg, i, none⟩ u).heap.size = w.heap.size ∧
   (∀ {e : TypeId} {size n : Nat} {v : Value} {xs : List Value}, w.ownsRow N e size v n xs → e ≠ 44 → (w.setCell ⟨bg, i, none⟩ u).ownsRow N e size v n xs) := by
 have hF : Frame (fun b => b = bg) w (w.setCell ⟨bg, i, none⟩ u) := (Frame.refl (fun b => b = bg) w).setCell (p := ⟨bg, i, none⟩) (.inl rfl) _
 have n1 : ∀ {b : Nat} {cs : Array Value} {t : TypeId}, Blk w b (.cells cs t) → t ≠ 44 → ¬ b = bg := fun hb ht e2 => blk_ne hb h.g ht e2
 have hn71 : ∀ b cur, Blk w b (.cells cur 53) → ¬ b = bg := fun b cur hb => n1 hb (by decide)
 refine ⟨⟨h.xs.box.frame hF (n1 h.xs.box (by decide)), h.row.cells h.xs.out hF hn71, h.xs.map.frame hF (fun e2 => h.xs.map.not_blk h.g e2), h.xs.cap, h.xs.nil⟩, h.row.frame hF hn71, h.k3.frame hF (n1 h.k3 (by decide)), h.k4.frame hF (n1 h.k4 (by decide)), h.k5.frame hF (fun e2 => h.ng5 e2.symm), h.below.setCell h.og _, by simp [World.setCell], fun hr ht => own_frame hr hF (fun g hg e2 => own_ne hr h.g ht (by rw [hg, e2]))⟩
theorem Ts.lost (h : Ts w0 w bx bm bg b3 b4 b5 N e p A c vi vP ps T ct tk L cl ls) {L' : Option Addr} {cl' : Nat} {ls' : List ByteArray} (hl : w.ownsRow N 9 1 (.slice L' ls'.length cl') ls'.length (strs ls')) :
  Ts w0 (w.setCell ⟨bg, 2, none⟩ (.slice L' ls'.length cl')) bx bm bg b3 b4 b5 N e p A c vi vP ps T ct tk L' cl' ls' := by
 obtain ⟨a1, a2, a3, a4, a5, a6, a7, a8⟩ := h.gset 2 (.slice L' ls'.length cl')
 exact ⟨a1, a2, h.g.set 2 _, a8 h.rps (by decide), a8 h.rtk (by decide), a8 hl (by decide), a3, a4, a5, a6, h.ox, h.om, h.og, h.o3, h.o4, h.o5, h.n3, h.ng5, by rw [a7]; exact h.nN, h.oN⟩
theorem Ts.taken (h : Ts w0 w bx bm bg b3 b4 b5 N e p A c vi vP ps T ct tk L cl ls) {T' : Option Addr} {ct' : Nat} {tk' : List ByteArray} (hl : w.ownsRow N 9 1 (.slice T' tk'.length ct') tk'.length (strs tk')) :
  Ts w0 (w.setCell ⟨bg, 1, none⟩ (.slice T' tk'.length ct')) bx bm bg b3 b4 b5 N e p A c vi vP ps T' ct' tk' L cl ls := by
 obtain ⟨a1, a2, a3, a4, a5, a6, a7, a8⟩ := h.gset 1 (.slice T' tk'.length ct')
 exact ⟨a1, a2, h.g.set 1 _, a8 h.rps (by decide), a8 hl (by decide), a8 h.rls (by decide), a3, a4, a5, a6, h.ox, h.om, h.og, h.o3, h.o4, h.o5, h.n3, h.ng5, by rw [a7]; exact h.nN, h.oN⟩
/-- Memory has grown, or the row of packets has. -/
theorem Ts.grow (h : Ts w0 w bx bm bg b3 b4 b5 N e p A c vi vP ps T ct tk L cl ls) (hF : Frame (fun b => vP.ownBlock = some b) w w') {vP' : Value} {ps' : List Pk} (hp : w'.ownsRow N 49 7 vP' ps'.length (pks ps')) :
  Xs w' bx bm e A c vi ∧ Ts w0 (w'.setCell ⟨bg, 0, none⟩ vP') bx bm bg b3 b4 b5 N e p A c vi vP' ps' T ct tk L cl ls := by
 have n1 : ∀ {b : Nat} {cs : Array Value} {t : TypeId}, Blk w b (.cells cs t) → t ≠ 49 → ¬ vP.ownBlock = some b := fun hb ht e2 => own_ne h.rps hb (fun e3 => ht e3.symm) e2
 have hn71 : ∀ b cur, Blk w b (.cells cur 53) → ¬ vP.ownBlock = some b := fun b cur hb => n1 hb (by decide)
 have h3 : ¬ vP.ownBlock = some b3 := fun e2 => by have := (h.rps.lt _ e2).1; have := h.n3; omega
 have ho9 : ∀ {n : Nat} {v : Value} {xs : List Value}, w.ownsRow N 9 1 v n xs → w'.ownsRow N 9 1 v n xs := fun hr => own_frame hr hF (fun g hg e2 => by
  have hgl := (hr.lt _ hg).2
  rcases hr.2 with ⟨rfl, _⟩ | ⟨g1, cap, cur, rfl, _, hh, _⟩
  ·cases hg
  ·have e3 : g1 = g := by simpa [Value.ownBlock] using hg
   subst e3
   exact own_ne h.rps (b := g1) (cs := cur) (t := 9) hh (by decide) e2)
 have hX : Xs w' bx bm e A c vi := ⟨h.xs.box.frame hF (n1 h.xs.box (by decide)), h.row.cells h.xs.out hF hn71, h.xs.map.frame hF (fun e2 => h.xs.map.not_own h.rps e2), h.xs.cap, h.xs.nil⟩
 have hT : Ts w0 w' bx bm bg b3 b4 b5 N e p A c vi vP ps T ct tk L cl ls → True := fun _ => trivial
 refine ⟨hX, ?_⟩
 have hg' := h.g.frame hF (n1 h.g (by decide))
 have hF2 : Frame (fun b => b = bg) w' (w'.setCell ⟨bg, 0, none⟩ vP') := (Frame.refl (fun b => b = bg) w').setCell (p := ⟨bg, 0, none⟩) (.inl rfl) _
 have n2 : ∀ {b : Nat} {cs : Array Value} {t : TypeId}, Blk w' b (.cells cs t) → t ≠ 44 → ¬ b = bg := fun hb ht e2 => blk_ne hb hg' ht e2
 have hn712 : ∀ b cur, Blk w' b (.cells cur 53) → ¬ b = bg := fun b cur hb => n2 hb (by decide)
 have ho2 : ∀ {e : TypeId} {size n : Nat} {v : Value} {xs : List Value}, w'.ownsRow N e size v n xs → e ≠ 44 → (w'.setCell ⟨bg, 0, none⟩ vP').ownsRow N e size v n xs := fun hr ht => own_frame hr hF2 (fun g hg e2 => own_ne hr hg' ht (by rw [hg, e2]))
 have hrow' := h.row.frame hF hn71
 have b3' := h.k3.frame hF h3
 have b4' := h.k4.frame hF (n1 h.k4 (by decide))
 have b5' := h.k5.frame hF (n1 h.k5 (by decide))
 have hsz := hF.size
 refine ⟨⟨hX.box.frame hF2 (n2 hX.box (by decide)), hrow'.cells hX.out hF2 hn712, hX.map.frame hF2 (fun e2 => hX.map.not_blk hg' e2), hX.cap, hX.nil⟩, hrow'.frame hF2 hn712, hg'.set 0 vP', ho2 hp (by decide), ho2 (ho9 h.rtk) (by decide), ho2 (ho9 h.rls) (by decide), b3'.frame hF2 (n2 b3' (by decide)), b4'.frame hF2 (n2 b4' (by decide)), b5'.frame hF2 (fun e2 => h.ng5 e2.symm), ?_, h.ox, h.om, h.og, h.o3, h.o4, h.o5, h.n3, h.ng5, ?_, h.oN⟩
 ·refine (h.below.trans (hF.below (B := w0.heap.size) (fun b e2 => by have := (h.rps.lt _ e2).1; have := h.oN; omega) (by have := h.nN; have := h.oN; omega))).setCell h.og _
 ·have := h.nN
  simp [World.setCell]
  omega
end
end Go.Proofs.YtejabnoidhlfaaaDoor
