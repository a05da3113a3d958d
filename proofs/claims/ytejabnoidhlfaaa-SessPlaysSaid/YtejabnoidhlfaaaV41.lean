/- Contracts and lemmas that the claim uses. -/
import Derived.Test.YtejabnoidhlfaaaV40
set_option maxRecDepth 100000
set_option maxHeartbeats 16000000
namespace Go.Proofs.Ytejabnoidhlfaaa
open Go.RowKit Go.Maps
def tpV (x : Tp) : Value := .agg #[.int .i64 x.to, .int .i64 x.p.kind, .int .i64 x.p.frm, .int .i64 x.p.to, .int .i64 x.p.num, .string x.p.t, .int .i64 x.p.ack, .int .i64 x.p.held]
def tpX (x : Tp) : Array Value := #[.int .i64 x.to, .int .i64 x.p.kind, .int .i64 x.p.frm, .int .i64 x.p.to, .int .i64 x.p.num, .string x.p.t, .int .i64 x.p.ack, .int .i64 x.p.held]
structure Tw (V : World) (n eb b8 b9 : Nat) (x : Tp) (R : En × Gn × Int) (A : Option Addr) (c : Nat) (D : Option Addr) (d : Nat) (P : Option Addr) (cp : Nat) (T : Option Addr) (ct : Nat) (L : Option Addr) (cl : Nat) (Q : Lp) (M : Lm) : Prop where
 tr : Blk V (n + 1) (.cells (tpX x) 116)
 ye : Blk V (n + 1 + 1) (.cells z59 59)
 k8 : Blk V b8 (.cells (enB R.1 A c D d) 26)
 k9 : Blk V b9 (.cells (gnB R.2.1 P cp T ct L cl) 47)
 en : EnT V R.1 A c D
 n8 : ¬ LV eb Q M b8
 n1 : ¬ LV eb Q M (n + 1)
 p : OffV V eb Q M P (pks R.2.1.packets)
 t : OffV V eb Q M T (strs R.2.1.taken)
 l : OffV V eb Q M L (strs R.2.1.lost)
 np : (∀ a, P = some a → n ≠ a.block) ∧ (∀ a, T = some a → n ≠ a.block) ∧ (∀ a, L = some a → n ≠ a.block)
section
variable {V V' : World} {B n eb b8 b9 : Nat} {x : Tp} {R : En × Gn × Int} {A : Option Addr} {c : Nat} {D : Option Addr} {d : Nat} {P : Option Addr} {cp : Nat} {T : Option Addr} {ct : Nat} {L : Option Addr} {cl : Nat} {Q Q' : Lp} {M M' : Lm}
theorem Tw.step (h : Tw V n eb b8 b9 x R A c D d P cp T ct L cl Q M) (hl : Lv V B eb Q M) (k : Lw eb Q M V Q' M' V') : Tw V' n eb b8 b9 x R A c D d P cp T ct L cl Q' M' :=
 ⟨h.tr.frame k.fr h.n1, h.ye.frame k.fr (hl.ne h.ye (by decide) (by decide) (by decide) (by decide)), h.k8.frame k.fr h.n8, h.k9.frame k.fr (hl.ne h.k9 (by decide) (by decide) (by decide) (by decide)), h.en.lw hl k,
  fun hb => by
   rcases k.new _ hb with h1 | h1
   ·exact h.n8 h1
   ·have := h.k8.lt; omega,
  fun hb => by
   rcases k.new _ hb with h1 | h1
   ·exact h.n1 h1
   ·have := h.tr.lt; omega,
  h.p.step k, h.t.step k, h.l.step k, h.np⟩
theorem Tw.far (h : Tw V n eb b8 b9 x R A c D d P cp T ct L cl Q M) {cs : Array Value} (hb : Blk V n (.cells cs 59)) (o : Nat) (v : Value) : Tw (V.setCell ⟨n, o, none⟩ v) n eb b8 b9 x R A c D d P cp T ct L cl Q M := by
 have hF : Frame (fun y => y = n) V (V.setCell ⟨n, o, none⟩ v) := (Frame.refl (fun y => y = n) V).setCell (p := ⟨n, o, none⟩) (.inl rfl) _; exact ⟨h.tr.frame hF (by omega), h.ye.frame hF (by omega), h.k8.frame hF (fun e => blk_ne h.k8 hb (by decide) e), h.k9.frame hF (fun e => blk_ne h.k9 hb (by decide) e), h.en.frame hF (fun b cur hx e => blk_ne hx hb (by decide) e) (fun b cur hx e => blk_ne hx hb (by decide) e), h.n8, h.n1,
  ⟨h.p.at_.frame hF (fun _ a ha e => h.np.1 a ha e.symm), h.p.off⟩, ⟨h.t.at_.frame hF (fun _ a ha e => h.np.2.1 a ha e.symm), h.t.off⟩, ⟨h.l.at_.frame hF (fun _ a ha e => h.np.2.2 a ha e.symm), h.l.off⟩, h.np⟩
end
theorem strs_none {w : World} {t : List ByteArray} (h : Cells w none (strs t)) : t.length = 0 := by
 cases t with
 | nil => rfl
 | cons x l =>
  obtain ⟨_, b, off, _, hA, _⟩ := h; have := (hA (by simp [strs, stC])).1; cases this
theorem taleIx_snoc {e : En} {i : Int} {ts : List Ta} {t : Ta} (h : taleIx e i ts < 0) (hk : keyB e i t = true) : taleIx e i (ts ++ [t]) = (ts.length : Int) := by
 unfold taleIx at h ⊢; cases hf : ts.findIdx? (keyB e i) with
 | some k => rw [hf] at h; exact absurd h (by show ¬ (k : Int) < 0; omega)
 | none =>
  rw [List.findIdx?_append, hf]; simp [List.findIdx?_cons, hk]
theorem taleIx_at' {e : En} {i : Int} {ts : List Ta} {z : Int} (h : taleIx e i ts = z) (h0 : 0 ≤ z) : ∃ (k : Nat) (t : Ta), z = (k : Int) ∧ ts[k]? = some t := by
 unfold taleIx at h; cases hf : ts.findIdx? (keyB e i) with
 | none => rw [hf] at h; simp at h; omega
 | some k =>
  rw [hf] at h; obtain ⟨h1, _⟩ := List.findIdx?_eq_some_iff_getElem.1 hf; exact ⟨k, ts[k], h.symm, List.getElem?_eq_getElem h1⟩
theorem onTale_mem {l : Lp} {i : Int} {f : Ta → Ta} {v : Ta} (h : v ∈ (onTale l i f).tales) : v ∈ l.tales ∨ ∃ u ∈ l.tales, v = f u := by
 unfold onTale at h; simp only at h; split at h
 ·rename_i h0; obtain ⟨k, t, h1, h2⟩ := taleIx_at' rfl h0; have h3 : v ∈ setAt f (taleIx (l.end_ i) i l.tales).toNat l.tales := h; rw [h1, Int.toNat_natCast, setAt_eq h2] at h3; rcases List.mem_or_eq_of_mem_set h3 with h4 | h4
  ·exact .inl h4
  ·exact .inr ⟨t, List.mem_of_getElem? h2, h4⟩
 ·exact .inl h
end Go.Proofs.Ytejabnoidhlfaaa
