/- Contracts and lemmas that the claim uses. -/
import Derived.Test.YtejabnoidhlfaaaV26
set_option maxRecDepth 100000
set_option maxHeartbeats 16000000
namespace Go.Proofs.Ytejabnoidhlfaaa
open Go.RowKit Go.Maps
theorem cells_blk {w : World} {b : Nat} {cs : Array Value} {t : TypeId} (h : Blk w b (.cells cs t)) (hl : cs.size ≤ 17592186043904) : Cells w (some ⟨b, 0, none⟩) cs.toList := by
 refine ⟨by simpa using hl, b, 0, by have := h.lt; omega, fun _ => ⟨rfl, h.lt⟩, fun k v hv => ?_⟩; rw [Nat.zero_add]; refine h.cell k ?_; rw [← Array.getElem?_toList]; exact hv
theorem pks_one {w : World} {b : Nat} {p : Pk} (h : Blk w b (.cells (pkB p) 44)) : Cells w (some ⟨b, 0, none⟩) (pks [p]) := cells_blk h (by simp)
theorem one_any (A : Option Addr) (ca : Nat) (ps : List Pk) (p : Pk) (w : World) (h : Cells w A (pks ps)) : Calls Try.prog 30 #[.slice A ps.length ca, pkV p] w fun r w' => r = .returned (.bool (decide (ps = [p]))) ∧ Below w.heap.size w w' := by
 have HC := Lib.hid h; clear h; unfold pkV; go_enter Try.func30, Try.ntmps30
 go_wp2_with fail
 obtain ⟨W, hW⟩ : ∃ W, (w.alloc (.cells #[.int .i64 p.kind, .int .i64 p.frm, .int .i64 p.to, .int .i64 p.num, .string p.t, .int .i64 p.ack, .int .i64 p.held] 44)).alloc (.cells #[.int .i64 p.kind, .int .i64 p.frm, .int .i64 p.to, .int .i64 p.num, .string p.t, .int .i64 p.ack, .int .i64 p.held] 44) = W := ⟨_, rfl⟩; have HB : Hid (Below w.heap.size w W) := by rw [← hW]; exact ((Below.refl _ w).alloc (Nat.le_refl _) _).alloc (by simp) _
 have HK : Hid (Blk W (w.heap.size + 1) (.cells (pkB p) 44)) := by
  rw [← hW]; have e1 := Blk.new (w.alloc (.cells (pkB p) 44)) (.cells (pkB p) 44); rw [World.size_alloc] at e1; exact e1
 rw [hW]; refine (same_packets A ca ps (some ⟨w.heap.size + 1, 0, none⟩) 1 [p] W (HC.out.below HB.out (Nat.le_refl _)) (pks_one HK.out)).mono ?_; rintro r w2 ⟨rfl, hB2⟩; go_wp2; go_ret; exact ⟨rfl, HB.out.trans (hB2.mono HB.out.size)⟩
theorem hello31_any (f t : Int) (w : World) : Calls Try.prog 31 #[.int .i64 f, .int .i64 t] w fun r w' => r = .returned (pkV ⟨1, f, t, 0, ⟨#[]⟩, 0, 0⟩) ∧ Below w.heap.size w w' := by
 go_enter Try.func31, Try.ntmps31
 go_wp2; have hl := load44 (w := w.alloc (.cells (pkB ⟨1, f, t, 0, ⟨#[]⟩, 0, 0⟩) 44)) (b := w.heap.size) (p := ⟨1, f, t, 0, ⟨#[]⟩, 0, 0⟩) (Blk.new w _); exact bodyPost_ret (v := pkV ⟨1, f, t, 0, ⟨#[]⟩, 0, 0⟩) (results_c rfl rfl hl) rfl ⟨rfl, (Below.refl _ w).alloc (Nat.le_refl _) _⟩
theorem data33_any (f t n : Int) (s : ByteArray) (a h : Int) (w : World) : Calls Try.prog 33 #[.int .i64 f, .int .i64 t, .int .i64 n, .string s, .int .i64 a, .int .i64 h] w fun r w' => r = .returned (pkV ⟨2, f, t, n, s, a, h⟩) ∧ Below w.heap.size w w' := by
 go_enter Try.func33, Try.ntmps33
 go_wp2; have hl := load44 (w := w.alloc (.cells (pkB ⟨2, f, t, n, s, a, h⟩) 44)) (b := w.heap.size) (p := ⟨2, f, t, n, s, a, h⟩) (Blk.new w _); exact bodyPost_ret (v := pkV ⟨2, f, t, n, s, a, h⟩) (results_c rfl rfl hl) rfl ⟨rfl, (Below.refl _ w).alloc (Nat.le_refl _) _⟩
theorem ack34_any (f t a h : Int) (w : World) : Calls Try.prog 34 #[.int .i64 f, .int .i64 t, .int .i64 a, .int .i64 h] w fun r w' => r = .returned (pkV ⟨3, f, t, 0, ⟨#[]⟩, a, h⟩) ∧ Below w.heap.size w w' := by
 go_enter Try.func34, Try.ntmps34
 go_wp2; have hl := load44 (w := w.alloc (.cells (pkB ⟨3, f, t, 0, ⟨#[]⟩, a, h⟩) 44)) (b := w.heap.size) (p := ⟨3, f, t, 0, ⟨#[]⟩, a, h⟩) (Blk.new w _); exact bodyPost_ret (v := pkV ⟨3, f, t, 0, ⟨#[]⟩, a, h⟩) (results_c rfl rfl hl) rfl ⟨rfl, (Below.refl _ w).alloc (Nat.le_refl _) _⟩
def tX : ByteArray := ⟨#[120]⟩
def tY : ByteArray := ⟨#[121]⟩
def tZ : ByteArray := ⟨#[122]⟩
def threeE : En := ⟨1, 5, 3, 0, [⟨tX, false⟩, ⟨tY, false⟩, ⟨tZ, false⟩], 0, []⟩
theorem three_any (w : World) : Calls Try.prog 37 #[] w fun r w' => ∃ A, r = .returned (enV threeE A 3 none 0) ∧ EnT w' threeE A 3 none ∧ Below w.heap.size w w' := by
 go_enter Try.func37, Try.ntmps37
 go_wp2; obtain ⟨W, hW⟩ : ∃ W, (w.alloc (.cells (enB threeE (some ⟨w.heap.size + 1, 0, none⟩) 3 none 0) 26)).alloc (.cells #[.string tX, .bool false, .string tY, .bool false, .string tZ, .bool false] 71) = W := ⟨_, rfl⟩; have hB : Below w.heap.size w W := by rw [← hW]; exact ((Below.refl _ w).alloc (Nat.le_refl _) _).alloc (by simp) _
 have h1 : Blk W w.heap.size (.cells (enB threeE (some ⟨w.heap.size + 1, 0, none⟩) 3 none 0) 26) := by rw [← hW]; exact (Blk.new _ _).alloc _
 have h2 : Blk W (w.heap.size + 1) (.cells #[.string tX, .bool false, .string tY, .bool false, .string tZ, .bool false] 71) := by
  rw [← hW]; have e1 := Blk.new (w.alloc (.cells (enB threeE (some ⟨w.heap.size + 1, 0, none⟩) 3 none 0) 26)) (.cells #[.string tX, .bool false, .string tY, .bool false, .string tZ, .bool false] 71); rw [World.size_alloc] at e1; exact e1
 have hl := load26 h1; refine bodyPost_ret (v := enV threeE (some ⟨w.heap.size + 1, 0, none⟩) 3 none 0) (results_c rfl rfl (by rw [← hW] at hl; exact hl)) rfl ⟨some ⟨w.heap.size + 1, 0, none⟩, rfl, ?_, by rw [← hW] at hB; exact hB⟩; rw [← hW] at h2; exact ⟨⟨cells_blk h2 (by show 6 ≤ _; omega), Cells.nil _ _⟩, fun _ => ⟨w.heap.size + 1, 0, _, rfl, Nat.zero_le _, h2⟩, fun hn => absurd rfl hn, fun h => (by cases h), Nat.le_refl _⟩
def Z26 : Obj := .cells #[.int .i64 0, .int .i64 0, .int .i64 0, .int .i64 0, .slice none 0 0, .int .i64 0, .slice none 0 0] 26
def Z47 : Obj := .cells #[.slice none 0 0, .slice none 0 0, .slice none 0 0] 47
structure Rg (V U : World) (o5 o6 : Option Nat) : Prop where
 below : Below V.heap.size V U
 k5 : ∀ b, o5 = some b → V.heap.size ≤ b ∧ Blk U b Z26
 k6 : ∀ b, o6 = some b → V.heap.size ≤ b ∧ Blk U b Z47
theorem Rg.start (V : World) : Rg V V.drew none none := ⟨(Below.refl _ V).drew, fun _ h => (by cases h), fun _ h => (by cases h)⟩
section
variable {V U U' U0 UT : World} {o5 o6 : Option Nat}
theorem Rg.call (h : Rg V U o5 o6) (hB : Below U.heap.size U U') : Rg V U' o5 o6 :=
 ⟨below_in h.below hB, fun b hb => ⟨(h.k5 b hb).1, (h.k5 b hb).2.below hB (h.k5 b hb).2.lt⟩, fun b hb => ⟨(h.k6 b hb).1, (h.k6 b hb).2.below hB (h.k6 b hb).2.lt⟩⟩
theorem Rg.al5 (h : Rg V U none o6) (b : Nat) (hb : b = U.heap.size) : Rg V (U.alloc Z26) (some b) o6 := by
 have hB : Below U.heap.size U (U.alloc Z26) := (Below.refl _ U).alloc (Nat.le_refl _) _; have h1 := h.call hB; have hs := h.below.size; refine ⟨h1.below, fun b' hb' => ?_, h1.k6⟩; injection hb' with e; subst e; exact ⟨by omega, by rw [hb]; exact Blk.new _ _⟩
theorem Rg.al6 (h : Rg V U o5 none) (b : Nat) (hb : b = U.heap.size) : Rg V (U.alloc Z47) o5 (some b) := by
 have hB : Below U.heap.size U (U.alloc Z47) := (Below.refl _ U).alloc (Nat.le_refl _) _; have h1 := h.call hB; have hs := h.below.size; refine ⟨h1.below, h1.k5, fun b' hb' => ?_⟩; injection hb' with e; subst e; exact ⟨by omega, by rw [hb]; exact Blk.new _ _⟩
structure Rt (V U0 UT U : World) (o5 o6 : Option Nat) : Prop where
 rg : Rg V U o5 o6
 s5 : ∀ b, o5 = some b → b < U0.heap.size ∨ UT.heap.size ≤ b
 s6 : ∀ b, o6 = some b → b < U0.heap.size ∨ UT.heap.size ≤ b
 ut : Below UT.heap.size UT U
theorem Rt.start (h : Rg V U0 o5 o6) (hB : Below U0.heap.size U0 UT) : Rt V U0 UT UT o5 o6 :=
 ⟨h.call hB, fun b hb => .inl (h.k5 b hb).2.lt, fun b hb => .inl (h.k6 b hb).2.lt, Below.refl _ _⟩
theorem Rt.al5 (h : Rt V U0 UT U none o6) (b : Nat) (hb : b = U.heap.size) : Rt V U0 UT (U.alloc Z26) (some b) o6 := by
 have hs := h.ut.size; refine ⟨h.rg.al5 b hb, fun b' hb' => ?_, h.s6, h.ut.alloc hs _⟩; injection hb' with e; subst e; exact .inr (by omega)
theorem Rt.al6 (h : Rt V U0 UT U o5 none) (b : Nat) (hb : b = U.heap.size) : Rt V U0 UT (U.alloc Z47) o5 (some b) := by
 have hs := h.ut.size; refine ⟨h.rg.al6 b hb, h.s5, fun b' hb' => ?_, h.ut.alloc hs _⟩; injection hb' with e; subst e; exact .inr (by omega)
end
structure To (U0 UT : World) (R : En × Gn × Int) (A : Option Addr) (c : Nat) (D : Option Addr) (P T : Option Addr) (ct : Nat) (L : Option Addr) (cl : Nat) : Prop where
 en : EnAt UT R.1 A D
 gn : GnAt UT R.2.1 P T L
 nil : A = none → c = 0
 cap : R.1.out.length ≤ c
 row : RowAt UT U0.heap.size A R.1.out
 im : ImAt UT D R.1.inn
 t : ∀ a, T = some a → U0.heap.size ≤ a.block
 p : ∀ a, P = some a → U0.heap.size ≤ a.block
 l : ∀ a, L = some a → U0.heap.size ≤ a.block
 t0 : T = none → ct = 0
 l0 : L = none → cl = 0
structure Tj (wx : World) (R : En × Gn × Int) (b5 b6 : Nat) (A : Option Addr) (c : Nat) (D : Option Addr) (d : Nat) (P : Option Addr) (cp : Nat) (T : Option Addr) (ct : Nat) (L : Option Addr) (cl : Nat) : Prop where
 k5 : Blk wx b5 (.cells (enB R.1 A c D d) 26)
 k6 : Blk wx b6 (.cells (gnB R.2.1 P cp T ct L cl) 47)
 en : EnT wx R.1 A c D
 gn : GnAt wx R.2.1 P T L
theorem tj_make {U0 UT U : World} {R : En × Gn × Int} {b5 b6 : Nat} {A : Option Addr} {c : Nat} {D : Option Addr} {d : Nat} {P : Option Addr} {cp : Nat} {T : Option Addr} {ct : Nat} {L : Option Addr} {cl : Nat} {e0 : En} {A0 D0 : Option Addr} {c0 d0 : Nat} {x y z : Value}
  (hU : Below UT.heap.size UT U) (h5 : Blk U b5 (.cells (enB e0 A0 c0 D0 d0) 26)) (h6 : Blk U b6 (.cells #[x, y, z] 47)) (s5 : b5 < U0.heap.size ∨ UT.heap.size ≤ b5) (s6 : b6 < U0.heap.size ∨ UT.heap.size ≤ b6) (h : To U0 UT R A c D P T ct L cl) :
  Tj (setGn (setEn U b5 R.1 A c D d) b6 R.2.1 P cp T ct L cl) R b5 b6 A c D d P cp T ct L cl ∧ Frame (fun b => b = b5 ∨ b = b6) U (setGn (setEn U b5 R.1 A c D d) b6 R.2.1 P cp T ct L cl) := by
 obtain ⟨q1, q2, q3⟩ := tk_end (e' := R.1) (A := A) (c := c) (D := D) (d := d) (g := R.2.1) (P := P) (cp := cp) (T := T) (ct := ct) (L := L) (cl := cl) h5 h6; have n1 : ∀ {b : Nat} {cs : Array Value} {t : TypeId}, Blk U b (.cells cs t) → t ≠ 26 → t ≠ 47 → ¬ (b = b5 ∨ b = b6) := fun hb t1 t2 e => by
  rcases e with e | e
  ·exact blk_ne hb h5 t1 e
  ·exact blk_ne hb h6 t2 e
 have hcell : ∀ {a : Option Addr} {cs : List Value}, Cells UT a cs → (∀ q, a = some q → U0.heap.size ≤ q.block) → Cells (setGn (setEn U b5 R.1 A c D d) b6 R.2.1 P cp T ct L cl) a cs := fun hh hn => (hh.below hU (Nat.le_refl _)).frame q3 fun h0 q hq e => by
  have h1 := hn q hq; have h2 := hh.lt h0 hq; rcases e with e | e <;> omega
 have hfU : Frame (fun _ => False) UT U := Frame.of_all hU; have hr2 := h.row.frame hfU (fun _ _ _ h => h); have hi2 := h.im.frame hfU (fun _ _ _ h => h); have f71 : ∀ b cur, Blk U b (.cells cur 71) → ¬ (b = b5 ∨ b = b6) := fun b cur hb => n1 hb (by decide) (by decide); have f73 : ∀ b cur, Blk U b (.cells cur 73) → ¬ (b = b5 ∨ b = b6) := fun b cur hb => n1 hb (by decide) (by decide); refine ⟨⟨q1, q2, ⟨⟨hr2.cells (h.en.out.below hU (Nat.le_refl _)) q3 f71, ?_⟩, (hr2.frame q3 f71).mono (Nat.zero_le _), hi2.frame q3 f73, h.nil, h.cap⟩, ⟨hcell h.gn.p h.p, hcell h.gn.t h.t, hcell h.gn.l h.l⟩⟩, q3⟩; refine (h.en.inn.below hU (Nat.le_refl _)).frame q3 fun h0 a ha => ?_; obtain ⟨b, off, cur, e1, e2⟩ := hi2 (by rintro h1; exact h0 (by rw [h1]; rfl)); rw [e1] at ha; injection ha with ha; rw [← ha]; exact f73 b cur e2
theorem to_of {E : En} {p : Pk} {U0 UT : World} {A : Option Addr} {c : Nat} {D : Option Addr} {P T : Option Addr} {ct : Nat} {L : Option Addr} {cl : Nat}
  (h : EnAt UT (takeA E p).1 A D ∧ GnAt UT (takeA E p).2.1 P T L ∧ (A = none → c = 0) ∧ (takeA E p).1.out.length ≤ c ∧ RowAt UT U0.heap.size A (takeA E p).1.out ∧ ImAt UT D (takeA E p).1.inn ∧ (∀ a, T = some a → U0.heap.size ≤ a.block) ∧ (∀ a, P = some a → U0.heap.size ≤ a.block) ∧ (∀ a, L = some a → U0.heap.size ≤ a.block) ∧ (T = none → ct = 0) ∧ (L = none → cl = 0) ∧ Below U0.heap.size U0 UT) :
  To U0 UT (takeA E p) A c D P T ct L cl ∧ Below U0.heap.size U0 UT := by
 obtain ⟨h1, h2, h3, h4, h5, h6, h7, h8, h9, h10, h11, h12⟩ := h; exact ⟨⟨h1, h2, h3, h4, h5, h6, h7, h8, h9, h10, h11⟩, h12⟩
theorem Tj.below {wx wy : World} {R : En × Gn × Int} {b5 b6 : Nat} {A : Option Addr} {c : Nat} {D : Option Addr} {d : Nat} {P : Option Addr} {cp : Nat} {T : Option Addr} {ct : Nat} {L : Option Addr} {cl : Nat} (h : Tj wx R b5 b6 A c D d P cp T ct L cl) (hB : Below wx.heap.size wx wy) : Tj wy R b5 b6 A c D d P cp T ct L cl :=
 ⟨h.k5.below hB h.k5.lt, h.k6.below hB h.k6.lt, h.en.frame (Frame.of_all (S := fun _ => False) hB) (fun _ _ _ h => h) (fun _ _ _ h => h), ⟨h.gn.p.below hB (Nat.le_refl _), h.gn.t.below hB (Nat.le_refl _), h.gn.l.below hB (Nat.le_refl _)⟩⟩
structure Rf (V U : World) (R : En × Gn × Int) (b5 b6 : Nat) (A : Option Addr) (c : Nat) (D : Option Addr) (d : Nat) (P : Option Addr) (cp : Nat) (T : Option Addr) (ct : Nat) (L : Option Addr) (cl : Nat) : Prop where
 i0 : Below V.heap.size V U
 h5 : Blk U b5 (.cells (enB noEn none 0 none 0) 26)
 i1 : Below V.heap.size V (setEn U b5 R.1 A c D d)
 h6 : Blk (setEn U b5 R.1 A c D d) b6 (.cells #[.slice none 0 0, .slice none 0 0, .slice none 0 0] 47)
 i2 : Below V.heap.size V (setGn (setEn U b5 R.1 A c D d) b6 R.2.1 P cp T ct L cl)
 tj : Tj (setGn (setEn U b5 R.1 A c D d) b6 R.2.1 P cp T ct L cl) R b5 b6 A c D d P cp T ct L cl
 g5 : V.heap.size ≤ b5
 g6 : V.heap.size ≤ b6
theorem rt_fin {V U0 UT U : World} {R : En × Gn × Int} {b5 b6 : Nat} {A : Option Addr} {c : Nat} {D : Option Addr} (d : Nat) {P : Option Addr} (cp : Nat) {T : Option Addr} {ct : Nat} {L : Option Addr} {cl : Nat} (h : Rt V U0 UT U (some b5) (some b6)) (k : To U0 UT R A c D P T ct L cl) : Rf V U R b5 b6 A c D d P cp T ct L cl := by
 obtain ⟨g5, h5⟩ := h.rg.k5 _ rfl; obtain ⟨g6, h6⟩ := h.rg.k6 _ rfl; have hf : Frame (fun b => b = b5) U (setEn U b5 R.1 A c D d) := setEn_frame (Frame.refl (fun b => b = b5) U) (.inl rfl); obtain ⟨hj, hfr⟩ := tj_make (d := d) (cp := cp) (e0 := noEn) (A0 := none) (D0 := none) (c0 := 0) (d0 := 0) (x := .slice none 0 0) (y := .slice none 0 0) (z := .slice none 0 0) h.ut h5 h6 (h.s5 _ rfl) (h.s6 _ rfl) k; have hs := h.rg.below.size; exact ⟨h.rg.below, h5, setEn_below h.rg.below g5, h6.frame hf (blk_ne h6 h5 (by decide)), h.rg.below.trans (hfr.below (B := V.heap.size) (fun b e => by rcases e with e | e <;> omega) hs), hj, g5, g6⟩
def wB : En := ⟨5, 1, 2, 0, [], 0, []⟩
def wP1 : Pk := ⟨2, 1, 5, 2, tZ, 0, 0⟩
def wP2 : Pk := ⟨2, 1, 5, 0, tX, 0, 0⟩
def wP3 : Pk := ⟨3, 5, 1, 0, ⟨#[]⟩, 1, 1⟩
def wP4 : Pk := ⟨1, 6, 0, 0, ⟨#[]⟩, 0, 0⟩
def wC : En := (takeA wB wP1).1
def wA : En := (takeA threeE wP3).1
def wDs : List Dd := [⟨1, 0, 0, tX⟩, ⟨2, 0, 0, ⟨#[]⟩⟩, ⟨5, 0, 0, ⟨#[]⟩⟩]
theorem w1_ok : (takeA wB wP1).2.2 = 0 ∧ (takeA wB wP1).2.1.packets = [⟨3, 5, 1, 0, ⟨#[]⟩, 0, 2⟩] ∧ (takeA wB wP1).2.1.taken = [] := ⟨by kernel_rfl, by kernel_rfl, by kernel_rfl⟩
theorem w2_ok : (takeA wC wP2).2.2 = 0 ∧ (takeA wC wP2).2.1.packets = [⟨3, 5, 1, 0, ⟨#[]⟩, 1, 1⟩] ∧ (takeA wC wP2).2.1.taken = [tX] := ⟨by kernel_rfl, by kernel_rfl, by kernel_rfl⟩
theorem w3_ok : (takeA threeE wP3).2.2 = 0 := by kernel_rfl
theorem w4_ok : tickA wA = ([⟨2, 1, 5, 1, tY, 0, 0⟩, ⟨3, 1, 5, 0, ⟨#[]⟩, 0, 0⟩], 0) := by kernel_rfl
theorem w5_ok : (takeA wA wP4).2.2 = 0 ∧ (takeA wA wP4).1.peer = 6 ∧ (takeA wA wP4).1.phase = 2 ∧ (takeA wA wP4).2.1.packets = [⟨1, 1, 6, 0, ⟨#[]⟩, 0, 0⟩] ∧ (takeA wA wP4).2.1.lost = [tY, tZ] := ⟨by kernel_rfl, by kernel_rfl, by kernel_rfl, by kernel_rfl, by kernel_rfl⟩
theorem w6_ok : (quietA wDs []).2 = (8, 0) ∧ (quietA wDs []).1.tales.length = 2 ∧ (quietA wDs []).1.ends.length = 2 ∧ ((quietA wDs []).1.ends[0]?).map (·.phase) = some 3 := ⟨by kernel_rfl, by kernel_rfl, by kernel_rfl, by kernel_rfl⟩
end Go.Proofs.Ytejabnoidhlfaaa
