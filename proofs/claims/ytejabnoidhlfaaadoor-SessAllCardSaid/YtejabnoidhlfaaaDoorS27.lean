/- Take, plainly. -/
import Derived.Test.YtejabnoidhlfaaaDoorS4

/- Take in plain words, by its cases. -/
namespace Go.Proofs.YtejabnoidhlfaaaDoor

def openE (e : En) : En := if e.phase == 2 then { e with phase := 3 } else e
def takeB (e1 : En) (ls : List ByteArray) (p : Pk) : En × Gn × Int :=
 let n := flyN e1
 let sent := e1.base + n
 let mine := p.to == e1.life
 let opened := mine && e1.phase == 2 && p.kind == 1
 let e2 := if mine && e1.phase == 2 then { e1 with phase := 3 } else e1
 let e3 := if mine && p.kind != 1 then ackedA e2 p n else e2
 let c := if mine && p.kind == 2 then cameA e3 p else (e3, [])
 let e4 := c.1
 let pk := (if mine then [] else [helloA e4]) ++ fromA e4 (sent - e4.base).toNat ++ (if opened || (mine && p.kind == 2) then [reportA e4] else [])
 (e4, ⟨pk, c.2, ls⟩, 0)
theorem tk_go {e : En} {p : Pk} (hg : goodB e = true) (hp : properB p = true) (hd : ¬ p.frm < e.peer) {e1 : En} {ls : List ByteArray} (ho : (if e.peer < p.frm then overA e p.frm else (e, [])) = (e1, ls)) : takeA e p = takeB e1 ls p := by
 unfold takeA
 rw [hg, hp]
 simp only [Bool.and_self, Bool.true_eq_false, if_false]
 rw [if_neg hd, ho]
 rfl
theorem tb_foreign {e1 : En} {ls : List ByteArray} {p : Pk} (hm : (p.to == e1.life) = false) : takeB e1 ls p = (e1, ⟨[] ++ [helloA e1] ++ fromA e1 (flyN e1), [], ls⟩, 0) := by
 unfold takeB
 simp only [hm, Bool.false_and, Bool.false_eq_true, if_false, Bool.or_self, List.append_nil, List.nil_append]
 rw [show (e1.base + (flyN e1 : Int) - e1.base).toNat = flyN e1 by omega]
theorem tb_hello {e1 : En} {ls : List ByteArray} {p : Pk} (hm : (p.to == e1.life) = true) (hk : p.kind = 1) : takeB e1 ls p = (openE e1, ⟨[] ++ fromA (openE e1) (flyN e1) ++ (if e1.phase == 2 then [reportA (openE e1)] else []), [], ls⟩, 0) := by
 unfold takeB openE
 have h2 : (p.kind == 2) = false := beq_eq_false_iff_ne.2 (by omega)
 have h1 : (p.kind == 1) = true := beq_iff_eq.2 hk
 have h3 : (p.kind != 1) = false := by simp [hk]
 simp only [hm, h1, h2, h3, Bool.true_and, Bool.and_true, Bool.and_false, Bool.false_eq_true, if_false, if_true, Bool.or_false, List.nil_append]
 cases hph : (e1.phase == 2) with
 | true =>
  simp only [if_true]
  rw [show (e1.base + (flyN e1 : Int) - e1.base).toNat = flyN e1 by omega]
 | false =>
  simp only [Bool.false_eq_true, if_false]
  rw [show (e1.base + (flyN e1 : Int) - e1.base).toNat = flyN e1 by omega]
theorem acked_base (e : En) (p : Pk) (n : Nat) : (ackedA e p n).base = e.base + (goneA e p n : Int) ∧ goneA e p n ≤ n ∧ (ackedA e p n).life = e.life ∧ (ackedA e p n).peer = e.peer ∧ (ackedA e p n).phase = e.phase := by
 unfold ackedA goneA
 split
 ·exact ⟨by simp, Nat.zero_le _, rfl, rfl, rfl⟩
 ·refine ⟨?_, by omega, rfl, rfl, rfl⟩
  show p.ack = _
  omega
theorem came_base (e : En) (p : Pk) : (cameA e p).1.base = e.base ∧ (cameA e p).1.out = e.out ∧ (cameA e p).1.phase = e.phase ∧ (cameA e p).1.peer = e.peer ∧ (cameA e p).1.life = e.life := by
 unfold cameA
 split <;> exact ⟨rfl, rfl, rfl, rfl, rfl⟩
theorem tb_ack {e1 : En} {ls : List ByteArray} {p : Pk} (hm : (p.to == e1.life) = true) (hk : p.kind = 3) : takeB e1 ls p = (ackedA (openE e1) p (flyN e1), ⟨[] ++ fromA (ackedA (openE e1) p (flyN e1)) (flyN e1 - goneA (openE e1) p (flyN e1)), [], ls⟩, 0) := by
 have hb := acked_base (openE e1) p (flyN e1)
 have hbo : (openE e1).base = e1.base := by unfold openE; split <;> rfl
 have e0 : (if (e1.phase == 2) = true then { e1 with phase := 3 } else e1) = openE e1 := rfl
 unfold takeB
 have h2 : (p.kind == 2) = false := beq_eq_false_iff_ne.2 (by omega)
 have h1 : (p.kind == 1) = false := beq_eq_false_iff_ne.2 (by omega)
 have h3 : (p.kind != 1) = true := by simp [hk]
 simp only [hm, h1, h2, h3, Bool.true_and, Bool.and_true, Bool.and_false, Bool.false_eq_true, if_false, if_true, Bool.or_false, List.nil_append, List.append_nil, e0]
 rw [show (e1.base + (flyN e1 : Int) - (ackedA (openE e1) p (flyN e1)).base).toNat = flyN e1 - goneA (openE e1) p (flyN e1) by rw [hb.1, hbo]; omega]
theorem tb_data {e1 : En} {ls : List ByteArray} {p : Pk} (hm : (p.to == e1.life) = true) (hk : p.kind = 2) : takeB e1 ls p = ((cameA (ackedA (openE e1) p (flyN e1)) p).1, ⟨[] ++ fromA (cameA (ackedA (openE e1) p (flyN e1)) p).1 (flyN e1 - goneA (openE e1) p (flyN e1)) ++ [reportA (cameA (ackedA (openE e1) p (flyN e1)) p).1], (cameA (ackedA (openE e1) p (flyN e1)) p).2, ls⟩, 0) := by
 have hb := acked_base (openE e1) p (flyN e1)
 have hbo : (openE e1).base = e1.base := by unfold openE; split <;> rfl
 have hc := came_base (ackedA (openE e1) p (flyN e1)) p
 have e0 : (if (e1.phase == 2) = true then { e1 with phase := 3 } else e1) = openE e1 := rfl
 unfold takeB
 have h2 : (p.kind == 2) = true := beq_iff_eq.2 hk
 have h1 : (p.kind == 1) = false := beq_eq_false_iff_ne.2 (by omega)
 have h3 : (p.kind != 1) = true := by simp [hk]
 simp only [hm, h1, h2, h3, Bool.true_and, Bool.and_true, Bool.and_false, if_true, Bool.or_true, List.nil_append, e0]
 rw [show (e1.base + (flyN e1 : Int) - (cameA (ackedA (openE e1) p (flyN e1)) p).1.base).toNat = flyN e1 - goneA (openE e1) p (flyN e1) by rw [hc.1, hb.1, hbo]; omega]
theorem takeIn_len : ∀ (f : Nat) (w : Int) (l : List Im), (takeIn f w l).2.2.length ≤ l.length
 | 0, w, l => by simp [takeIn]
 | f + 1, w, [] => by simp [takeIn]
 | f + 1, w, x :: l => by
  unfold takeIn
  split
  ·have := takeIn_len f (w + 1) l
   simp only [List.length_cons]
   omega
  ·simp
theorem came_len {e : En} {p : Pk} (h : GoodP e) : (cameA e p).2.length ≤ 4 := by
 unfold cameA
 split
 ·simp
 ·have h1 := takeIn_len (e.inn.length + 1) e.want (putA ⟨p.num, p.t⟩ e.inn)
  have h2 := putA_len ⟨p.num, p.t⟩ e.inn
  have h3 := h.ins_len
  simp only
  omega
end Go.Proofs.YtejabnoidhlfaaaDoor
