/-
  PLAIN LAWS 2: Check, of what a vault holds.
-/
import Derived.Test.YgvatwGreatC44
namespace Go.Proofs.YgvatwGreat
open Go Go.RowKit
set_option linter.unusedVariables false
set_option linter.unusedSimpArgs false

structure ChkM (m : MV) : Prop where
  a : m.accts.length ≤ 2560
  s : m.slots.length ≤ 2560
  j : m.jr.length ≤ 65536
  l : m.logs.length ≤ 2800
  t : m.temps.length ≤ 12288
  n0 : 0 ≤ m.nm
  n1 : m.nm ≤ 16384
  r : m.ref.toNat ≤ 209715200
  sa : ∀ x ∈ m.slots, 0 ≤ x.acct ∧ x.acct < (m.accts.length : Int)
  ta : ∀ x ∈ m.temps, 0 ≤ x.acct ∧ x.acct < (m.accts.length : Int)
  ca : ∀ x ∈ m.accts, codeOKB x.code = true
  tabA : TabOK m.atab m.accts.length
  tabS : TabOK m.stab m.slots.length
  fa : ∀ (i : Nat) x, m.accts[i]? = some x → (m.findA x.addr).1 = (i : Int)
  fs : ∀ (i : Nat) x, m.slots[i]? = some x → (m.findS x.acct.toNat x.key).1 = (i : Int)
  tn : (optL m.ttab).length ≠ 16384 → m.ttab = none ∧ m.temps.length = 0
  tv : (optL m.ttab).length = 16384 → ∀ x ∈ optL m.ttab, -1 ≤ x ∧ x < (m.temps.length : Int)
  tf : (optL m.ttab).length = 16384 → ∀ (i : Nat) x, m.temps[i]? = some x → (m.findT x.acct.toNat x.key).1 = (i : Int)
  tc : (optL m.ttab).length = 16384 → cntL (optL m.ttab) = m.temps.length
  mks : ∀ i : Nat, (i : Int) < m.nm → lastM m.marks i ≤ m.marks i ∧ m.marks i ≤ (m.jr.length : Int)
  e : ∀ x ∈ m.jr, EntOK m.accts.length m.slots.length m.temps.length x
  c : cnt7 m.jr = m.logs.length
  lg : ∀ x ∈ m.logs, x.topics.length ≤ 4 ∧ x.data.length ≤ 717280
theorem cntJ_mv : ∀ (l : List LEnt), cntJ l = cnt7 (l.map (·.m))
  | [] => rfl
  | x :: l => by
    have := cntJ_mv l
    unfold cntJ at this ⊢
    simp only [List.map_cons, cnt7, List.filter_cons]
    by_cases h : x.m.kind = 7
    · simp only [h, decide_true, if_true, List.length_cons]; omega
    · simp only [h, decide_false, if_false, Bool.false_eq_true]; omega
theorem chk_mv {L : VL} : Chk L ↔ ChkM L.mv := by
  obtain ⟨lA, lS, lT⟩ := lensM L
  have lJ := lenJ_mv L
  have lL := lenL_mv L
  constructor
  · intro h
    have c5 := h.c5
    have c4 := c5.c4
    have c3 := c4.c3
    have c2 := c3.c2
    have c1 := c2.c1
    refine ⟨by rw [lA]; exact c1.a, c1.s, by rw [lJ]; exact c1.j, by rw [lL]; exact c1.l, c1.t, c1.n0, c1.n1, c1.r, by rw [lA]; exact c2.s, by rw [lA]; exact c2.t, ?_, by rw [lA]; exact c3.a, c3.s, ?_, c3.fs, c3.t.nil, c3.t.v, c3.t.f, c3.t.c, by rw [lJ]; exact c4.m, ?_, ?_, ?_⟩
    · intro x hx
      obtain ⟨lx, h1, rfl⟩ := List.mem_map.1 hx
      exact c2.c lx h1
    · intro i x hx
      obtain ⟨lx, h1, h2⟩ := mv_get hx
      rw [← h2, ← findA_mv]; exact c3.fa i lx h1
    · intro x hx
      obtain ⟨lx, h1, rfl⟩ := List.mem_map.1 hx
      rw [lA]; exact c5.e lx h1
    · rw [lL, ← h.c]; exact (cntJ_mv L.jr).symm
    · intro x hx
      obtain ⟨lx, h1, rfl⟩ := List.mem_map.1 hx
      exact h.l lx h1
  · intro h
    refine ⟨⟨⟨⟨⟨⟨by rw [← lA]; exact h.a, h.s, by rw [← lJ]; exact h.j, by rw [← lL]; exact h.l, h.t, h.n0, h.n1, h.r⟩, by rw [← lA]; exact h.sa, by rw [← lA]; exact h.ta, fun x hx => h.ca x.m (List.mem_map.2 ⟨x, hx, rfl⟩)⟩, by rw [← lA]; exact h.tabA, h.tabS, ?_, h.fs, ⟨h.tn, h.tv, h.tf, h.tc⟩⟩, by rw [← lJ]; exact h.mks⟩, ?_⟩, ?_, fun x hx => h.lg x.m (List.mem_map.2 ⟨x, hx, rfl⟩)⟩
    · intro i x hx
      rw [findA_mv]
      exact h.fa i x.m (by simp [VL.mv, hx])
    · intro x hx
      have := h.e x.m (List.mem_map.2 ⟨x, hx, rfl⟩)
      rw [lA] at this; exact this
    · rw [cntJ_mv, ← lL]; exact h.c
theorem ChkM.inv {m : MV} (h : ChkM m) : MInv m := ⟨h.e, h.c, h.n0, h.n1, h.j⟩
end Go.Proofs.YgvatwGreat
