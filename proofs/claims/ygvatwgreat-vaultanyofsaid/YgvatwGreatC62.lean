/-  
  CONTRACTS 62: orders of three plans
-/
import Derived.Test.YgvatwGreatC61
namespace Go.Proofs.YgvatwGreat
open Go Go.RowKit
set_option linter.unusedVariables false
set_option linter.unusedSimpArgs false


theorem wp_norm {P : Program} {o : Oper} {a : Act} {w : World} {next : Act → World → Prop} {K1 : Act → World → Prop} {Q2 : Exit → Act → World → Prop}
    (hh : o.wp P a w next (fun e a w => e = .normal ∧ K1 a w)) : o.wp P a w next Q2 := by
  unfold Oper.wp at *
  generalize (execOp a.eval o).run P w = r at *
  cases r with
  | ok n w' =>
    cases n with
    | enter f args =>
      refine Calls.mono hh (fun e w'' he => ?_)
      cases e with
      | returned v => exact he
      | panicked c => cases he.1
      | outgrown =>
        obtain ⟨a, w, h, _⟩ := he
        cases h
    | _ => exact hh
  | halt x w' =>
    cases x with
    | panic v => cases hh.1
    | _ => exact hh
theorem wpT_pre3 {P : Program} {X : List Nat} {ops : Array Oper} {K : Act → World → Prop} (q1 q2 q3 : List PStep) : ∀ (pre : List PStep) (n : Nat) (a : Act) (w : World), pre.all (·.q) = true → pre.length ≤ n →
    wpF P X ops (fun a w => wpT P X ops K (n - pre.length) [q1, q2, q3] a w) (stepsOf ops pre) a w → wpT P X ops K n [pre ++ q1, pre ++ q2, pre ++ q3] a w := by
  intro pre
  induction pre with
  | nil => intro n a w _ _ h; exact h
  | cons s pre ih =>
    intro n a w hq hn h
    cases n with
    | zero => simp at hn
    | succ n =>
      simp only [List.all_cons, Bool.and_eq_true] at hq
      have hn' : pre.length ≤ n := by simpa using hn
      have hh : headsOf [s :: pre ++ q1, s :: pre ++ q2, s :: pre ++ q3] = [s, s, s] := rfl
      simp only [wpT, hh, hq.1, if_true]
      simp only [stepsOf, List.map_cons, wpF, hq.1, if_true] at h
      have e : n + 1 - (s :: pre).length = n - pre.length := by simp
      rw [e] at h
      by_cases hw : Region.wanted (ops.getD s.i default) (yielded ops a.tmps) = true
      · rw [if_pos hw] at h ⊢
        obtain ⟨v, h1, h2⟩ := h
        exact ⟨v, h1, ih n _ w hq.2 hn' h2⟩
      · rw [if_neg hw] at h ⊢
        exact ih n _ w hq.2 hn' h
theorem wpT_three {P : Program} {X : List Nat} {ops : Array Oper} {K : Act → World → Prop} (s1 : PStep) (mid q1 q2 : List PStep) (s2 : PStep) (p2 : List PStep) (n : Nat) (a : Act) (w : World) (h1 : s1.q = false) (h2 : s2.q = false) (hne : s1.i ≠ s2.i) (hm : mid.all (·.q) = true) (hl1 : mid.length ≤ n) (hl2 : p2.length ≤ n)
    (w1 : wpF P X ops (fun a w => wpT P X ops K (n - mid.length) [q1, q2] a w) (stepsOf ops (s1 :: mid)) a w) (w2 : wpF P X ops K (stepsOf ops (s2 :: p2)) a w) : wpT P X ops K (n + 1) [s1 :: (mid ++ q1), s1 :: (mid ++ q2), s2 :: p2] a w := by
  have hh : headsOf [s1 :: (mid ++ q1), s1 :: (mid ++ q2), s2 :: p2] = [s1, s1, s2] := rfl
  have t1 : tailsOf s1.i [s1 :: (mid ++ q1), s1 :: (mid ++ q2), s2 :: p2] = [mid ++ q1, mid ++ q2] := by
    have : (s2.i == s1.i) = false := by simpa using fun e => hne e.symm
    simp [tailsOf, List.filter, this]
  have t2 : tailsOf s2.i [s1 :: (mid ++ q1), s1 :: (mid ++ q2), s2 :: p2] = [p2] := by
    have : (s1.i == s2.i) = false := by simpa using hne
    simp [tailsOf, List.filter, this]
  simp only [wpT, hh, h1, Bool.false_eq_true, if_false]
  intro s' hs'
  simp only [List.mem_cons, List.not_mem_nil, or_false] at hs'
  have c1 : s' = s1 ∨ s' = s2 := by
    rcases hs' with h | h | h
    · exact .inl h
    · exact .inl h
    · exact .inr h
  rcases c1 with rfl | rfl
  · rw [t1]
    simp only [stepsOf, List.map_cons, wpF, h1, Bool.false_eq_true, if_false] at w1
    by_cases hw : Region.wanted (ops.getD s'.i default) (yielded ops a.tmps) = true
    · rw [if_pos hw] at w1 ⊢
      exact Oper.wp_mono (fun a' w' hh => ⟨hh.1, wpT_pre q1 q2 mid n a' w' hm hl1 hh.2⟩) (wp_norm w1)
    · rw [if_neg hw] at w1 ⊢
      exact wpT_pre q1 q2 mid n _ w hm hl1 w1
  · rw [t2]
    simp only [stepsOf, List.map_cons, wpF, h2, Bool.false_eq_true, if_false] at w2
    by_cases hw : Region.wanted (ops.getD s'.i default) (yielded ops a.tmps) = true
    · rw [if_pos hw] at w2 ⊢
      exact Oper.wp_mono (fun a' w' hh => ⟨hh.1, wpT_single p2 n a' w' hl2 hh.2⟩) w2
    · rw [if_neg hw] at w2 ⊢
      exact wpT_single p2 n _ w hl2 w2
theorem wpF_mono' {P : Program} {X : List Nat} {ops : Array Oper} {K K' : Act → World → Prop} : ∀ (l : List (Bool × Bool × Oper)) (a : Act) (w : World), (∀ a w, K a w → K' a w) → wpF P X ops K l a w → wpF P X ops K' l a w
  | [], a, w, hk, h => hk a w h
  | (q, ns, o) :: r, a, w, hk, h => by
    simp only [wpF] at h ⊢
    by_cases hw : Region.wanted o (yielded ops a.tmps) = true
    · rw [if_pos hw] at h ⊢
      cases q with
      | true =>
        simp only [if_true] at h ⊢
        obtain ⟨v, h1, h2⟩ := h
        exact ⟨v, h1, wpF_mono' r _ w hk h2⟩
      | false =>
        simp only [Bool.false_eq_true, if_false] at h ⊢
        exact Oper.wp_mono (fun a' w' hh => ⟨hh.1, wpF_mono' r a' w' hk hh.2⟩) (wp_norm h)
    · rw [if_neg hw] at h ⊢
      exact wpF_mono' r _ w hk h
/-- A region of three orders. -/
theorem wc_draw3 {N : Nat} {c : Code} {K : Exit → World → Env → Hp → Prop} {wb : World} {E : Env} {H : Hp} (X : List Nat) (pre : List PStep) (s1 : PStep) (mid : List PStep) (t1 : PStep) (r1 : List PStep) (t2 : PStep) (r2 : List PStep) (s2 : PStep) (p2 : List PStep) (hc : cTag c = (2, 0))
    (hk : (Region.noSelect (cOps c) && (chkPlans (cOps c) (cOps c).size (Array.replicate (cOps c).size false) [pre ++ s1 :: (mid ++ t1 :: r1), pre ++ s1 :: (mid ++ t2 :: r2), pre ++ s2 :: p2] && (pre.all (·.q) && (mid.all (·.q) && (!s1.q && (!s2.q && (!t1.q && (!t2.q && (!Nat.beq s1.i s2.i && (!Nat.beq t1.i t2.i && (Nat.ble (pre.length + 1 + mid.length + 1 + r1.length) (cOps c).size && (Nat.ble (pre.length + 1 + mid.length + 1 + r2.length) (cOps c).size && Nat.ble (pre.length + 1 + p2.length) (cOps c).size)))))))))))) = true)
    (h : WR N (cOps c) X (stepsOf (cOps c) pre) (fun wb E H =>
      WR N (cOps c) X (stepsOf (cOps c) (s1 :: mid)) (fun wb E H => WR N (cOps c) X (stepsOf (cOps c) (t1 :: r1)) (fun wb E H => K .normal wb E H) wb E H ∧ WR N (cOps c) X (stepsOf (cOps c) (t2 :: r2)) (fun wb E H => K .normal wb E H) wb E H) wb E H ∧
      WR N (cOps c) X (stepsOf (cOps c) (s2 :: p2)) (fun wb E H => K .normal wb E H) wb E H) wb E H) : WC N c K wb E H := by
  simp only [Bool.and_eq_true] at hk
  obtain ⟨k1, k2, k3, km, k4, k5, k4', k5', k6, k6', k7, k8, k9⟩ := hk
  have k7 := Nat.le_of_ble_eq_true k7
  have k8 := Nat.le_of_ble_eq_true k8
  have k9 := Nat.le_of_ble_eq_true k9
  refine wc_draws X _ hc (by simp only [Bool.and_eq_true]; exact ⟨k1, k2⟩) ⟨fun a w hs => ?_⟩
  refine wpT_pre3 _ _ _ pre _ a w k3 (by omega) (wpF_mono' _ a w (fun a' w' hh => ?_) (h.run a w hs))
  obtain ⟨wb', E', H', hst, h1, h2⟩ := hh
  have en : (cOps c).size - pre.length = ((cOps c).size - pre.length - 1) + 1 := by omega
  rw [en]
  refine wpT_three s1 mid _ _ s2 p2 _ a' w' (by simpa using k4) (by simpa using k5) (fun e => by rw [e] at k6; simp at k6) km (by omega) (by omega) (wpF_mono' _ a' w' (fun a2 w2 hh2 => ?_) (h1.run a' w' hst)) (h2.run a' w' hst)
  obtain ⟨wb2, E2, H2, hst2, g1, g2⟩ := hh2
  exact wpT_two t1 r1 t2 r2 _ a2 w2 (by simpa using k4') (by simpa using k5') (fun e => by rw [e] at k6'; simp at k6') (by omega) (by omega) (g1.run a2 w2 hst2) (g2.run a2 w2 hst2)

end Go.Proofs.YgvatwGreat
