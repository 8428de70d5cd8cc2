/-  
  CONTRACTS 31: orders of two plans; logOf; CheckMid, Logged, Snap
-/
import Derived.Test.YgvatwGreatC30
namespace Go.Proofs.YgvatwGreat
open Go Go.RowKit
set_option linter.unusedVariables false
set_option linter.unusedSimpArgs false


theorem wpT_pre {P : Program} {X : List Nat} {ops : Array Oper} {K : Act → World → Prop} (q1 q2 : List PStep) : ∀ (pre : List PStep) (n : Nat) (a : Act) (w : World), pre.all (·.q) = true → pre.length ≤ n →
    wpF P X ops (fun a w => wpT P X ops K (n - pre.length) [q1, q2] a w) (stepsOf ops pre) a w → wpT P X ops K n [pre ++ q1, pre ++ q2] a w := by
  intro pre
  induction pre with
  | nil => intro n a w _ _ h; exact h
  | cons s pre ih =>
    intro n a w hq hn h
    cases n with
    | zero => simp at hn
    | succ n =>
      simp only [List.all_cons, Bool.and_eq_true] at hq
      have hn' : pre.length ≤ n := by simpa using hn
      have hh : headsOf [s :: pre ++ q1, s :: pre ++ q2] = [s, s] := rfl
      simp only [wpT, hh, hq.1, if_true]
      simp only [stepsOf, List.map_cons, wpF, hq.1, if_true] at h
      have e : n + 1 - (s :: pre).length = n - pre.length := by simp
      rw [e] at h
      by_cases hw : Region.wanted (ops.getD s.i default) (yielded ops a.tmps) = true
      · rw [if_pos hw] at h ⊢
        obtain ⟨v, h1, h2⟩ := h
        exact ⟨v, h1, ih n _ w hq.2 hn' h2⟩
      · rw [if_neg hw] at h ⊢
        exact ih n _ w hq.2 hn' h
theorem wpT_two {P : Program} {X : List Nat} {ops : Array Oper} {K : Act → World → Prop} (s1 : PStep) (p1 : List PStep) (s2 : PStep) (p2 : List PStep) (n : Nat) (a : Act) (w : World) (h1 : s1.q = false) (h2 : s2.q = false) (hne : s1.i ≠ s2.i) (hl1 : p1.length < n) (hl2 : p2.length < n)
    (w1 : wpF P X ops K (stepsOf ops (s1 :: p1)) a w) (w2 : wpF P X ops K (stepsOf ops (s2 :: p2)) a w) : wpT P X ops K n [s1 :: p1, s2 :: p2] a w := by
  cases n with
  | zero => omega
  | succ n =>
    have hh : headsOf [s1 :: p1, s2 :: p2] = [s1, s2] := rfl
    have t1 : tailsOf s1.i [s1 :: p1, s2 :: p2] = [p1] := by
      have : (s2.i == s1.i) = false := by simpa using fun e => hne e.symm
      simp [tailsOf, List.filter, this]
    have t2 : tailsOf s2.i [s1 :: p1, s2 :: p2] = [p2] := by
      have : (s1.i == s2.i) = false := by simpa using hne
      simp [tailsOf, List.filter, this]
    simp only [wpT, hh, h1, Bool.false_eq_true, if_false]
    intro s' hs'
    simp only [List.mem_cons, List.not_mem_nil, or_false] at hs'
    rcases hs' with rfl | rfl
    · rw [t1]
      simp only [stepsOf, List.map_cons, wpF, h1, Bool.false_eq_true, if_false] at w1
      by_cases hw : Region.wanted (ops.getD s'.i default) (yielded ops a.tmps) = true
      · rw [if_pos hw] at w1 ⊢
        exact Oper.wp_mono (fun a' w' hh => ⟨hh.1, wpT_single p1 n a' w' (by omega) hh.2⟩) w1
      · rw [if_neg hw] at w1 ⊢
        exact wpT_single p1 n _ w (by omega) w1
    · rw [t2]
      simp only [stepsOf, List.map_cons, wpF, h2, Bool.false_eq_true, if_false] at w2
      by_cases hw : Region.wanted (ops.getD s'.i default) (yielded ops a.tmps) = true
      · rw [if_pos hw] at w2 ⊢
        exact Oper.wp_mono (fun a' w' hh => ⟨hh.1, wpT_single p2 n a' w' (by omega) hh.2⟩) w2
      · rw [if_neg hw] at w2 ⊢
        exact wpT_single p2 n _ w (by omega) w2
theorem wpF_mono {P : Program} {X : List Nat} {ops : Array Oper} {K K' : Act → World → Prop} : ∀ (l : List (Bool × Bool × Oper)) (a : Act) (w : World), (∀ x ∈ l, x.1 = true) → (∀ a w, K a w → K' a w) → wpF P X ops K l a w → wpF P X ops K' l a w
  | [], a, w, _, hk, h => hk a w h
  | (q, ns, o) :: r, a, w, hq, hk, h => by
    have hq1 : q = true := hq _ (List.mem_cons_self ..)
    subst hq1
    simp only [wpF, if_true] at h ⊢
    by_cases hw : Region.wanted o (yielded ops a.tmps) = true
    · rw [if_pos hw] at h ⊢
      obtain ⟨v, h1, h2⟩ := h
      exact ⟨v, h1, wpF_mono r _ w (fun x hx => hq x (List.mem_cons_of_mem _ hx)) hk h2⟩
    · rw [if_neg hw] at h ⊢
      exact wpF_mono r _ w (fun x hx => hq x (List.mem_cons_of_mem _ hx)) hk h
/-- A region of two orders. -/
theorem wc_draw2 {N : Nat} {c : Code} {K : Exit → World → Env → Hp → Prop} {wb : World} {E : Env} {H : Hp} (X : List Nat) (pre : List PStep) (s1 : PStep) (p1 : List PStep) (s2 : PStep) (p2 : List PStep) (hc : cTag c = (2, 0))
    (hk : (Region.noSelect (cOps c) && (chkPlans (cOps c) (cOps c).size (Array.replicate (cOps c).size false) [pre ++ s1 :: p1, pre ++ s2 :: p2] && (pre.all (·.q) && (!s1.q && (!s2.q && (!Nat.beq s1.i s2.i && (Nat.ble (pre.length + 1 + p1.length) (cOps c).size && Nat.ble (pre.length + 1 + p2.length) (cOps c).size))))))) = true)
    (h : WR N (cOps c) X (stepsOf (cOps c) pre) (fun wb E H => WR N (cOps c) X (stepsOf (cOps c) (s1 :: p1)) (fun wb E H => K .normal wb E H) wb E H ∧ WR N (cOps c) X (stepsOf (cOps c) (s2 :: p2)) (fun wb E H => K .normal wb E H) wb E H) wb E H) : WC N c K wb E H := by
  simp only [Bool.and_eq_true] at hk
  obtain ⟨k1, k2, k3, k4, k5, k6, k7, k8⟩ := hk
  have k7 := Nat.le_of_ble_eq_true k7
  have k8 := Nat.le_of_ble_eq_true k8
  refine wc_draws X _ hc (by simp only [Bool.and_eq_true]; exact ⟨k1, k2⟩) ⟨fun a w hs => ?_⟩
  refine wpT_pre _ _ pre _ a w k3 (by omega) (wpF_mono _ a w (fun x hx => ?_) (fun a' w' hh => ?_) (h.run a w hs))
  · simp only [stepsOf, List.mem_map] at hx
    obtain ⟨s, hs1, rfl⟩ := hx
    exact List.all_eq_true.1 k3 s hs1
  · obtain ⟨wb', E', H', hst, h1, h2⟩ := hh
    refine wpT_two s1 p1 s2 p2 _ a' w' (by simpa using k4) (by simpa using k5) (fun e => ?_) (by omega) (by omega) (h1.run a' w' hst) (h2.run a' w' hst)
    rw [e] at k6; simp at k6

/-! ### Blocks in another order -/
theorem good_perm {wb w : World} {H H' : Hp} (hp : List.Perm H H') (h : Good wb H w) : Good wb H' w :=
  ⟨h.os, h.tape, h.output, h.size, fun b hb hk => h.base b hb (fun hm => hk ((hp.map _).mem_iff.1 hm)), fun e he => h.own e (hp.mem_iff.2 he), (hp.map _).nodup_iff.1 h.nodup⟩
theorem wr_perm {N : Nat} {ops : Array Oper} {X : List Nat} {K : World → Env → Hp → Prop} {wb : World} {E : Env} {H H' : Hp} {r : List (Bool × Bool × Oper)} (hp : List.Perm H H') (h : WR N ops X r K wb E H') : WR N ops X r K wb E H :=
  ⟨fun a w hst => h.run a w ⟨hst.on, good_perm hp hst.good⟩⟩
theorem wc_perm {N : Nat} {c : Code} {K : Exit → World → Env → Hp → Prop} {wb : World} {E : Env} {H H' : Hp} (hp : List.Perm H H') (h : WC N c K wb E H') : WC N c K wb E H :=
  ⟨fun a w hst => h.run a w ⟨hst.on, good_perm hp hst.good⟩⟩

end Go.Proofs.YgvatwGreat
