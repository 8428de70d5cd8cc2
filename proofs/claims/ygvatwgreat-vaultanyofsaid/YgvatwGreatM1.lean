/-
  PLAIN LAWS 1: sorting.
-/
import Derived.Test.YgvatwGreatC40
namespace Go.Proofs.YgvatwGreat
open Go Go.RowKit
set_option linter.unusedVariables false
set_option linter.unusedSimpArgs false

theorem SK.le_iff (x y : SK) : SK.le x y = true ↔ (x.rank < y.rank ∨ (x.rank = y.rank ∧ x.word.toNat ≤ y.word.toNat)) := by
  unfold SK.le SK.before
  simp only [Bool.not_eq_true', Bool.or_eq_false_iff, Bool.and_eq_false_iff, decide_eq_false_iff_not]
  omega
theorem SK.le_trans (a b c : SK) (h1 : SK.le a b = true) (h2 : SK.le b c = true) : SK.le a c = true := by
  rw [SK.le_iff] at *; omega
theorem SK.le_total (a b : SK) : (SK.le a b || SK.le b a) = true := by
  rw [Bool.or_eq_true, SK.le_iff, SK.le_iff]; omega
def Srt (l : List SK) : Prop := List.Pairwise (fun a b => SK.le a b = true) l
theorem Srt.merge {a b : List SK} (ha : Srt a) (hb : Srt b) : Srt (List.merge a b SK.le) := List.pairwise_merge SK.le_trans SK.le_total a b ha hb
theorem pass_step (wd n : Nat) (l : List SK) : pass wd (n + 1) l = List.merge (l.take wd) ((l.drop wd).take wd) SK.le ++ pass wd n (l.drop (2 * wd)) := by
  rw [pass]
  split
  · rename_i h; subst h; simp [pass_nil]
  · rfl
theorem mlen (wd : Nat) (l : List SK) : (List.merge (l.take wd) ((l.drop wd).take wd) SK.le).length = min (2 * wd) l.length := by
  simp only [List.length_merge, List.length_take, List.length_drop]; omega
theorem pass_drop (wd n : Nat) (l : List SK) : (pass wd (n + 1) l).drop (2 * wd) = pass wd n (l.drop (2 * wd)) := by
  rw [pass_step]
  have hl := mlen wd l
  by_cases h : 2 * wd ≤ l.length
  · rw [List.drop_left' (by omega)]
  · have h0 : l.drop (2 * wd) = [] := List.drop_of_length_le (by omega)
    rw [h0, pass_nil, List.append_nil]
    exact List.drop_of_length_le (by omega)
theorem pass_take (wd n : Nat) (l : List SK) : (pass wd (n + 1) l).take (2 * wd) = List.merge (l.take wd) ((l.drop wd).take wd) SK.le := by
  rw [pass_step]
  have hl := mlen wd l
  by_cases h : 2 * wd ≤ l.length
  · rw [List.take_left' (by omega)]
  · have h0 : l.drop (2 * wd) = [] := List.drop_of_length_le (by omega)
    rw [h0, pass_nil, List.append_nil]
    exact List.take_of_length_le (by omega)
theorem pass_drops (wd : Nat) : ∀ (q n : Nat) (l : List SK), q ≤ n → (pass wd n l).drop (q * (2 * wd)) = pass wd (n - q) (l.drop (q * (2 * wd)))
  | 0, n, l, _ => by simp
  | q + 1, n, l, h => by
    obtain ⟨m, rfl⟩ : ∃ m, n = m + 1 := ⟨n - 1, by omega⟩
    have e : (q + 1) * (2 * wd) = 2 * wd + q * (2 * wd) := by rw [Nat.succ_mul]; omega
    rw [e, ← List.drop_drop, pass_drop, pass_drops wd q m _ (by omega), List.drop_drop]
    congr 1; omega
theorem pass_perm (wd : Nat) : ∀ (n : Nat) (l : List SK), List.Perm (pass wd n l) l
  | 0, l => List.Perm.refl _
  | n + 1, l => by
    rw [pass_step]
    have h1 := List.merge_perm_append SK.le (xs := l.take wd) (ys := (l.drop wd).take wd)
    have h2 := pass_perm wd n (l.drop (2 * wd))
    have h3 : l.take wd ++ (l.drop wd).take wd ++ l.drop (2 * wd) = l := by
      rw [show 2 * wd = wd + wd by omega, ← List.drop_drop, List.append_assoc, List.take_append_drop, List.take_append_drop]
    have h4 := h1.append h2
    rw [h3] at h4; exact h4
/-- Runs of width wd are in order. -/
def RunsQ (wd : Nat) (l : List SK) : Prop := ∀ q, Srt ((l.drop (q * wd)).take wd)
theorem runs_one (l : List SK) : RunsQ 1 l := fun q => by
  unfold Srt
  cases h : l.drop (q * 1) with
  | nil => exact List.Pairwise.nil
  | cons x t => rw [List.take_succ_cons, List.take_zero]; exact List.pairwise_singleton _ _
theorem pass_runs {wd : Nat} {l : List SK} (hw : 1 ≤ wd) (h : RunsQ wd l) : RunsQ (2 * wd) (pass wd l.length l) := by
  intro q
  by_cases hq : q < l.length
  · rw [pass_drops wd q l.length l (by omega)]
    obtain ⟨m, hm⟩ : ∃ m, l.length - q = m + 1 := ⟨l.length - q - 1, by omega⟩
    rw [hm, pass_take]
    have h1 := h (2 * q)
    have h2 := h (2 * q + 1)
    have e1 : 2 * q * wd = q * (2 * wd) := by rw [Nat.mul_comm 2 q, Nat.mul_assoc]
    have e2 : (2 * q + 1) * wd = q * (2 * wd) + wd := by rw [Nat.succ_mul, e1]
    rw [e1] at h1
    rw [e2, ← List.drop_drop] at h2
    exact h1.merge h2
  · have : l.length ≤ q * (2 * wd) := Nat.le_trans (by omega) (Nat.le_mul_of_pos_right q (by omega))
    have h0 : (pass wd l.length l).drop (q * (2 * wd)) = [] := List.drop_of_length_le (by rw [pass_len]; exact this)
    rw [h0, List.take_nil]; exact List.Pairwise.nil
theorem sortN_ok : ∀ (n wd : Nat) (l : List SK), 1 ≤ wd → l.length ≤ n + wd → RunsQ wd l → List.Perm (sortN n wd l) l ∧ Srt (sortN n wd l)
  | 0, wd, l, hw, hn, hr => by
    refine ⟨List.Perm.refl _, ?_⟩
    have := hr 0
    rw [Nat.zero_mul, List.drop_zero, List.take_of_length_le (by omega)] at this
    exact this
  | n + 1, wd, l, hw, hn, hr => by
    unfold sortN
    split
    · rename_i h
      have ih := sortN_ok n (2 * wd) (pass wd l.length l) (by omega) (by rw [pass_len]; omega) (pass_runs hw hr)
      exact ⟨ih.1.trans (pass_perm wd _ l), ih.2⟩
    · rename_i h
      refine ⟨List.Perm.refl _, ?_⟩
      have := hr 0
      rw [Nat.zero_mul, List.drop_zero, List.take_of_length_le (by omega)] at this
      exact this
theorem sortK_perm (l : List SK) : List.Perm (sortK l) l := (sortN_ok l.length 1 l (by omega) (by omega) (runs_one l)).1
theorem sortK_srt (l : List SK) : Srt (sortK l) := (sortN_ok l.length 1 l (by omega) (by omega) (runs_one l)).2
theorem sortK_len (l : List SK) : (sortK l).length = l.length := (sortK_perm l).length_eq
end Go.Proofs.YgvatwGreat
