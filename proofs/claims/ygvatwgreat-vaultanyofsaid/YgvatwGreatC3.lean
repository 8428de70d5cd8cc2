/-
  CONTRACTS 3: u256; the homes.
-/
import Derived.Test.YgvatwGreatC2
namespace Go.Proofs.YgvatwGreat
open Go Go.RowKit
set_option linter.unusedVariables false
set_option linter.unusedSimpArgs false

theorem c163 (a b : W256) (w : World) : CE 163 [aggC [cW a], aggC [cW b]] w (fun v _ => ∃ d : W256, v = .tuple #[aggC [cW d], .bool (decide (a.toNat < b.toNat))]) := by
  refine enter [] Hvat.func163 rfl Hvat.ntmps163 rfl (good_nil w) ?_
  repeat (first
    | refine r_p (by rfl) (by rfl) (by rfl) ?_
    | refine r_sk (by rfl) (by rfl) ?_
    | refine wr_nil ?_
    | refine sq_n ?_ | refine sq_ret ?_ | refine sq_exit ?_ | refine bk_n ?_ | refine bk_ret ?_ | refine bk_hit ?_ | refine bk_miss (by rfl) ?_ | refine lp_ret ?_ | refine lp_exit ?_
    | refine wc_seq (by rfl) ?_ | refine wc_block (by rfl) ?_ | refine wc_plain (by rfl) ?_ | refine wc_skip (by rfl) ?_ | refine wc_ret (by rfl) ?_ | refine wc_exit (by rfl) ?_)
  refine r_bx (by rfl) (valC_agg _) (by rfl) (by rfl) fun b2 hb2 => ?_
  refine r_bx (by rfl) (valC_agg _) (by rfl) (by rfl) fun b3 hb3 => ?_
  refine r_al z45 (by rfl) (by rfl) fun b4 hb4 => ?_
  have hx := Below.refl w.heap.size w
  repeat (first
    | refine r_p (by rfl) (by rfl) (by rfl) ?_
    | refine r_sk (by rfl) (by rfl) ?_
    | refine wr_nil ?_
    | refine sq_n ?_ | refine sq_ret ?_ | refine sq_exit ?_ | refine bk_n ?_ | refine bk_ret ?_ | refine bk_hit ?_ | refine bk_miss (by rfl) ?_ | refine lp_ret ?_ | refine lp_exit ?_
    | refine wc_seq (by rfl) ?_ | refine wc_block (by rfl) ?_ | refine wc_plain (by rfl) ?_ | refine wc_skip (by rfl) ?_ | refine wc_ret (by rfl) ?_ | refine wc_exit (by rfl) ?_)
  refine r_ld1 (by rfl) (by rfl) (.h (.tail _ (.tail _ (.head _)))) (g1_word (by rfl) (by rfl)) (by simp) (by rfl) (by rfl) ?_
  repeat (first
    | refine r_p (by rfl) (by rfl) (by rfl) ?_
    | refine r_sk (by rfl) (by rfl) ?_
    | refine wr_nil ?_
    | refine sq_n ?_ | refine sq_ret ?_ | refine sq_exit ?_ | refine bk_n ?_ | refine bk_ret ?_ | refine bk_hit ?_ | refine bk_miss (by rfl) ?_ | refine lp_ret ?_ | refine lp_exit ?_
    | refine wc_seq (by rfl) ?_ | refine wc_block (by rfl) ?_ | refine wc_plain (by rfl) ?_ | refine wc_skip (by rfl) ?_ | refine wc_ret (by rfl) ?_ | refine wc_exit (by rfl) ?_)
  refine r_ld1 (by rfl) (by rfl) (.h (.tail _ (.head _))) (g1_word (by rfl) (by rfl)) (by simp) (by rfl) (by rfl) ?_
  repeat (first
    | refine r_p (by rfl) (by rfl) (by rfl) ?_
    | refine r_sk (by rfl) (by rfl) ?_
    | refine wr_nil ?_
    | refine sq_n ?_ | refine sq_ret ?_ | refine sq_exit ?_ | refine bk_n ?_ | refine bk_ret ?_ | refine bk_hit ?_ | refine bk_miss (by rfl) ?_ | refine lp_ret ?_ | refine lp_exit ?_
    | refine wc_seq (by rfl) ?_ | refine wc_block (by rfl) ?_ | refine wc_plain (by rfl) ?_ | refine wc_skip (by rfl) ?_ | refine wc_ret (by rfl) ?_ | refine wc_exit (by rfl) ?_)
  refine r_callE Hvat.func164 (by rfl) (by rfl) hx (Nat.le_refl _) (by have hz := hx.size; repeat (first | exact trivial | refine ⟨by omega, ?_⟩)) (by rfl) (by rfl) (fun w1 _ => c164 _ _ 0 _ rfl (by omega) w1) ?_
  rintro v w2 rfl hs hx
  repeat (first
    | refine r_p (by rfl) (by rfl) (by rfl) ?_
    | refine r_sk (by rfl) (by rfl) ?_
    | refine wr_nil ?_
    | refine sq_n ?_ | refine sq_ret ?_ | refine sq_exit ?_ | refine bk_n ?_ | refine bk_ret ?_ | refine bk_hit ?_ | refine bk_miss (by rfl) ?_ | refine lp_ret ?_ | refine lp_exit ?_
    | refine wc_seq (by rfl) ?_ | refine wc_block (by rfl) ?_ | refine wc_plain (by rfl) ?_ | refine wc_skip (by rfl) ?_ | refine wc_ret (by rfl) ?_ | refine wc_exit (by rfl) ?_)
  refine r_ld1 (by rfl) (by rfl) (.h (.tail _ (.tail _ (.head _)))) (g1_word (by rfl) (by rfl)) (by simp) (by rfl) (by rfl) ?_
  repeat (first
    | refine r_p (by rfl) (by rfl) (by rfl) ?_
    | refine r_sk (by rfl) (by rfl) ?_
    | refine wr_nil ?_
    | refine sq_n ?_ | refine sq_ret ?_ | refine sq_exit ?_ | refine bk_n ?_ | refine bk_ret ?_ | refine bk_hit ?_ | refine bk_miss (by rfl) ?_ | refine lp_ret ?_ | refine lp_exit ?_
    | refine wc_seq (by rfl) ?_ | refine wc_block (by rfl) ?_ | refine wc_plain (by rfl) ?_ | refine wc_skip (by rfl) ?_ | refine wc_ret (by rfl) ?_ | refine wc_exit (by rfl) ?_)
  refine r_ld1 (by rfl) (by rfl) (.h (.tail _ (.head _))) (g1_word (by rfl) (by rfl)) (by simp) (by rfl) (by rfl) ?_
  repeat (first
    | refine r_p (by rfl) (by rfl) (by rfl) ?_
    | refine r_sk (by rfl) (by rfl) ?_
    | refine wr_nil ?_
    | refine sq_n ?_ | refine sq_ret ?_ | refine sq_exit ?_ | refine bk_n ?_ | refine bk_ret ?_ | refine bk_hit ?_ | refine bk_miss (by rfl) ?_ | refine lp_ret ?_ | refine lp_exit ?_
    | refine wc_seq (by rfl) ?_ | refine wc_block (by rfl) ?_ | refine wc_plain (by rfl) ?_ | refine wc_skip (by rfl) ?_ | refine wc_ret (by rfl) ?_ | refine wc_exit (by rfl) ?_)
  refine r_callE Hvat.func164 (by rfl) (by rfl) hx (Nat.le_refl _) (by have hz := hx.size; repeat (first | exact trivial | refine ⟨by omega, ?_⟩)) (by rfl) (by rfl) (fun w1 _ => c164 _ _ _ _ rfl (subC_le _ _ _) w1) ?_
  rintro v w3 rfl hs hx
  repeat (first
    | refine r_p (by rfl) (by rfl) (by rfl) ?_
    | refine r_sk (by rfl) (by rfl) ?_
    | refine wr_nil ?_
    | refine sq_n ?_ | refine sq_ret ?_ | refine sq_exit ?_ | refine bk_n ?_ | refine bk_ret ?_ | refine bk_hit ?_ | refine bk_miss (by rfl) ?_ | refine lp_ret ?_ | refine lp_exit ?_
    | refine wc_seq (by rfl) ?_ | refine wc_block (by rfl) ?_ | refine wc_plain (by rfl) ?_ | refine wc_skip (by rfl) ?_ | refine wc_ret (by rfl) ?_ | refine wc_exit (by rfl) ?_)
  refine r_ld1 (by rfl) (by rfl) (.h (.tail _ (.tail _ (.head _)))) (g1_word (by rfl) (by rfl)) (by simp) (by rfl) (by rfl) ?_
  repeat (first
    | refine r_p (by rfl) (by rfl) (by rfl) ?_
    | refine r_sk (by rfl) (by rfl) ?_
    | refine wr_nil ?_
    | refine sq_n ?_ | refine sq_ret ?_ | refine sq_exit ?_ | refine bk_n ?_ | refine bk_ret ?_ | refine bk_hit ?_ | refine bk_miss (by rfl) ?_ | refine lp_ret ?_ | refine lp_exit ?_
    | refine wc_seq (by rfl) ?_ | refine wc_block (by rfl) ?_ | refine wc_plain (by rfl) ?_ | refine wc_skip (by rfl) ?_ | refine wc_ret (by rfl) ?_ | refine wc_exit (by rfl) ?_)
  refine r_ld1 (by rfl) (by rfl) (.h (.tail _ (.head _))) (g1_word (by rfl) (by rfl)) (by simp) (by rfl) (by rfl) ?_
  repeat (first
    | refine r_p (by rfl) (by rfl) (by rfl) ?_
    | refine r_sk (by rfl) (by rfl) ?_
    | refine wr_nil ?_
    | refine sq_n ?_ | refine sq_ret ?_ | refine sq_exit ?_ | refine bk_n ?_ | refine bk_ret ?_ | refine bk_hit ?_ | refine bk_miss (by rfl) ?_ | refine lp_ret ?_ | refine lp_exit ?_
    | refine wc_seq (by rfl) ?_ | refine wc_block (by rfl) ?_ | refine wc_plain (by rfl) ?_ | refine wc_skip (by rfl) ?_ | refine wc_ret (by rfl) ?_ | refine wc_exit (by rfl) ?_)
  refine r_callE Hvat.func164 (by rfl) (by rfl) hx (Nat.le_refl _) (by have hz := hx.size; repeat (first | exact trivial | refine ⟨by omega, ?_⟩)) (by rfl) (by rfl) (fun w1 _ => c164 _ _ _ _ rfl (subC_le _ _ _) w1) ?_
  rintro v w4 rfl hs hx
  repeat (first
    | refine r_p (by rfl) (by rfl) (by rfl) ?_
    | refine r_sk (by rfl) (by rfl) ?_
    | refine wr_nil ?_
    | refine sq_n ?_ | refine sq_ret ?_ | refine sq_exit ?_ | refine bk_n ?_ | refine bk_ret ?_ | refine bk_hit ?_ | refine bk_miss (by rfl) ?_ | refine lp_ret ?_ | refine lp_exit ?_
    | refine wc_seq (by rfl) ?_ | refine wc_block (by rfl) ?_ | refine wc_plain (by rfl) ?_ | refine wc_skip (by rfl) ?_ | refine wc_ret (by rfl) ?_ | refine wc_exit (by rfl) ?_)
  refine r_ld1 (by rfl) (by rfl) (.h (.tail _ (.tail _ (.head _)))) (g1_word (by rfl) (by rfl)) (by simp) (by rfl) (by rfl) ?_
  repeat (first
    | refine r_p (by rfl) (by rfl) (by rfl) ?_
    | refine r_sk (by rfl) (by rfl) ?_
    | refine wr_nil ?_
    | refine sq_n ?_ | refine sq_ret ?_ | refine sq_exit ?_ | refine bk_n ?_ | refine bk_ret ?_ | refine bk_hit ?_ | refine bk_miss (by rfl) ?_ | refine lp_ret ?_ | refine lp_exit ?_
    | refine wc_seq (by rfl) ?_ | refine wc_block (by rfl) ?_ | refine wc_plain (by rfl) ?_ | refine wc_skip (by rfl) ?_ | refine wc_ret (by rfl) ?_ | refine wc_exit (by rfl) ?_)
  refine r_ld1 (by rfl) (by rfl) (.h (.tail _ (.head _))) (g1_word (by rfl) (by rfl)) (by simp) (by rfl) (by rfl) ?_
  repeat (first
    | refine r_p (by rfl) (by rfl) (by rfl) ?_
    | refine r_sk (by rfl) (by rfl) ?_
    | refine wr_nil ?_
    | refine sq_n ?_ | refine sq_ret ?_ | refine sq_exit ?_ | refine bk_n ?_ | refine bk_ret ?_ | refine bk_hit ?_ | refine bk_miss (by rfl) ?_ | refine lp_ret ?_ | refine lp_exit ?_
    | refine wc_seq (by rfl) ?_ | refine wc_block (by rfl) ?_ | refine wc_plain (by rfl) ?_ | refine wc_skip (by rfl) ?_ | refine wc_ret (by rfl) ?_ | refine wc_exit (by rfl) ?_)
  refine r_callE Hvat.func164 (by rfl) (by rfl) hx (Nat.le_refl _) (by have hz := hx.size; repeat (first | exact trivial | refine ⟨by omega, ?_⟩)) (by rfl) (by rfl) (fun w1 _ => c164 _ _ _ _ rfl (subC_le _ _ _) w1) ?_
  rintro v w5 rfl hs hx
  repeat (first
    | refine r_p (by rfl) (by rfl) (by rfl) ?_
    | refine r_sk (by rfl) (by rfl) ?_
    | refine wr_nil ?_
    | refine sq_n ?_ | refine sq_ret ?_ | refine sq_exit ?_ | refine bk_n ?_ | refine bk_ret ?_ | refine bk_hit ?_ | refine bk_miss (by rfl) ?_ | refine lp_ret ?_ | refine lp_exit ?_
    | refine wc_seq (by rfl) ?_ | refine wc_block (by rfl) ?_ | refine wc_plain (by rfl) ?_ | refine wc_skip (by rfl) ?_ | refine wc_ret (by rfl) ?_ | refine wc_exit (by rfl) ?_)
  refine r_bw4 (by rfl) (by rfl) (by rfl) (by rfl) (by rfl) (by rfl) ?_
  repeat (first
    | refine r_p (by rfl) (by rfl) (by rfl) ?_
    | refine r_sk (by rfl) (by rfl) ?_
    | refine wr_nil ?_
    | refine sq_n ?_ | refine sq_ret ?_ | refine sq_exit ?_ | refine bk_n ?_ | refine bk_ret ?_ | refine bk_hit ?_ | refine bk_miss (by rfl) ?_ | refine lp_ret ?_ | refine lp_exit ?_
    | refine wc_seq (by rfl) ?_ | refine wc_block (by rfl) ?_ | refine wc_plain (by rfl) ?_ | refine wc_skip (by rfl) ?_ | refine wc_ret (by rfl) ?_ | refine wc_exit (by rfl) ?_)
  refine r_st (by rfl) (by rfl) (valC_agg _) (by rfl) upd_here (s_flat (by rfl) (by rfl)) (.inl rfl) (by rfl) ?_
  repeat (first
    | refine r_p (by rfl) (by rfl) (by rfl) ?_
    | refine r_sk (by rfl) (by rfl) ?_
    | refine wr_nil ?_
    | refine sq_n ?_ | refine sq_ret ?_ | refine sq_exit ?_ | refine bk_n ?_ | refine bk_ret ?_ | refine bk_hit ?_ | refine bk_miss (by rfl) ?_ | refine lp_ret ?_ | refine lp_exit ?_
    | refine wc_seq (by rfl) ?_ | refine wc_block (by rfl) ?_ | refine wc_plain (by rfl) ?_ | refine wc_skip (by rfl) ?_ | refine wc_ret (by rfl) ?_ | refine wc_exit (by rfl) ?_)
  refine kr_ret [_, .bool (decide (a.toNat < b.toNat))] ⟨⟨b4, 0, 45, _, _, 4, by rfl, .h (.head _), by rfl, gN_flat (by rfl), rfl⟩, ?_, trivial⟩ hx (by have hz := hx.size; repeat (first | exact trivial | refine ⟨by omega, ?_⟩)) (fun _ _ => ⟨_, rfl⟩)
  · have e : decide (¬ (((subC (limb a 3) (limb b 3) (subC (limb a 2) (limb b 2) (subC (limb a 1) (limb b 1) (subC (limb a 0) (limb b 0) 0)))) : Nat) : Int) = 0) = decide (a.toNat < b.toNat) := by
      apply decide_eq_decide.2
      have ha := word_limbs a
      have hb := word_limbs b
      have := (limb a 0).isLt; have := (limb a 1).isLt; have := (limb a 2).isLt; have := (limb a 3).isLt
      have := (limb b 0).isLt; have := (limb b 1).isLt; have := (limb b 2).isLt; have := (limb b 3).isLt
      simp only [subC] at *
      split <;> split <;> split <;> split <;> omega
    rw [← e]
    rfl

theorem c160 (a b : W256) (w : World) : CE 160 [aggC [cW a], aggC [cW b]] w (fun v _ => v = .bool (decide (a.toNat < b.toNat))) := by
  refine enter [] Hvat.func160 rfl Hvat.ntmps160 rfl (good_nil w) ?_
  repeat (first
    | refine r_p (by rfl) (by rfl) (by rfl) ?_
    | refine r_sk (by rfl) (by rfl) ?_
    | refine wr_nil ?_
    | refine sq_n ?_ | refine sq_ret ?_ | refine sq_exit ?_ | refine bk_n ?_ | refine bk_ret ?_ | refine bk_hit ?_ | refine bk_miss (by rfl) ?_ | refine lp_ret ?_ | refine lp_exit ?_
    | refine wc_seq (by rfl) ?_ | refine wc_block (by rfl) ?_ | refine wc_plain (by rfl) ?_ | refine wc_skip (by rfl) ?_ | refine wc_ret (by rfl) ?_ | refine wc_exit (by rfl) ?_)
  refine r_bx (by rfl) (valC_agg _) (by rfl) (by rfl) fun b2 hb2 => ?_
  refine r_bx (by rfl) (valC_agg _) (by rfl) (by rfl) fun b3 hb3 => ?_
  have hx := Below.refl w.heap.size w
  repeat (first
    | refine r_p (by rfl) (by rfl) (by rfl) ?_
    | refine r_sk (by rfl) (by rfl) ?_
    | refine wr_nil ?_
    | refine sq_n ?_ | refine sq_ret ?_ | refine sq_exit ?_ | refine bk_n ?_ | refine bk_ret ?_ | refine bk_hit ?_ | refine bk_miss (by rfl) ?_ | refine lp_ret ?_ | refine lp_exit ?_
    | refine wc_seq (by rfl) ?_ | refine wc_block (by rfl) ?_ | refine wc_plain (by rfl) ?_ | refine wc_skip (by rfl) ?_ | refine wc_ret (by rfl) ?_ | refine wc_exit (by rfl) ?_)
  refine r_ldN (by rfl) (by rfl) (.h (.tail _ (.head _))) (gN_flat (by rfl)) (by simp) (by rfl) (by rfl) ?_
  refine r_ldN (by rfl) (by rfl) (.h (.head _)) (gN_flat (by rfl)) (by simp) (by rfl) (by rfl) ?_
  refine r_callE Hvat.func163 (by rfl) (by rfl) hx (Nat.le_refl _) (by have hz := hx.size; repeat (first | exact trivial | refine ⟨by omega, ?_⟩)) (by rfl) (by rfl) (fun w1 _ => c163 a b w1) ?_
  rintro v w2 ⟨df, rfl⟩ hs hx
  repeat (first
    | refine r_p (by rfl) (by rfl) (by rfl) ?_
    | refine r_sk (by rfl) (by rfl) ?_
    | refine wr_nil ?_
    | refine sq_n ?_ | refine sq_ret ?_ | refine sq_exit ?_ | refine bk_n ?_ | refine bk_ret ?_ | refine bk_hit ?_ | refine bk_miss (by rfl) ?_ | refine lp_ret ?_ | refine lp_exit ?_
    | refine wc_seq (by rfl) ?_ | refine wc_block (by rfl) ?_ | refine wc_plain (by rfl) ?_ | refine wc_skip (by rfl) ?_ | refine wc_ret (by rfl) ?_ | refine wc_exit (by rfl) ?_)
  refine r_al z45 (by rfl) (by rfl) fun b5 hb5 => ?_
  refine r_st (by rfl) (by rfl) (valC_agg _) (by rfl) upd_here (s_flat (by rfl) (by rfl)) (.inl rfl) (by rfl) ?_
  repeat (first
    | refine r_p (by rfl) (by rfl) (by rfl) ?_
    | refine r_sk (by rfl) (by rfl) ?_
    | refine wr_nil ?_
    | refine sq_n ?_ | refine sq_ret ?_ | refine sq_exit ?_ | refine bk_n ?_ | refine bk_ret ?_ | refine bk_hit ?_ | refine bk_miss (by rfl) ?_ | refine lp_ret ?_ | refine lp_exit ?_
    | refine wc_seq (by rfl) ?_ | refine wc_block (by rfl) ?_ | refine wc_plain (by rfl) ?_ | refine wc_skip (by rfl) ?_ | refine wc_ret (by rfl) ?_ | refine wc_exit (by rfl) ?_)
  exact kr_ret [_] ⟨by rfl, trivial⟩ hx (by have hz := hx.size; repeat (first | exact trivial | refine ⟨by omega, ?_⟩)) (fun _ _ => rfl)

theorem or4_zero (a : W256) : decide ((((limb a 0 ||| limb a 1 ||| limb a 2 ||| limb a 3).toNat : Nat) : Int) = 0) = decide (a = 0#256) := by
  apply decide_eq_decide.2
  have ha := word_limbs a
  constructor
  · intro h
    have h0 : (limb a 0 ||| limb a 1 ||| limb a 2 ||| limb a 3) = 0#64 := BitVec.eq_of_toNat_eq (by simpa using h)
    simp only [BitVec.or_eq_zero_iff] at h0
    obtain ⟨⟨⟨h0, h1⟩, h2⟩, h3⟩ := h0
    rw [h0, h1, h2, h3] at ha
    exact BitVec.eq_of_toNat_eq (by simpa using ha)
  · intro h
    subst h
    rfl

theorem c69 (a : W256) (w : World) : CE 69 [aggC [cW a]] w (fun v _ => v = .bool (decide (a = 0#256))) := by
  refine enter [] Hvat.func69 rfl Hvat.ntmps69 rfl (good_nil w) ?_
  repeat (first
    | refine r_p (by rfl) (by rfl) (by rfl) ?_
    | refine r_sk (by rfl) (by rfl) ?_
    | refine wr_nil ?_
    | refine sq_n ?_ | refine sq_ret ?_ | refine sq_exit ?_ | refine bk_n ?_ | refine bk_ret ?_ | refine bk_hit ?_ | refine bk_miss (by rfl) ?_ | refine lp_ret ?_ | refine lp_exit ?_
    | refine wc_seq (by rfl) ?_ | refine wc_block (by rfl) ?_ | refine wc_plain (by rfl) ?_ | refine wc_skip (by rfl) ?_ | refine wc_ret (by rfl) ?_ | refine wc_exit (by rfl) ?_)
  refine r_bx (by rfl) (valC_agg _) (by rfl) (by rfl) fun b2 hb2 => ?_
  repeat (first
    | refine r_p (by rfl) (by rfl) (by rfl) ?_ | refine r_sk (by rfl) (by rfl) ?_ | refine wr_nil ?_ | refine sq_n ?_ | refine sq_ret ?_ | refine sq_exit ?_ | refine bk_n ?_ | refine bk_ret ?_ | refine bk_hit ?_ | refine bk_miss (by rfl) ?_ | refine lp_ret ?_ | refine lp_exit ?_ | refine wc_seq (by rfl) ?_ | refine wc_block (by rfl) ?_ | refine wc_plain (by rfl) ?_ | refine wc_skip (by rfl) ?_ | refine wc_ret (by rfl) ?_ | refine wc_exit (by rfl) ?_
    | refine r_ld1 (by rfl) (by rfl) (.h (.head _)) (g1_word (by rfl) (by rfl)) (by simp) (by rfl) (by rfl) ?_
    | refine r_uor (by rfl) rfl (by rfl) rfl (by rfl) (by rfl) ?_)
  exact kr_ret [_] ⟨by rfl, trivial⟩ (Below.refl _ _) (by repeat (first | exact trivial | refine ⟨by omega, ?_⟩)) (fun _ _ => by rw [← or4_zero]; rfl)

/-! ### Bytes and numbers -/
theorem beN_snoc (l : List UInt8) (x : UInt8) : beN (l ++ [x]) = beN l * 256 + x.toNat := by simp [beN, List.foldl_append]
theorem beB_succ (n x : Nat) : beB (n + 1) x = beB n (x / 256) ++ [UInt8.ofNat (x % 256)] := by
  unfold beB
  rw [List.range_succ, List.map_append]
  congr 1
  · apply List.map_congr_left
    intro i hi
    have hi := List.mem_range.1 hi
    rw [show n + 1 - 1 - i = (n - 1 - i) + 1 by omega, Nat.pow_succ, Nat.mul_comm (256 ^ _), ← Nat.div_div_eq_div_mul]
  · simp
theorem beB_len (n x : Nat) : (beB n x).length = n := by simp [beB]
theorem beB_append (m n x : Nat) : beB (m + n) x = beB m (x / 256 ^ n) ++ beB n x := by
  induction n generalizing x with
  | zero => simp [beB]
  | succ n ih =>
    rw [← Nat.add_assoc, beB_succ, ih, beB_succ n x, Nat.pow_succ, Nat.mul_comm, ← Nat.div_div_eq_div_mul, List.append_assoc]
theorem beN_beB (n x : Nat) : beN (beB n x) = x % 256 ^ n := by
  induction n generalizing x with
  | zero => simp [beB, beN, Nat.mod_one]
  | succ n ih =>
    rw [beB_succ, beN_snoc, ih]
    have : (UInt8.ofNat (x % 256)).toNat = x % 256 := by simp
    rw [this, Nat.pow_succ, Nat.mul_comm (256 ^ n) 256, Nat.mod_mul]
    omega
/-- Eight bytes of a longer number. -/
theorem be_slice (k m x : Nat) : ((beB (k + (8 + m)) x).drop k).take 8 = beB 8 (x / 256 ^ m) := by
  rw [beB_append k (8 + m), List.drop_left' (beB_len _ _), beB_append 8 m, List.take_left' (beB_len _ _)]

theorem bytesAt_addr {wb : World} {H : Hp} {b t : Nat} {a : A160} (hr : Rb wb H b t (flat [cA a])) : BytesAt wb H ⟨some ⟨b, 0, none⟩, 20, 20⟩ (beB 20 a.toNat) := by
  refine ⟨by rw [beB_len], .inr ⟨b, 0, t, _, rfl, hr, ?_, ?_⟩⟩
  · rw [flat1, ← beL_bL, beB_len]; exact List.take_of_length_le (by simp [cA, beL_len])
  · rw [flat1, beB_len]; simp [cA, beL_len]
theorem bytesAt_y {wb : World} {H : Hp} {b t : Nat} {a : W256} (hr : Rb wb H b t (flat [cY a])) : BytesAt wb H ⟨some ⟨b, 0, none⟩, 32, 32⟩ (beB 32 a.toNat) := by
  refine ⟨by rw [beB_len], .inr ⟨b, 0, t, _, rfl, hr, ?_, ?_⟩⟩
  · rw [flat1, ← beL_bL, beB_len]; exact List.take_of_length_le (by simp [cY, beL_len])
  · rw [flat1, beB_len]; simp [cY, beL_len]

theorem c60a (b : Nat) (t : Nat) (a : A160) (k m : Nat) (hk : k + (8 + m) = 20) (n : Int) (hn : n = (k : Int)) (w : World) (ho : Own w b t (flat [cA a])) :
    CE 60 [.slice (some ⟨b, 0, none⟩) 20 20, .int .i64 n] w (fun v _ => v = .tuple #[.int .u64 ((a.toNat / 256 ^ m % 2 ^ 64 : Nat) : Int), .bool true]) := by
  subst hn
  have h := c60 ⟨some ⟨b, 0, none⟩, 20, 20⟩ (beB 20 a.toNat) k w (bytesAt_addr (.inr ⟨ho, by simp [keys]⟩)) (by rw [beB_len]; omega) (by simp) (by rw [beB_len]; omega)
  have e : beN (((beB 20 a.toNat).drop k).take 8) = a.toNat / 256 ^ m % 2 ^ 64 := by
    rw [← hk, be_slice, beN_beB]
  rw [e] at h
  exact h
theorem c60y (b : Nat) (t : Nat) (a : W256) (k m : Nat) (hk : k + (8 + m) = 32) (n : Int) (hn : n = (k : Int)) (w : World) (ho : Own w b t (flat [cY a])) :
    CE 60 [.slice (some ⟨b, 0, none⟩) 32 32, .int .i64 n] w (fun v _ => v = .tuple #[.int .u64 ((a.toNat / 256 ^ m % 2 ^ 64 : Nat) : Int), .bool true]) := by
  subst hn
  have h := c60 ⟨some ⟨b, 0, none⟩, 32, 32⟩ (beB 32 a.toNat) k w (bytesAt_y (.inr ⟨ho, by simp [keys]⟩)) (by rw [beB_len]; omega) (by simp) (by rw [beB_len]; omega)
  have e : beN (((beB 32 a.toNat).drop k).take 8) = a.toNat / 256 ^ m % 2 ^ 64 := by
    rw [← hk, be_slice, beN_beB]
  rw [e] at h
  exact h

def u64of (n : Nat) : U64 := BitVec.ofNat 64 n
theorem u64of_toNat (n : Nat) : (u64of n).toNat = n % 2 ^ 64 := by simp [u64of]

/-! ### FromBytes -/
theorem c12 (x : W256) (w : World) : CE 12 [aggC [cY x]] w (fun v _ => v = aggC [cW x]) := by
  refine enter [] Hvat.func12 rfl Hvat.ntmps12 rfl (good_nil w) ?_
  repeat (first
    | refine r_p (by rfl) (by rfl) (by rfl) ?_
    | refine r_sk (by rfl) (by rfl) ?_
    | refine wr_nil ?_
    | refine sq_n ?_ | refine sq_ret ?_ | refine sq_exit ?_ | refine bk_n ?_ | refine bk_ret ?_ | refine bk_hit ?_ | refine bk_miss (by rfl) ?_ | refine lp_ret ?_ | refine lp_exit ?_
    | refine wc_seq (by rfl) ?_ | refine wc_block (by rfl) ?_ | refine wc_plain (by rfl) ?_ | refine wc_skip (by rfl) ?_ | refine wc_ret (by rfl) ?_ | refine wc_exit (by rfl) ?_)
  refine r_bx (by rfl) (valC_agg _) (by rfl) (by rfl) fun b1 hb1 => ?_
  refine r_al z45 (by rfl) (by rfl) fun b2 hb2 => ?_
  have hx := Below.refl w.heap.size w
  repeat (first
    | refine r_p (by rfl) (by rfl) (by rfl) ?_
    | refine r_sk (by rfl) (by rfl) ?_
    | refine wr_nil ?_
    | refine sq_n ?_ | refine sq_ret ?_ | refine sq_exit ?_ | refine bk_n ?_ | refine bk_ret ?_ | refine bk_hit ?_ | refine bk_miss (by rfl) ?_ | refine lp_ret ?_ | refine lp_exit ?_
    | refine wc_seq (by rfl) ?_ | refine wc_block (by rfl) ?_ | refine wc_plain (by rfl) ?_ | refine wc_skip (by rfl) ?_ | refine wc_ret (by rfl) ?_ | refine wc_exit (by rfl) ?_)
  refine r_callE Hvat.func60 (by rfl) (by rfl) hx (Nat.le_refl _) (by have hz := hx.size; repeat (first | exact trivial | refine ⟨by omega, ?_⟩)) (by rfl) (by rfl) (fun w1 hG => c60y b1 35 x 0 24 (by rfl) _ rfl w1 (hG.own _ (.tail _ (.head _)))) ?_
  rintro v w0 rfl hs hx
  repeat (first
    | refine r_p (by rfl) (by rfl) (by rfl) ?_
    | refine r_sk (by rfl) (by rfl) ?_
    | refine wr_nil ?_
    | refine sq_n ?_ | refine sq_ret ?_ | refine sq_exit ?_ | refine bk_n ?_ | refine bk_ret ?_ | refine bk_hit ?_ | refine bk_miss (by rfl) ?_ | refine lp_ret ?_ | refine lp_exit ?_
    | refine wc_seq (by rfl) ?_ | refine wc_block (by rfl) ?_ | refine wc_plain (by rfl) ?_ | refine wc_skip (by rfl) ?_ | refine wc_ret (by rfl) ?_ | refine wc_exit (by rfl) ?_)
  refine r_callE Hvat.func60 (by rfl) (by rfl) hx (Nat.le_refl _) (by have hz := hx.size; repeat (first | exact trivial | refine ⟨by omega, ?_⟩)) (by rfl) (by rfl) (fun w1 hG => c60y b1 35 x 8 16 (by rfl) _ rfl w1 (hG.own _ (.tail _ (.head _)))) ?_
  rintro v w8 rfl hs hx
  repeat (first
    | refine r_p (by rfl) (by rfl) (by rfl) ?_
    | refine r_sk (by rfl) (by rfl) ?_
    | refine wr_nil ?_
    | refine sq_n ?_ | refine sq_ret ?_ | refine sq_exit ?_ | refine bk_n ?_ | refine bk_ret ?_ | refine bk_hit ?_ | refine bk_miss (by rfl) ?_ | refine lp_ret ?_ | refine lp_exit ?_
    | refine wc_seq (by rfl) ?_ | refine wc_block (by rfl) ?_ | refine wc_plain (by rfl) ?_ | refine wc_skip (by rfl) ?_ | refine wc_ret (by rfl) ?_ | refine wc_exit (by rfl) ?_)
  refine r_callE Hvat.func60 (by rfl) (by rfl) hx (Nat.le_refl _) (by have hz := hx.size; repeat (first | exact trivial | refine ⟨by omega, ?_⟩)) (by rfl) (by rfl) (fun w1 hG => c60y b1 35 x 16 8 (by rfl) _ rfl w1 (hG.own _ (.tail _ (.head _)))) ?_
  rintro v w16 rfl hs hx
  repeat (first
    | refine r_p (by rfl) (by rfl) (by rfl) ?_
    | refine r_sk (by rfl) (by rfl) ?_
    | refine wr_nil ?_
    | refine sq_n ?_ | refine sq_ret ?_ | refine sq_exit ?_ | refine bk_n ?_ | refine bk_ret ?_ | refine bk_hit ?_ | refine bk_miss (by rfl) ?_ | refine lp_ret ?_ | refine lp_exit ?_
    | refine wc_seq (by rfl) ?_ | refine wc_block (by rfl) ?_ | refine wc_plain (by rfl) ?_ | refine wc_skip (by rfl) ?_ | refine wc_ret (by rfl) ?_ | refine wc_exit (by rfl) ?_)
  refine r_callE Hvat.func60 (by rfl) (by rfl) hx (Nat.le_refl _) (by have hz := hx.size; repeat (first | exact trivial | refine ⟨by omega, ?_⟩)) (by rfl) (by rfl) (fun w1 hG => c60y b1 35 x 24 0 (by rfl) _ rfl w1 (hG.own _ (.tail _ (.head _)))) ?_
  rintro v w24 rfl hs hx
  repeat (first
    | refine r_p (by rfl) (by rfl) (by rfl) ?_
    | refine r_sk (by rfl) (by rfl) ?_
    | refine wr_nil ?_
    | refine sq_n ?_ | refine sq_ret ?_ | refine sq_exit ?_ | refine bk_n ?_ | refine bk_ret ?_ | refine bk_hit ?_ | refine bk_miss (by rfl) ?_ | refine lp_ret ?_ | refine lp_exit ?_
    | refine wc_seq (by rfl) ?_ | refine wc_block (by rfl) ?_ | refine wc_plain (by rfl) ?_ | refine wc_skip (by rfl) ?_ | refine wc_ret (by rfl) ?_ | refine wc_exit (by rfl) ?_)
  rw [← u64of_toNat, ← u64of_toNat, ← u64of_toNat, ← u64of_toNat]
  refine r_bw4 (by rfl) (by rfl) (by rfl) (by rfl) (by rfl) (by rfl) ?_
  repeat (first
    | refine r_p (by rfl) (by rfl) (by rfl) ?_
    | refine r_sk (by rfl) (by rfl) ?_
    | refine wr_nil ?_
    | refine sq_n ?_ | refine sq_ret ?_ | refine sq_exit ?_ | refine bk_n ?_ | refine bk_ret ?_ | refine bk_hit ?_ | refine bk_miss (by rfl) ?_ | refine lp_ret ?_ | refine lp_exit ?_
    | refine wc_seq (by rfl) ?_ | refine wc_block (by rfl) ?_ | refine wc_plain (by rfl) ?_ | refine wc_skip (by rfl) ?_ | refine wc_ret (by rfl) ?_ | refine wc_exit (by rfl) ?_)
  refine r_st (by rfl) (by rfl) (valC_agg _) (by rfl) upd_here (s_flat (by rfl) (by rfl)) (.inl rfl) (by rfl) ?_
  repeat (first
    | refine r_p (by rfl) (by rfl) (by rfl) ?_
    | refine r_sk (by rfl) (by rfl) ?_
    | refine wr_nil ?_
    | refine sq_n ?_ | refine sq_ret ?_ | refine sq_exit ?_ | refine bk_n ?_ | refine bk_ret ?_ | refine bk_hit ?_ | refine bk_miss (by rfl) ?_ | refine lp_ret ?_ | refine lp_exit ?_
    | refine wc_seq (by rfl) ?_ | refine wc_block (by rfl) ?_ | refine wc_plain (by rfl) ?_ | refine wc_skip (by rfl) ?_ | refine wc_ret (by rfl) ?_ | refine wc_exit (by rfl) ?_)
  refine kr_ret [aggC [cW x]] ⟨⟨b2, 0, 45, _, [cW x], 4, by rfl, .h (.head _), by rfl, ?_, rfl⟩, trivial⟩ hx (by have hz := hx.size; repeat (first | exact trivial | refine ⟨by omega, ?_⟩)) (fun _ _ => rfl)
  have e : mkW (u64of (x.toNat / 256 ^ 0)) (u64of (x.toNat / 256 ^ 8)) (u64of (x.toNat / 256 ^ 16)) (u64of (x.toNat / 256 ^ 24)) = x := by
    apply BitVec.eq_of_toNat_eq
    have := x.isLt
    simp only [mkW_toNat, u64of_toNat]
    omega
  rw [e]
  exact gN_flat (by rfl)

/-! ### The homes -/
def acctHome (a : A160) : Nat :=
  (foldM (foldM (foldM (foldM 2611923443488327891#64 (u64of (a.toNat / 256 ^ 12))) (u64of (a.toNat / 256 ^ 4))) (u64of (a.toNat / 256 ^ 0))) 1376283091369227076#64).toNat % 4096
theorem acctHome_lt (a : A160) : acctHome a < 4096 := Nat.mod_lt _ (by decide)

theorem c122 (a : A160) (w : World) : CE 122 [aggC [cA a]] w (fun v _ => v = .int .u32 (acctHome a)) := by
  refine enter [] Hvat.func122 rfl Hvat.ntmps122 rfl (good_nil w) ?_
  repeat (first
    | refine r_p (by rfl) (by rfl) (by rfl) ?_
    | refine r_sk (by rfl) (by rfl) ?_
    | refine wr_nil ?_
    | refine sq_n ?_ | refine sq_ret ?_ | refine sq_exit ?_ | refine bk_n ?_ | refine bk_ret ?_ | refine bk_hit ?_ | refine bk_miss (by rfl) ?_ | refine lp_ret ?_ | refine lp_exit ?_
    | refine wc_seq (by rfl) ?_ | refine wc_block (by rfl) ?_ | refine wc_plain (by rfl) ?_ | refine wc_skip (by rfl) ?_ | refine wc_ret (by rfl) ?_ | refine wc_exit (by rfl) ?_)
  refine r_bx (by rfl) (valC_agg _) (by rfl) (by rfl) fun b1 hb1 => ?_
  have hx := Below.refl w.heap.size w
  repeat (first
    | refine r_p (by rfl) (by rfl) (by rfl) ?_
    | refine r_sk (by rfl) (by rfl) ?_
    | refine wr_nil ?_
    | refine sq_n ?_ | refine sq_ret ?_ | refine sq_exit ?_ | refine bk_n ?_ | refine bk_ret ?_ | refine bk_hit ?_ | refine bk_miss (by rfl) ?_ | refine lp_ret ?_ | refine lp_exit ?_
    | refine wc_seq (by rfl) ?_ | refine wc_block (by rfl) ?_ | refine wc_plain (by rfl) ?_ | refine wc_skip (by rfl) ?_ | refine wc_ret (by rfl) ?_ | refine wc_exit (by rfl) ?_)
  refine r_callE Hvat.func60 (by rfl) (by rfl) hx (Nat.le_refl _) (by have hz := hx.size; repeat (first | exact trivial | refine ⟨by omega, ?_⟩)) (by rfl) (by rfl) (fun w1 hG => c60a b1 34 a 0 12 (by rfl) _ rfl w1 (hG.own _ (.head _))) ?_
  rintro v w0 rfl hs hx
  repeat (first
    | refine r_p (by rfl) (by rfl) (by rfl) ?_
    | refine r_sk (by rfl) (by rfl) ?_
    | refine wr_nil ?_
    | refine sq_n ?_ | refine sq_ret ?_ | refine sq_exit ?_ | refine bk_n ?_ | refine bk_ret ?_ | refine bk_hit ?_ | refine bk_miss (by rfl) ?_ | refine lp_ret ?_ | refine lp_exit ?_
    | refine wc_seq (by rfl) ?_ | refine wc_block (by rfl) ?_ | refine wc_plain (by rfl) ?_ | refine wc_skip (by rfl) ?_ | refine wc_ret (by rfl) ?_ | refine wc_exit (by rfl) ?_)
  refine r_callE Hvat.func60 (by rfl) (by rfl) hx (Nat.le_refl _) (by have hz := hx.size; repeat (first | exact trivial | refine ⟨by omega, ?_⟩)) (by rfl) (by rfl) (fun w1 hG => c60a b1 34 a 8 4 (by rfl) _ rfl w1 (hG.own _ (.head _))) ?_
  rintro v w8 rfl hs hx
  repeat (first
    | refine r_p (by rfl) (by rfl) (by rfl) ?_
    | refine r_sk (by rfl) (by rfl) ?_
    | refine wr_nil ?_
    | refine sq_n ?_ | refine sq_ret ?_ | refine sq_exit ?_ | refine bk_n ?_ | refine bk_ret ?_ | refine bk_hit ?_ | refine bk_miss (by rfl) ?_ | refine lp_ret ?_ | refine lp_exit ?_
    | refine wc_seq (by rfl) ?_ | refine wc_block (by rfl) ?_ | refine wc_plain (by rfl) ?_ | refine wc_skip (by rfl) ?_ | refine wc_ret (by rfl) ?_ | refine wc_exit (by rfl) ?_)
  refine r_callE Hvat.func60 (by rfl) (by rfl) hx (Nat.le_refl _) (by have hz := hx.size; repeat (first | exact trivial | refine ⟨by omega, ?_⟩)) (by rfl) (by rfl) (fun w1 hG => c60a b1 34 a 12 0 (by rfl) _ rfl w1 (hG.own _ (.head _))) ?_
  rintro v w12 rfl hs hx
  repeat (first
    | refine r_p (by rfl) (by rfl) (by rfl) ?_
    | refine r_sk (by rfl) (by rfl) ?_
    | refine wr_nil ?_
    | refine sq_n ?_ | refine sq_ret ?_ | refine sq_exit ?_ | refine bk_n ?_ | refine bk_ret ?_ | refine bk_hit ?_ | refine bk_miss (by rfl) ?_ | refine lp_ret ?_ | refine lp_exit ?_
    | refine wc_seq (by rfl) ?_ | refine wc_block (by rfl) ?_ | refine wc_plain (by rfl) ?_ | refine wc_skip (by rfl) ?_ | refine wc_ret (by rfl) ?_ | refine wc_exit (by rfl) ?_)
  rw [← u64of_toNat, ← u64of_toNat, ← u64of_toNat]
  refine r_callE Hvat.func149 (by rfl) (by rfl) hx (Nat.le_refl _) (by have hz := hx.size; repeat (first | exact trivial | refine ⟨by omega, ?_⟩)) (by rfl) (by rfl) (fun w1 _ => c149 2611923443488327891#64 _ _ _ (by rfl) rfl w1) ?_
  rintro v w20 rfl hs hx
  repeat (first
    | refine r_p (by rfl) (by rfl) (by rfl) ?_
    | refine r_sk (by rfl) (by rfl) ?_
    | refine wr_nil ?_
    | refine sq_n ?_ | refine sq_ret ?_ | refine sq_exit ?_ | refine bk_n ?_ | refine bk_ret ?_ | refine bk_hit ?_ | refine bk_miss (by rfl) ?_ | refine lp_ret ?_ | refine lp_exit ?_
    | refine wc_seq (by rfl) ?_ | refine wc_block (by rfl) ?_ | refine wc_plain (by rfl) ?_ | refine wc_skip (by rfl) ?_ | refine wc_ret (by rfl) ?_ | refine wc_exit (by rfl) ?_)
  refine r_callE Hvat.func149 (by rfl) (by rfl) hx (Nat.le_refl _) (by have hz := hx.size; repeat (first | exact trivial | refine ⟨by omega, ?_⟩)) (by rfl) (by rfl) (fun w1 _ => c149 _ _ _ _ rfl rfl w1) ?_
  rintro v w21 rfl hs hx
  repeat (first
    | refine r_p (by rfl) (by rfl) (by rfl) ?_
    | refine r_sk (by rfl) (by rfl) ?_
    | refine wr_nil ?_
    | refine sq_n ?_ | refine sq_ret ?_ | refine sq_exit ?_ | refine bk_n ?_ | refine bk_ret ?_ | refine bk_hit ?_ | refine bk_miss (by rfl) ?_ | refine lp_ret ?_ | refine lp_exit ?_
    | refine wc_seq (by rfl) ?_ | refine wc_block (by rfl) ?_ | refine wc_plain (by rfl) ?_ | refine wc_skip (by rfl) ?_ | refine wc_ret (by rfl) ?_ | refine wc_exit (by rfl) ?_)
  refine r_callE Hvat.func149 (by rfl) (by rfl) hx (Nat.le_refl _) (by have hz := hx.size; repeat (first | exact trivial | refine ⟨by omega, ?_⟩)) (by rfl) (by rfl) (fun w1 _ => c149 _ _ _ _ rfl rfl w1) ?_
  rintro v w22 rfl hs hx
  repeat (first
    | refine r_p (by rfl) (by rfl) (by rfl) ?_
    | refine r_sk (by rfl) (by rfl) ?_
    | refine wr_nil ?_
    | refine sq_n ?_ | refine sq_ret ?_ | refine sq_exit ?_ | refine bk_n ?_ | refine bk_ret ?_ | refine bk_hit ?_ | refine bk_miss (by rfl) ?_ | refine lp_ret ?_ | refine lp_exit ?_
    | refine wc_seq (by rfl) ?_ | refine wc_block (by rfl) ?_ | refine wc_plain (by rfl) ?_ | refine wc_skip (by rfl) ?_ | refine wc_ret (by rfl) ?_ | refine wc_exit (by rfl) ?_)
  refine r_callE Hvat.func149 (by rfl) (by rfl) hx (Nat.le_refl _) (by have hz := hx.size; repeat (first | exact trivial | refine ⟨by omega, ?_⟩)) (by rfl) (by rfl) (fun w1 _ => c149 _ 1376283091369227076#64 _ _ rfl (by rfl) w1) ?_
  rintro v w23 rfl hs hx
  refine r_rem (q := 4096) (by rfl) rfl (by rfl) (by rfl) (by rfl) (by rfl) (by rfl) ?_
  have hlt := acctHome_lt a
  unfold acctHome at hlt
  refine r_cv (by rfl) (by rfl) (by rfl) (by exact ⟨by omega, by omega⟩) (by rfl) (by rfl) ?_
  repeat (first
    | refine r_p (by rfl) (by rfl) (by rfl) ?_
    | refine r_sk (by rfl) (by rfl) ?_
    | refine wr_nil ?_
    | refine sq_n ?_ | refine sq_ret ?_ | refine sq_exit ?_ | refine bk_n ?_ | refine bk_ret ?_ | refine bk_hit ?_ | refine bk_miss (by rfl) ?_ | refine lp_ret ?_ | refine lp_exit ?_
    | refine wc_seq (by rfl) ?_ | refine wc_block (by rfl) ?_ | refine wc_plain (by rfl) ?_ | refine wc_skip (by rfl) ?_ | refine wc_ret (by rfl) ?_ | refine wc_exit (by rfl) ?_)
  exact kr_ret [_] ⟨by rfl, trivial⟩ hx (by have hz := hx.size; repeat (first | exact trivial | refine ⟨by omega, ?_⟩)) (fun _ _ => rfl)

def mixTo (acct : Nat) (key : W256) : Nat → U64
  | 0 => foldM 2611923443488327891#64 (u64of acct)
  | k + 1 => foldM (mixTo acct key k) (limb key k)
def mixM (acct : Nat) (key : W256) : U64 := foldM (mixTo acct key 4) 1376283091369227076#64
def slotHome (acct : Nat) (key : W256) : Nat := (mixM acct key).toNat % 4096

theorem r_idx {N : Nat} {ops : Array Oper} {X : List Nat} {K : World → Env → Hp → Prop} {wb : World} {E : Env} {H : Hp} {r : List (Bool × Bool × Oper)} {ns : Bool}
    {d ty : Nat} {pos : String} {af : Array Edge} {g : Option (Nat × Bool)} {x y : Operand} {k : IntKind} {m : Int} {i : Nat} {a : W256} (hx : ev E x = some (aggC [cW a])) (hy : ev E y = some (.int k m)) (hm : m = (i : Int)) (hi : i < 4)
    (hg : gd ops E ⟨some d, .index 45 x y, ty, pos, af, g⟩ = some true) (hN : Nat.blt d N = true)
    (h : WR N ops X r K wb ((d, .int .u64 ((limb a i).toNat : Int)) :: E) H) : WR N ops X ((true, ns, ⟨some d, .index 45 x y, ty, pos, af, g⟩) :: r) K wb E H := by
  subst hm
  have ⟨j, hj, hs⟩ := i27
  refine wr_q hg rfl hN (fun ac w hst w' _ => ?_) h
  have hv : ac.eval x = .agg (flat [cW a]).toArray := hst.on.eval hx
  have hp := part_scal (t := 27) (c := flat [cW a]) (o := i) (v := .int .u64 ((limb a i).toNat : Int)) (by rfl) (by
    have := g1_word (cs := [cW a]) (o := 0) (i := i) (x := a) rfl (by simpa [Nat.blt_eq] using hi)
    simpa using this) w'
  have hi' : (i : Int) < 4 := by omega
  simp [execOp, hv, hst.on.eval hy, Instr.index, asIntOf, underlying, und45, hi', hi, sizeOf, typeInfo, hj, hs, hp]

theorem c124 (acct : Nat) (hacct : acct < 2147483648) (key : W256) (w : World) : CE 124 [.int .i32 acct, aggC [cW key]] w (fun v _ => v = .int .u64 (mixM acct key).toNat) := by
  refine enter [] Hvat.func124 rfl Hvat.ntmps124 rfl (good_nil w) ?_
  repeat (first
    | refine r_p (by rfl) (by rfl) (by rfl) ?_
    | refine r_sk (by rfl) (by rfl) ?_
    | refine wr_nil ?_
    | refine sq_n ?_ | refine sq_ret ?_ | refine sq_exit ?_ | refine bk_n ?_ | refine bk_ret ?_ | refine bk_hit ?_ | refine bk_miss (by rfl) ?_ | refine lp_ret ?_ | refine lp_exit ?_
    | refine wc_seq (by rfl) ?_ | refine wc_block (by rfl) ?_ | refine wc_plain (by rfl) ?_ | refine wc_skip (by rfl) ?_ | refine wc_ret (by rfl) ?_ | refine wc_exit (by rfl) ?_)
  refine r_bx (by rfl) (valC_agg _) (by rfl) (by rfl) fun b3 hb3 => ?_
  have hx := Below.refl w.heap.size w
  repeat (first
    | refine r_p (by rfl) (by rfl) (by rfl) ?_
    | refine r_sk (by rfl) (by rfl) ?_
    | refine wr_nil ?_
    | refine sq_n ?_ | refine sq_ret ?_ | refine sq_exit ?_ | refine bk_n ?_ | refine bk_ret ?_ | refine bk_hit ?_ | refine bk_miss (by rfl) ?_ | refine lp_ret ?_ | refine lp_exit ?_
    | refine wc_seq (by rfl) ?_ | refine wc_block (by rfl) ?_ | refine wc_plain (by rfl) ?_ | refine wc_skip (by rfl) ?_ | refine wc_ret (by rfl) ?_ | refine wc_exit (by rfl) ?_)
  refine r_cv (by rfl) (by rfl) (by rfl) (by exact ⟨by omega, by omega⟩) (by rfl) (by rfl) ?_
  refine r_cv (by rfl) (by rfl) (by rfl) (by exact ⟨by omega, by omega⟩) (by rfl) (by rfl) ?_
  have hu : ((acct : Nat) : Int) = ((u64of acct).toNat : Int) := by rw [u64of_toNat]; omega
  refine r_callE Hvat.func149 (by rfl) (by rfl) hx (Nat.le_refl _) (by have hz := hx.size; repeat (first | exact trivial | refine ⟨by omega, ?_⟩)) (by rfl) (by rfl) (fun w1 _ => c149 2611923443488327891#64 (u64of acct) _ _ (by rfl) hu w1) ?_
  rintro v w2 rfl hs hx
  repeat (first
    | refine r_p (by rfl) (by rfl) (by rfl) ?_
    | refine r_sk (by rfl) (by rfl) ?_
    | refine wr_nil ?_
    | refine sq_n ?_ | refine sq_ret ?_ | refine sq_exit ?_ | refine bk_n ?_ | refine bk_ret ?_ | refine bk_hit ?_ | refine bk_miss (by rfl) ?_ | refine lp_ret ?_ | refine lp_exit ?_
    | refine wc_seq (by rfl) ?_ | refine wc_block (by rfl) ?_ | refine wc_plain (by rfl) ?_ | refine wc_skip (by rfl) ?_ | refine wc_ret (by rfl) ?_ | refine wc_exit (by rfl) ?_)
  refine r_ldN (by rfl) (by rfl) (.h (.head _)) (gN_flat (by rfl)) (by simp) (by rfl) (by rfl) ?_
  repeat (first
    | refine r_p (by rfl) (by rfl) (by rfl) ?_
    | refine r_sk (by rfl) (by rfl) ?_
    | refine wr_nil ?_
    | refine sq_n ?_ | refine sq_ret ?_ | refine sq_exit ?_ | refine bk_n ?_ | refine bk_ret ?_ | refine bk_hit ?_ | refine bk_miss (by rfl) ?_ | refine lp_ret ?_ | refine lp_exit ?_
    | refine wc_seq (by rfl) ?_ | refine wc_block (by rfl) ?_ | refine wc_plain (by rfl) ?_ | refine wc_skip (by rfl) ?_ | refine wc_ret (by rfl) ?_ | refine wc_exit (by rfl) ?_)
  refine wc_loop' (fun (k : Nat) wb E H => k ≤ 4 ∧ Below w.heap.size w wb ∧ E = [(13, .int .i64 k), (5, .int .u64 (mixTo acct key k).toNat), (12, aggC [cW key])] ∧ H = [(b3, 45, flat [cW key])])
    (fun k => 4 - k) (by rfl) 0 [(13, .int .i64 (0 : Nat)), (5, .int .u64 (mixTo acct key 0).toNat), (12, aggC [cW key])] (by repeat (first | exact SubE.nil _ | refine SubE.cons (by rfl) ?_)) ⟨by omega, hx, rfl, rfl⟩ ?_
  rintro k wb E H ⟨hk, hx, rfl, rfl⟩
  repeat (first
    | refine r_p (by rfl) (by rfl) (by rfl) ?_
    | refine r_sk (by rfl) (by rfl) ?_
    | refine wr_nil ?_
    | refine sq_n ?_ | refine sq_ret ?_ | refine sq_exit ?_ | refine bk_n ?_ | refine bk_ret ?_ | refine bk_hit ?_ | refine bk_miss (by rfl) ?_ | refine lp_ret ?_ | refine lp_exit ?_
    | refine wc_seq (by rfl) ?_ | refine wc_block (by rfl) ?_ | refine wc_plain (by rfl) ?_ | refine wc_skip (by rfl) ?_ | refine wc_ret (by rfl) ?_ | refine wc_exit (by rfl) ?_)
  refine wc_cond_d (by rfl) (by rfl) (fun hlt => ?_) (fun hge => ?_)
  · repeat (first
      | refine r_p (by rfl) (by rfl) (by rfl) ?_
      | refine r_sk (by rfl) (by rfl) ?_
      | refine wr_nil ?_
      | refine sq_n ?_ | refine sq_ret ?_ | refine sq_exit ?_ | refine bk_n ?_ | refine bk_ret ?_ | refine bk_hit ?_ | refine bk_miss (by rfl) ?_ | refine lp_ret ?_ | refine lp_exit ?_
      | refine wc_seq (by rfl) ?_ | refine wc_block (by rfl) ?_ | refine wc_plain (by rfl) ?_ | refine wc_skip (by rfl) ?_ | refine wc_ret (by rfl) ?_ | refine wc_exit (by rfl) ?_)
    refine r_idx (by rfl) (by rfl) rfl (by omega) (by rfl) (by rfl) ?_
    repeat (first
      | refine r_p (by rfl) (by rfl) (by rfl) ?_
      | refine r_sk (by rfl) (by rfl) ?_
      | refine wr_nil ?_
      | refine sq_n ?_ | refine sq_ret ?_ | refine sq_exit ?_ | refine bk_n ?_ | refine bk_ret ?_ | refine bk_hit ?_ | refine bk_miss (by rfl) ?_ | refine lp_ret ?_ | refine lp_exit ?_
      | refine wc_seq (by rfl) ?_ | refine wc_block (by rfl) ?_ | refine wc_plain (by rfl) ?_ | refine wc_skip (by rfl) ?_ | refine wc_ret (by rfl) ?_ | refine wc_exit (by rfl) ?_)
    refine r_callE Hvat.func149 (by rfl) (by rfl) hx (Nat.le_refl _) (by have hz := hx.size; repeat (first | exact trivial | refine ⟨by omega, ?_⟩)) (by rfl) (by rfl) (fun w1 _ => c149 _ _ _ _ rfl rfl w1) ?_
    rintro v w3 rfl hs hx
    repeat (first
      | refine r_p (by rfl) (by rfl) (by rfl) ?_
      | refine r_sk (by rfl) (by rfl) ?_
      | refine wr_nil ?_
      | refine sq_n ?_ | refine sq_ret ?_ | refine sq_exit ?_ | refine bk_n ?_ | refine bk_ret ?_ | refine bk_hit ?_ | refine bk_miss (by rfl) ?_ | refine lp_ret ?_ | refine lp_exit ?_
      | refine wc_seq (by rfl) ?_ | refine wc_block (by rfl) ?_ | refine wc_plain (by rfl) ?_ | refine wc_skip (by rfl) ?_ | refine wc_ret (by rfl) ?_ | refine wc_exit (by rfl) ?_)
    refine r_add (by rfl) (by rfl) (by exact ⟨by omega, by omega⟩) (by rfl) (by rfl) ?_
    repeat (first
      | refine r_p (by rfl) (by rfl) (by rfl) ?_
      | refine r_sk (by rfl) (by rfl) ?_
      | refine wr_nil ?_
      | refine sq_n ?_ | refine sq_ret ?_ | refine sq_exit ?_ | refine bk_n ?_ | refine bk_ret ?_ | refine bk_hit ?_ | refine bk_miss (by rfl) ?_ | refine lp_ret ?_ | refine lp_exit ?_
      | refine wc_seq (by rfl) ?_ | refine wc_block (by rfl) ?_ | refine wc_plain (by rfl) ?_ | refine wc_skip (by rfl) ?_ | refine wc_ret (by rfl) ?_ | refine wc_exit (by rfl) ?_)
    exact lp_n (k + 1) _ ⟨by omega, hx, rfl, rfl⟩ (by repeat (first | exact SubE.nil _ | refine SubE.cons (by rfl) ?_)) (by omega)
  · have hk4 : k = 4 := by omega
    subst hk4
    repeat (first
      | refine r_p (by rfl) (by rfl) (by rfl) ?_
      | refine r_sk (by rfl) (by rfl) ?_
      | refine wr_nil ?_
      | refine sq_n ?_ | refine sq_ret ?_ | refine sq_exit ?_ | refine bk_n ?_ | refine bk_ret ?_ | refine bk_hit ?_ | refine bk_miss (by rfl) ?_ | refine lp_ret ?_ | refine lp_exit ?_
      | refine wc_seq (by rfl) ?_ | refine wc_block (by rfl) ?_ | refine wc_plain (by rfl) ?_ | refine wc_skip (by rfl) ?_ | refine wc_ret (by rfl) ?_ | refine wc_exit (by rfl) ?_)
    refine r_callE Hvat.func149 (by rfl) (by rfl) hx (Nat.le_refl _) (by have hz := hx.size; repeat (first | exact trivial | refine ⟨by omega, ?_⟩)) (by rfl) (by rfl) (fun w1 _ => c149 _ 1376283091369227076#64 _ _ rfl (by rfl) w1) ?_
    rintro v w3 rfl hs hx
    repeat (first
      | refine r_p (by rfl) (by rfl) (by rfl) ?_
      | refine r_sk (by rfl) (by rfl) ?_
      | refine wr_nil ?_
      | refine sq_n ?_ | refine sq_ret ?_ | refine sq_exit ?_ | refine bk_n ?_ | refine bk_ret ?_ | refine bk_hit ?_ | refine bk_miss (by rfl) ?_ | refine lp_ret ?_ | refine lp_exit ?_
      | refine wc_seq (by rfl) ?_ | refine wc_block (by rfl) ?_ | refine wc_plain (by rfl) ?_ | refine wc_skip (by rfl) ?_ | refine wc_ret (by rfl) ?_ | refine wc_exit (by rfl) ?_)
    exact kr_ret [_] ⟨by rfl, trivial⟩ hx (by have hz := hx.size; repeat (first | exact trivial | refine ⟨by omega, ?_⟩)) (fun _ _ => rfl)

theorem c150 (acct : Nat) (hacct : acct < 2147483648) (key : W256) (w : World) : CE 150 [.int .i32 acct, aggC [cW key]] w (fun v _ => v = .int .u32 (slotHome acct key)) := by
  refine enter [] Hvat.func150 rfl Hvat.ntmps150 rfl (good_nil w) ?_
  repeat (first
    | refine r_p (by rfl) (by rfl) (by rfl) ?_
    | refine r_sk (by rfl) (by rfl) ?_
    | refine wr_nil ?_
    | refine sq_n ?_ | refine sq_ret ?_ | refine sq_exit ?_ | refine bk_n ?_ | refine bk_ret ?_ | refine bk_hit ?_ | refine bk_miss (by rfl) ?_ | refine lp_ret ?_ | refine lp_exit ?_
    | refine wc_seq (by rfl) ?_ | refine wc_block (by rfl) ?_ | refine wc_plain (by rfl) ?_ | refine wc_skip (by rfl) ?_ | refine wc_ret (by rfl) ?_ | refine wc_exit (by rfl) ?_)
  refine r_bx (by rfl) (valC_agg _) (by rfl) (by rfl) fun b3 hb3 => ?_
  have hx := Below.refl w.heap.size w
  repeat (first
    | refine r_p (by rfl) (by rfl) (by rfl) ?_
    | refine r_sk (by rfl) (by rfl) ?_
    | refine wr_nil ?_
    | refine sq_n ?_ | refine sq_ret ?_ | refine sq_exit ?_ | refine bk_n ?_ | refine bk_ret ?_ | refine bk_hit ?_ | refine bk_miss (by rfl) ?_ | refine lp_ret ?_ | refine lp_exit ?_
    | refine wc_seq (by rfl) ?_ | refine wc_block (by rfl) ?_ | refine wc_plain (by rfl) ?_ | refine wc_skip (by rfl) ?_ | refine wc_ret (by rfl) ?_ | refine wc_exit (by rfl) ?_)
  refine r_ldN (by rfl) (by rfl) (.h (.head _)) (gN_flat (by rfl)) (by simp) (by rfl) (by rfl) ?_
  refine r_callE Hvat.func124 (by rfl) (by rfl) hx (Nat.le_refl _) (by have hz := hx.size; repeat (first | exact trivial | refine ⟨by omega, ?_⟩)) (by rfl) (by rfl) (fun w1 _ => c124 acct hacct key w1) ?_
  rintro v w2 rfl hs hx
  refine r_rem (q := 4096) (by rfl) rfl (by rfl) (by rfl) (by rfl) (by rfl) (by rfl) ?_
  have hlt : (mixM acct key).toNat % 4096 < 4096 := Nat.mod_lt _ (by decide)
  refine r_cv (by rfl) (by rfl) (by rfl) (by exact ⟨by omega, by omega⟩) (by rfl) (by rfl) ?_
  repeat (first
    | refine r_p (by rfl) (by rfl) (by rfl) ?_
    | refine r_sk (by rfl) (by rfl) ?_
    | refine wr_nil ?_
    | refine sq_n ?_ | refine sq_ret ?_ | refine sq_exit ?_ | refine bk_n ?_ | refine bk_ret ?_ | refine bk_hit ?_ | refine bk_miss (by rfl) ?_ | refine lp_ret ?_ | refine lp_exit ?_
    | refine wc_seq (by rfl) ?_ | refine wc_block (by rfl) ?_ | refine wc_plain (by rfl) ?_ | refine wc_skip (by rfl) ?_ | refine wc_ret (by rfl) ?_ | refine wc_exit (by rfl) ?_)
  exact kr_ret [_] ⟨by rfl, trivial⟩ hx (by have hz := hx.size; repeat (first | exact trivial | refine ⟨by omega, ?_⟩)) (fun _ _ => rfl)

end Go.Proofs.YgvatwGreat
