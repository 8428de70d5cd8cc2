/-
  CONTRACTS 2: carries; u256; the homes.
-/
import Derived.Test.YgvatwGreatC1
import Derived.Laws.Externs
namespace Go.Proofs.YgvatwGreat
open Go Go.RowKit
set_option linter.unusedVariables false
set_option linter.unusedSimpArgs false

def sub64E : Array Value → Sem Value := fun args => do
  let (x, y, b) ← Extern.MathBitsCarry.three "Sub64" args
  pure (Extern.MathBitsCarry.pair ((x + Extern.MathBitsCarry.m64 - y - b) % Extern.MathBitsCarry.m64) (if x < y + b then 1 else 0))

def addS (x y : U64) (c : Nat) : U64 := BitVec.ofNat 64 (x.toNat + y.toNat + c)
def addC (x y : U64) (c : Nat) : Nat := (x.toNat + y.toNat + c) / 2 ^ 64
def subS (x y : U64) (c : Nat) : U64 := BitVec.ofNat 64 (x.toNat + 2 ^ 64 - y.toNat - c)
def subC (x y : U64) (c : Nat) : Nat := if x.toNat < y.toNat + c then 1 else 0

theorem run_151 (x y : U64) (c : Nat) (hc : c ≤ 1) (w : World) : (callFunc 151 #[.int .u64 x.toNat, .int .u64 y.toNat, .int .u64 c]).run Hvat.prog w =
    .ok (.value (.tuple #[.int .u64 (addS x y c).toNat, .int .u64 (addC x y c)])) w := by
  rw [run_callFunc_extern Hvat.func151 (by kernel_rfl) (by kernel_rfl) (by kernel_rfl) (e := add64Entry) (by kernel_rfl), run_add64 _ _ _ (by omega) (by omega) (by omega) (by omega)]
  simp only [Result.andThen]
  have e1 : ((addS x y c).toNat : Int) = ((x.toNat : Int) + y.toNat + c) % 18446744073709551616 := by
    simp only [addS, BitVec.toNat_ofNat]; omega
  have e2 : ((addC x y c : Nat) : Int) = ((x.toNat : Int) + y.toNat + c) / 18446744073709551616 := by
    simp only [addC]; omega
  rw [e1, e2]
theorem run_sub64E (x y : U64) (c : Nat) (hc : c ≤ 1) (w : World) : (sub64E #[.int .u64 x.toNat, .int .u64 y.toNat, .int .u64 c]).run Hvat.prog w =
    .ok (.tuple #[.int .u64 (subS x y c).toNat, .int .u64 (subC x y c)]) w := by
  have key : ∀ k : Nat, k ≤ 1 → (sub64E #[.int .u64 x.toNat, .int .u64 y.toNat, .int .u64 (k : Int)]).run Hvat.prog w =
      .ok (Extern.MathBitsCarry.pair ((((x.toNat : Nat) : Int).toNat + Extern.MathBitsCarry.m64 - ((y.toNat : Nat) : Int).toNat - k) % Extern.MathBitsCarry.m64) (if ((x.toNat : Nat) : Int).toNat < ((y.toNat : Nat) : Int).toNat + k then 1 else 0)) w := by
    intro k hk
    have : k = 0 ∨ k = 1 := by omega
    rcases this with rfl | rfl <;> rfl
  rw [key c hc]
  simp only [Int.toNat_natCast, Extern.MathBitsCarry.pair, Extern.MathBitsCarry.m64, subS, subC, BitVec.toNat_ofNat]
  rfl
theorem run_165 (x y : U64) (c : Nat) (hc : c ≤ 1) (w : World) : (callFunc 165 #[.int .u64 x.toNat, .int .u64 y.toNat, .int .u64 c]).run Hvat.prog w =
    .ok (.value (.tuple #[.int .u64 (subS x y c).toNat, .int .u64 (subC x y c)])) w := by
  rw [run_callFunc_extern Hvat.func165 (by kernel_rfl) (by kernel_rfl) (by kernel_rfl) (e := sub64E) (by kernel_rfl), run_sub64E x y c hc w]
  rfl

section
variable {N : Nat} {ops : Array Oper} {X : List Nat} {K : World → Env → Hp → Prop} {wb : World} {E : Env} {H : Hp} {r : List (Bool × Bool × Oper)} {ns : Bool}
  {d ty : Nat} {pos : String} {af : Array Edge} {g : Option (Nat × Bool)} {x y z : Operand} {ats : Array TypeId}

theorem r_ext {f : Nat} {a b c : Value} {v : Value} (hx : ev E x = some a) (hy : ev E y = some b) (hz : ev E z = some c) (hrun : ∀ w, (callFunc f #[a, b, c]).run Hvat.prog w = .ok (.value v) w)
    (hg : gd ops E ⟨some d, .call { callee := .value (.func f), args := #[x, y, z], argTypes := ats }, ty, pos, af, g⟩ = some true) (hN : Nat.blt d N = true)
    (h : WR N ops X r K wb ((d, v) :: E) H) :
    WR N ops X ((false, ns, ⟨some d, .call { callee := .value (.func f), args := #[x, y, z], argTypes := ats }, ty, pos, af, g⟩) :: r) K wb E H := by
  refine wr_e hg (fun ac w hs Q => ?_)
  have hr : (execOp ac.eval ⟨some d, .call { callee := .value (.func f), args := #[x, y, z], argTypes := ats }, ty, pos, af, g⟩).run Hvat.prog w = .ok (.value v) w := by
    have e1 : ac.eval x = a := hs.on.eval hx
    have e2 : ac.eval y = b := hs.on.eval hy
    have e3 : ac.eval z = c := hs.on.eval hz
    have ef : ac.eval (.func f) = .func (.func f) #[] #[] := rfl
    simp [execOp, resolve, ef, Deferred.ofValue, invoke, e1, e2, e3, hrun w]
  unfold Oper.wp
  rw [hr]
  exact ⟨fun _ => KeepX.refl _ _, wb, _, H, ⟨hs.on.put (by simpa [Nat.blt_eq] using hN) _, hs.good⟩, h⟩
end

theorem c125 (x y : U64) (c : Nat) (n : Int) (hn : n = (c : Int)) (hc : c ≤ 1) (w : World) : CE 125 [.int .u64 x.toNat, .int .u64 y.toNat, .int .u64 n] w (fun v _ => v = .tuple #[.int .u64 (addS x y c).toNat, .int .u64 (addC x y c)]) := by
  subst hn
  refine enter [] Hvat.func125 rfl Hvat.ntmps125 rfl (good_nil w) ?_
  repeat (first
    | refine r_p (by rfl) (by rfl) (by rfl) ?_
    | refine r_sk (by rfl) (by rfl) ?_
    | refine wr_nil ?_
    | refine sq_n ?_ | refine sq_ret ?_ | refine sq_exit ?_ | refine bk_n ?_ | refine bk_ret ?_ | refine bk_hit ?_ | refine bk_miss (by rfl) ?_ | refine lp_ret ?_ | refine lp_exit ?_
    | refine wc_seq (by rfl) ?_ | refine wc_block (by rfl) ?_ | refine wc_plain (by rfl) ?_ | refine wc_skip (by rfl) ?_ | refine wc_ret (by rfl) ?_ | refine wc_exit (by rfl) ?_)
  refine r_ext (by rfl) (by rfl) (by rfl) (run_151 x y c hc) (by rfl) (by rfl) ?_
  repeat (first
    | refine r_p (by rfl) (by rfl) (by rfl) ?_
    | refine r_sk (by rfl) (by rfl) ?_
    | refine wr_nil ?_
    | refine sq_n ?_ | refine sq_ret ?_ | refine sq_exit ?_ | refine bk_n ?_ | refine bk_ret ?_ | refine bk_hit ?_ | refine bk_miss (by rfl) ?_ | refine lp_ret ?_ | refine lp_exit ?_
    | refine wc_seq (by rfl) ?_ | refine wc_block (by rfl) ?_ | refine wc_plain (by rfl) ?_ | refine wc_skip (by rfl) ?_ | refine wc_ret (by rfl) ?_ | refine wc_exit (by rfl) ?_)
  exact kr_ret [_, _] ⟨by rfl, by rfl, trivial⟩ (Below.refl _ _) trivial (fun _ _ => rfl)
theorem c164 (x y : U64) (c : Nat) (n : Int) (hn : n = (c : Int)) (hc : c ≤ 1) (w : World) : CE 164 [.int .u64 x.toNat, .int .u64 y.toNat, .int .u64 n] w (fun v _ => v = .tuple #[.int .u64 (subS x y c).toNat, .int .u64 (subC x y c)]) := by
  subst hn
  refine enter [] Hvat.func164 rfl Hvat.ntmps164 rfl (good_nil w) ?_
  repeat (first
    | refine r_p (by rfl) (by rfl) (by rfl) ?_
    | refine r_sk (by rfl) (by rfl) ?_
    | refine wr_nil ?_
    | refine sq_n ?_ | refine sq_ret ?_ | refine sq_exit ?_ | refine bk_n ?_ | refine bk_ret ?_ | refine bk_hit ?_ | refine bk_miss (by rfl) ?_ | refine lp_ret ?_ | refine lp_exit ?_
    | refine wc_seq (by rfl) ?_ | refine wc_block (by rfl) ?_ | refine wc_plain (by rfl) ?_ | refine wc_skip (by rfl) ?_ | refine wc_ret (by rfl) ?_ | refine wc_exit (by rfl) ?_)
  refine r_ext (by rfl) (by rfl) (by rfl) (run_165 x y c hc) (by rfl) (by rfl) ?_
  repeat (first
    | refine r_p (by rfl) (by rfl) (by rfl) ?_
    | refine r_sk (by rfl) (by rfl) ?_
    | refine wr_nil ?_
    | refine sq_n ?_ | refine sq_ret ?_ | refine sq_exit ?_ | refine bk_n ?_ | refine bk_ret ?_ | refine bk_hit ?_ | refine bk_miss (by rfl) ?_ | refine lp_ret ?_ | refine lp_exit ?_
    | refine wc_seq (by rfl) ?_ | refine wc_block (by rfl) ?_ | refine wc_plain (by rfl) ?_ | refine wc_skip (by rfl) ?_ | refine wc_ret (by rfl) ?_ | refine wc_exit (by rfl) ?_)
  exact kr_ret [_, _] ⟨by rfl, by rfl, trivial⟩ (Below.refl _ _) trivial (fun _ _ => rfl)

/-! ### Limbs -/
def limb (x : W256) (i : Nat) : U64 := BitVec.ofNat 64 (x.toNat / 2 ^ (64 * i))
def mkW (a b c d : U64) : W256 := BitVec.ofNat 256 (a.toNat + b.toNat * 2 ^ 64 + c.toNat * 2 ^ 128 + d.toNat * 2 ^ 192)
theorem limb_toNat (x : W256) (i : Nat) : (limb x i).toNat = x.toNat / 2 ^ (64 * i) % 2 ^ 64 := by simp [limb]
theorem mkW_toNat (a b c d : U64) : (mkW a b c d).toNat = a.toNat + b.toNat * 2 ^ 64 + c.toNat * 2 ^ 128 + d.toNat * 2 ^ 192 := by
  have := a.isLt; have := b.isLt; have := c.isLt; have := d.isLt
  simp only [mkW, BitVec.toNat_ofNat]
  apply Nat.mod_eq_of_lt
  omega
theorem word_limbs (x : W256) : x.toNat = (limb x 0).toNat + (limb x 1).toNat * 2 ^ 64 + (limb x 2).toNat * 2 ^ 128 + (limb x 3).toNat * 2 ^ 192 := by
  have := x.isLt
  simp only [limb_toNat, Nat.mul_zero, Nat.pow_zero, Nat.div_one, show 64 * 1 = 64 from rfl, show 64 * 2 = 128 from rfl, show 64 * 3 = 192 from rfl]
  omega
theorem wordL_limbs (x : W256) : wordL x.toNat = [.int .u64 (limb x 0).toNat, .int .u64 (limb x 1).toNat, .int .u64 (limb x 2).toNat, .int .u64 (limb x 3).toNat] := by
  simp only [limb_toNat]; rfl
theorem limb_mkW (a b c d : U64) : limb (mkW a b c d) 0 = a ∧ limb (mkW a b c d) 1 = b ∧ limb (mkW a b c d) 2 = c ∧ limb (mkW a b c d) 3 = d := by
  have := a.isLt; have := b.isLt; have := c.isLt; have := d.isLt
  refine ⟨BitVec.eq_of_toNat_eq ?_, BitVec.eq_of_toNat_eq ?_, BitVec.eq_of_toNat_eq ?_, BitVec.eq_of_toNat_eq ?_⟩ <;>
    simp only [limb_toNat, mkW_toNat, Nat.mul_zero, Nat.pow_zero, Nat.div_one, show 64 * 1 = 64 from rfl, show 64 * 2 = 128 from rfl, show 64 * 3 = 192 from rfl] <;> omega
theorem agg_mkW (a b c d : U64) : Value.agg #[.int .u64 a.toNat, .int .u64 b.toNat, .int .u64 c.toNat, .int .u64 d.toNat] = aggC [cW (mkW a b c d)] := by
  obtain ⟨h0, h1, h2, h3⟩ := limb_mkW a b c d
  unfold aggC
  rw [flat1]
  show _ = Value.agg (wordL (mkW a b c d).toNat).toArray
  rw [wordL_limbs, h0, h1, h2, h3]

theorem g1_word {cs : List Chunk} {o i : Nat} {x : W256} (h : getC cs o 4 = some [cW x]) (hi : Nat.blt i 4 = true) : Get1 (flat cs) (o + i) (.int .u64 (limb x i).toNat) := by
  have hi' : i < 4 := by simpa [Nat.blt_eq] using hi
  obtain ⟨h1, h2, h3⟩ := getC_spec _ _ _ _ h
  have h4 : (flat [cW x]) = wordL x.toNat := flat1 _
  rw [h4] at h1
  have e : (List.take 4 (List.drop o (flat cs)))[i]? = some (.int .u64 (limb x i).toNat) := by
    rw [h1, limb_toNat]; simp [wordL, hi']
  rw [List.getElem?_take] at e
  simp only [hi', if_true, List.getElem?_drop] at e
  exact e

section
variable {N : Nat} {ops : Array Oper} {X : List Nat} {K : World → Env → Hp → Prop} {wb : World} {E : Env} {H : Hp} {r : List (Bool × Bool × Oper)} {ns : Bool}
  {d ty : Nat} {pos : String} {af : Array Edge} {g : Option (Nat × Bool)} {x y z u : Operand}
theorem und45 : Hvat.prog.underlying 45 = some (.array 4 27) := Hvat.underlying45

theorem z45c : ∃ i, Hvat.prog.info? 45 = some i ∧ i.zero = some (.agg #[.int .u64 0, .int .u64 0, .int .u64 0, .int .u64 0]) := by
  have h : (Hvat.prog.info? 45).bind (·.zero) = some (.agg #[.int .u64 0, .int .u64 0, .int .u64 0, .int .u64 0]) := by kernel_rfl
  exact Option.bind_eq_some_iff.1 h
theorem i27 : ∃ i, Hvat.prog.info? 27 = some i ∧ i.size = 1 := by
  have h : (Hvat.prog.info? 27).map (·.size) = some 1 := by kernel_rfl
  have ⟨i, hi, hs⟩ := Option.map_eq_some_iff.1 h
  exact ⟨i, hi, hs⟩

theorem r_bw4 {a b c e : U64} (h0 : ev E x = some (.int .u64 (a.toNat : Int))) (h1 : ev E y = some (.int .u64 (b.toNat : Int))) (h2 : ev E z = some (.int .u64 (c.toNat : Int))) (h3 : ev E u = some (.int .u64 (e.toNat : Int)))
    (hg : gd ops E ⟨some d, .build 45 #[(0, x), (1, y), (2, z), (3, u)], ty, pos, af, g⟩ = some true) (hN : Nat.blt d N = true)
    (h : WR N ops X r K wb ((d, aggC [cW (mkW a b c e)]) :: E) H) : WR N ops X ((true, ns, ⟨some d, .build 45 #[(0, x), (1, y), (2, z), (3, u)], ty, pos, af, g⟩) :: r) K wb E H := by
  have ⟨i, hi, hz⟩ := z45c
  have ⟨j, hj, hs⟩ := i27
  refine wr_q hg rfl hN (fun ac w hst w' _ => ?_) h
  rw [← agg_mkW]
  simp [execOp, Instr.build, zeroValue, typeInfo, hi, hz, underlying, und45, sizeOf, hj, hs, Value.cells, Instr.fill, hst.on.eval h0, hst.on.eval h1, hst.on.eval h2, hst.on.eval h3]
theorem r_bw3 {a b c : U64} (h0 : ev E x = some (.int .u64 (a.toNat : Int))) (h1 : ev E y = some (.int .u64 (b.toNat : Int))) (h2 : ev E z = some (.int .u64 (c.toNat : Int)))
    (hg : gd ops E ⟨some d, .build 45 #[(0, x), (1, y), (2, z)], ty, pos, af, g⟩ = some true) (hN : Nat.blt d N = true)
    (h : WR N ops X r K wb ((d, aggC [cW (mkW a b c 0#64)]) :: E) H) : WR N ops X ((true, ns, ⟨some d, .build 45 #[(0, x), (1, y), (2, z)], ty, pos, af, g⟩) :: r) K wb E H := by
  have ⟨i, hi, hz⟩ := z45c
  have ⟨j, hj, hs⟩ := i27
  refine wr_q hg rfl hN (fun ac w hst w' _ => ?_) h
  rw [← agg_mkW]
  simp [execOp, Instr.build, zeroValue, typeInfo, hi, hz, underlying, und45, sizeOf, hj, hs, Value.cells, Instr.fill, hst.on.eval h0, hst.on.eval h1, hst.on.eval h2]
theorem r_bw0 (hg : gd ops E ⟨some d, .build 45 #[], ty, pos, af, g⟩ = some true) (hN : Nat.blt d N = true)
    (h : WR N ops X r K wb ((d, aggC [cW 0#256]) :: E) H) : WR N ops X ((true, ns, ⟨some d, .build 45 #[], ty, pos, af, g⟩) :: r) K wb E H := by
  have ⟨i, hi, hz⟩ := z45c
  have ⟨j, hj, hs⟩ := i27
  refine wr_q hg rfl hN (fun ac w hst w' _ => ?_) h
  have e : aggC [cW 0#256] = Value.agg #[.int .u64 0, .int .u64 0, .int .u64 0, .int .u64 0] := by
    have := agg_mkW 0#64 0#64 0#64 0#64
    have e2 : mkW 0#64 0#64 0#64 0#64 = 0#256 := by apply BitVec.eq_of_toNat_eq; rw [mkW_toNat]; rfl
    rw [e2] at this
    rw [← this]; rfl
  rw [e]
  simp [execOp, Instr.build, zeroValue, typeInfo, hi, hz, underlying, und45, sizeOf, hj, hs, Value.cells, Instr.fill]
end

theorem addS_toNat (x y : U64) (c : Nat) : (addS x y c).toNat = (x.toNat + y.toNat + c) % 2 ^ 64 := by simp [addS]
theorem addC_le (x y : U64) (c : Nat) (hc : c ≤ 1) : addC x y c ≤ 1 := by
  have := x.isLt; have := y.isLt
  unfold addC; omega
theorem subC_le (x y : U64) (c : Nat) : subC x y c ≤ 1 := by unfold subC; split <;> omega
theorem subS_toNat (x y : U64) (c : Nat) : (subS x y c).toNat = (x.toNat + 2 ^ 64 - y.toNat - c) % 2 ^ 64 := by simp [subS]

theorem c68 (a b : W256) (w : World) : CE 68 [aggC [cW a], aggC [cW b]] w (fun v _ => v = .tuple #[aggC [cW (a + b)], .bool (decide (2 ^ 256 ≤ a.toNat + b.toNat))]) := by
  refine enter [] Hvat.func68 rfl Hvat.ntmps68 rfl (good_nil w) ?_
  repeat (first
    | refine r_p (by rfl) (by rfl) (by rfl) ?_
    | refine r_sk (by rfl) (by rfl) ?_
    | refine wr_nil ?_
    | refine sq_n ?_ | refine sq_ret ?_ | refine sq_exit ?_ | refine bk_n ?_ | refine bk_ret ?_ | refine bk_hit ?_ | refine bk_miss (by rfl) ?_ | refine lp_ret ?_ | refine lp_exit ?_
    | refine wc_seq (by rfl) ?_ | refine wc_block (by rfl) ?_ | refine wc_plain (by rfl) ?_ | refine wc_skip (by rfl) ?_ | refine wc_ret (by rfl) ?_ | refine wc_exit (by rfl) ?_)
  refine r_bx (by rfl) (valC_agg _) (by rfl) (by rfl) fun b2 hb2 => ?_
  refine r_bx (by rfl) (valC_agg _) (by rfl) (by rfl) fun b3 hb3 => ?_
  refine r_al z45 (by rfl) (by rfl) fun b4 hb4 => ?_
  have hx := Below.refl w.heap.size w
  repeat (first
    | refine r_p (by rfl) (by rfl) (by rfl) ?_
    | refine r_sk (by rfl) (by rfl) ?_
    | refine wr_nil ?_
    | refine sq_n ?_ | refine sq_ret ?_ | refine sq_exit ?_ | refine bk_n ?_ | refine bk_ret ?_ | refine bk_hit ?_ | refine bk_miss (by rfl) ?_ | refine lp_ret ?_ | refine lp_exit ?_
    | refine wc_seq (by rfl) ?_ | refine wc_block (by rfl) ?_ | refine wc_plain (by rfl) ?_ | refine wc_skip (by rfl) ?_ | refine wc_ret (by rfl) ?_ | refine wc_exit (by rfl) ?_)
  refine r_ld1 (by rfl) (by rfl) (.h (.tail _ (.tail _ (.head _)))) (g1_word (by rfl) (by rfl)) (by simp) (by rfl) (by rfl) ?_
  repeat (first
    | refine r_p (by rfl) (by rfl) (by rfl) ?_
    | refine r_sk (by rfl) (by rfl) ?_
    | refine wr_nil ?_
    | refine sq_n ?_ | refine sq_ret ?_ | refine sq_exit ?_ | refine bk_n ?_ | refine bk_ret ?_ | refine bk_hit ?_ | refine bk_miss (by rfl) ?_ | refine lp_ret ?_ | refine lp_exit ?_
    | refine wc_seq (by rfl) ?_ | refine wc_block (by rfl) ?_ | refine wc_plain (by rfl) ?_ | refine wc_skip (by rfl) ?_ | refine wc_ret (by rfl) ?_ | refine wc_exit (by rfl) ?_)
  refine r_ld1 (by rfl) (by rfl) (.h (.tail _ (.head _))) (g1_word (by rfl) (by rfl)) (by simp) (by rfl) (by rfl) ?_
  refine r_callE Hvat.func125 (by rfl) (by rfl) hx (Nat.le_refl _) (by have hz := hx.size; repeat (first | exact trivial | refine ⟨by omega, ?_⟩)) (by rfl) (by rfl) (fun w1 _ => c125 _ _ 0 _ rfl (by omega) w1) ?_
  rintro v w2 rfl hs hx
  repeat (first
    | refine r_p (by rfl) (by rfl) (by rfl) ?_
    | refine r_sk (by rfl) (by rfl) ?_
    | refine wr_nil ?_
    | refine sq_n ?_ | refine sq_ret ?_ | refine sq_exit ?_ | refine bk_n ?_ | refine bk_ret ?_ | refine bk_hit ?_ | refine bk_miss (by rfl) ?_ | refine lp_ret ?_ | refine lp_exit ?_
    | refine wc_seq (by rfl) ?_ | refine wc_block (by rfl) ?_ | refine wc_plain (by rfl) ?_ | refine wc_skip (by rfl) ?_ | refine wc_ret (by rfl) ?_ | refine wc_exit (by rfl) ?_)
  refine r_ld1 (by rfl) (by rfl) (.h (.tail _ (.tail _ (.head _)))) (g1_word (by rfl) (by rfl)) (by simp) (by rfl) (by rfl) ?_
  repeat (first
    | refine r_p (by rfl) (by rfl) (by rfl) ?_
    | refine r_sk (by rfl) (by rfl) ?_
    | refine wr_nil ?_
    | refine sq_n ?_ | refine sq_ret ?_ | refine sq_exit ?_ | refine bk_n ?_ | refine bk_ret ?_ | refine bk_hit ?_ | refine bk_miss (by rfl) ?_ | refine lp_ret ?_ | refine lp_exit ?_
    | refine wc_seq (by rfl) ?_ | refine wc_block (by rfl) ?_ | refine wc_plain (by rfl) ?_ | refine wc_skip (by rfl) ?_ | refine wc_ret (by rfl) ?_ | refine wc_exit (by rfl) ?_)
  refine r_ld1 (by rfl) (by rfl) (.h (.tail _ (.head _))) (g1_word (by rfl) (by rfl)) (by simp) (by rfl) (by rfl) ?_
  repeat (first
    | refine r_p (by rfl) (by rfl) (by rfl) ?_
    | refine r_sk (by rfl) (by rfl) ?_
    | refine wr_nil ?_
    | refine sq_n ?_ | refine sq_ret ?_ | refine sq_exit ?_ | refine bk_n ?_ | refine bk_ret ?_ | refine bk_hit ?_ | refine bk_miss (by rfl) ?_ | refine lp_ret ?_ | refine lp_exit ?_
    | refine wc_seq (by rfl) ?_ | refine wc_block (by rfl) ?_ | refine wc_plain (by rfl) ?_ | refine wc_skip (by rfl) ?_ | refine wc_ret (by rfl) ?_ | refine wc_exit (by rfl) ?_)
  have k1 := addC_le (limb a 0) (limb b 0) 0 (by omega)
  refine r_callE Hvat.func125 (by rfl) (by rfl) hx (Nat.le_refl _) (by have hz := hx.size; repeat (first | exact trivial | refine ⟨by omega, ?_⟩)) (by rfl) (by rfl) (fun w1 _ => c125 _ _ _ _ rfl k1 w1) ?_
  rintro v w3 rfl hs hx
  repeat (first
    | refine r_p (by rfl) (by rfl) (by rfl) ?_
    | refine r_sk (by rfl) (by rfl) ?_
    | refine wr_nil ?_
    | refine sq_n ?_ | refine sq_ret ?_ | refine sq_exit ?_ | refine bk_n ?_ | refine bk_ret ?_ | refine bk_hit ?_ | refine bk_miss (by rfl) ?_ | refine lp_ret ?_ | refine lp_exit ?_
    | refine wc_seq (by rfl) ?_ | refine wc_block (by rfl) ?_ | refine wc_plain (by rfl) ?_ | refine wc_skip (by rfl) ?_ | refine wc_ret (by rfl) ?_ | refine wc_exit (by rfl) ?_)
  refine r_ld1 (by rfl) (by rfl) (.h (.tail _ (.tail _ (.head _)))) (g1_word (by rfl) (by rfl)) (by simp) (by rfl) (by rfl) ?_
  repeat (first
    | refine r_p (by rfl) (by rfl) (by rfl) ?_
    | refine r_sk (by rfl) (by rfl) ?_
    | refine wr_nil ?_
    | refine sq_n ?_ | refine sq_ret ?_ | refine sq_exit ?_ | refine bk_n ?_ | refine bk_ret ?_ | refine bk_hit ?_ | refine bk_miss (by rfl) ?_ | refine lp_ret ?_ | refine lp_exit ?_
    | refine wc_seq (by rfl) ?_ | refine wc_block (by rfl) ?_ | refine wc_plain (by rfl) ?_ | refine wc_skip (by rfl) ?_ | refine wc_ret (by rfl) ?_ | refine wc_exit (by rfl) ?_)
  refine r_ld1 (by rfl) (by rfl) (.h (.tail _ (.head _))) (g1_word (by rfl) (by rfl)) (by simp) (by rfl) (by rfl) ?_
  repeat (first
    | refine r_p (by rfl) (by rfl) (by rfl) ?_
    | refine r_sk (by rfl) (by rfl) ?_
    | refine wr_nil ?_
    | refine sq_n ?_ | refine sq_ret ?_ | refine sq_exit ?_ | refine bk_n ?_ | refine bk_ret ?_ | refine bk_hit ?_ | refine bk_miss (by rfl) ?_ | refine lp_ret ?_ | refine lp_exit ?_
    | refine wc_seq (by rfl) ?_ | refine wc_block (by rfl) ?_ | refine wc_plain (by rfl) ?_ | refine wc_skip (by rfl) ?_ | refine wc_ret (by rfl) ?_ | refine wc_exit (by rfl) ?_)
  have k2 := addC_le (limb a 1) (limb b 1) _ k1
  refine r_callE Hvat.func125 (by rfl) (by rfl) hx (Nat.le_refl _) (by have hz := hx.size; repeat (first | exact trivial | refine ⟨by omega, ?_⟩)) (by rfl) (by rfl) (fun w1 _ => c125 _ _ _ _ rfl k2 w1) ?_
  rintro v w4 rfl hs hx
  repeat (first
    | refine r_p (by rfl) (by rfl) (by rfl) ?_
    | refine r_sk (by rfl) (by rfl) ?_
    | refine wr_nil ?_
    | refine sq_n ?_ | refine sq_ret ?_ | refine sq_exit ?_ | refine bk_n ?_ | refine bk_ret ?_ | refine bk_hit ?_ | refine bk_miss (by rfl) ?_ | refine lp_ret ?_ | refine lp_exit ?_
    | refine wc_seq (by rfl) ?_ | refine wc_block (by rfl) ?_ | refine wc_plain (by rfl) ?_ | refine wc_skip (by rfl) ?_ | refine wc_ret (by rfl) ?_ | refine wc_exit (by rfl) ?_)
  refine r_ld1 (by rfl) (by rfl) (.h (.tail _ (.tail _ (.head _)))) (g1_word (by rfl) (by rfl)) (by simp) (by rfl) (by rfl) ?_
  repeat (first
    | refine r_p (by rfl) (by rfl) (by rfl) ?_
    | refine r_sk (by rfl) (by rfl) ?_
    | refine wr_nil ?_
    | refine sq_n ?_ | refine sq_ret ?_ | refine sq_exit ?_ | refine bk_n ?_ | refine bk_ret ?_ | refine bk_hit ?_ | refine bk_miss (by rfl) ?_ | refine lp_ret ?_ | refine lp_exit ?_
    | refine wc_seq (by rfl) ?_ | refine wc_block (by rfl) ?_ | refine wc_plain (by rfl) ?_ | refine wc_skip (by rfl) ?_ | refine wc_ret (by rfl) ?_ | refine wc_exit (by rfl) ?_)
  refine r_ld1 (by rfl) (by rfl) (.h (.tail _ (.head _))) (g1_word (by rfl) (by rfl)) (by simp) (by rfl) (by rfl) ?_
  repeat (first
    | refine r_p (by rfl) (by rfl) (by rfl) ?_
    | refine r_sk (by rfl) (by rfl) ?_
    | refine wr_nil ?_
    | refine sq_n ?_ | refine sq_ret ?_ | refine sq_exit ?_ | refine bk_n ?_ | refine bk_ret ?_ | refine bk_hit ?_ | refine bk_miss (by rfl) ?_ | refine lp_ret ?_ | refine lp_exit ?_
    | refine wc_seq (by rfl) ?_ | refine wc_block (by rfl) ?_ | refine wc_plain (by rfl) ?_ | refine wc_skip (by rfl) ?_ | refine wc_ret (by rfl) ?_ | refine wc_exit (by rfl) ?_)
  have k3 := addC_le (limb a 2) (limb b 2) _ k2
  refine r_callE Hvat.func125 (by rfl) (by rfl) hx (Nat.le_refl _) (by have hz := hx.size; repeat (first | exact trivial | refine ⟨by omega, ?_⟩)) (by rfl) (by rfl) (fun w1 _ => c125 _ _ _ _ rfl k3 w1) ?_
  rintro v w5 rfl hs hx
  repeat (first
    | refine r_p (by rfl) (by rfl) (by rfl) ?_
    | refine r_sk (by rfl) (by rfl) ?_
    | refine wr_nil ?_
    | refine sq_n ?_ | refine sq_ret ?_ | refine sq_exit ?_ | refine bk_n ?_ | refine bk_ret ?_ | refine bk_hit ?_ | refine bk_miss (by rfl) ?_ | refine lp_ret ?_ | refine lp_exit ?_
    | refine wc_seq (by rfl) ?_ | refine wc_block (by rfl) ?_ | refine wc_plain (by rfl) ?_ | refine wc_skip (by rfl) ?_ | refine wc_ret (by rfl) ?_ | refine wc_exit (by rfl) ?_)
  refine r_bw4 (by rfl) (by rfl) (by rfl) (by rfl) (by rfl) (by rfl) ?_
  repeat (first
    | refine r_p (by rfl) (by rfl) (by rfl) ?_
    | refine r_sk (by rfl) (by rfl) ?_
    | refine wr_nil ?_
    | refine sq_n ?_ | refine sq_ret ?_ | refine sq_exit ?_ | refine bk_n ?_ | refine bk_ret ?_ | refine bk_hit ?_ | refine bk_miss (by rfl) ?_ | refine lp_ret ?_ | refine lp_exit ?_
    | refine wc_seq (by rfl) ?_ | refine wc_block (by rfl) ?_ | refine wc_plain (by rfl) ?_ | refine wc_skip (by rfl) ?_ | refine wc_ret (by rfl) ?_ | refine wc_exit (by rfl) ?_)
  refine r_st (by rfl) (by rfl) (valC_agg _) (by rfl) upd_here (s_flat (by rfl) (by rfl)) (.inl rfl) (by rfl) ?_
  repeat (first
    | refine r_p (by rfl) (by rfl) (by rfl) ?_
    | refine r_sk (by rfl) (by rfl) ?_
    | refine wr_nil ?_
    | refine sq_n ?_ | refine sq_ret ?_ | refine sq_exit ?_ | refine bk_n ?_ | refine bk_ret ?_ | refine bk_hit ?_ | refine bk_miss (by rfl) ?_ | refine lp_ret ?_ | refine lp_exit ?_
    | refine wc_seq (by rfl) ?_ | refine wc_block (by rfl) ?_ | refine wc_plain (by rfl) ?_ | refine wc_skip (by rfl) ?_ | refine wc_ret (by rfl) ?_ | refine wc_exit (by rfl) ?_)
  refine kr_ret [aggC [cW (a + b)], .bool (decide (2 ^ 256 ≤ a.toNat + b.toNat))] ⟨⟨b4, 0, 45, _, [cW (a + b)], 4, by rfl, .h (.head _), by rfl, ?_, rfl⟩, ?_, trivial⟩ hx (by have hz := hx.size; repeat (first | exact trivial | refine ⟨by omega, ?_⟩)) (fun _ _ => rfl)
  · have e : mkW (addS (limb a 0) (limb b 0) 0) (addS (limb a 1) (limb b 1) (addC (limb a 0) (limb b 0) 0)) (addS (limb a 2) (limb b 2) (addC (limb a 1) (limb b 1) (addC (limb a 0) (limb b 0) 0)))
        (addS (limb a 3) (limb b 3) (addC (limb a 2) (limb b 2) (addC (limb a 1) (limb b 1) (addC (limb a 0) (limb b 0) 0)))) = a + b := by
      apply BitVec.eq_of_toNat_eq
      rw [mkW_toNat, BitVec.toNat_add]
      have ha := word_limbs a
      have hb := word_limbs b
      have := (limb a 0).isLt; have := (limb a 1).isLt; have := (limb a 2).isLt; have := (limb a 3).isLt
      have := (limb b 0).isLt; have := (limb b 1).isLt; have := (limb b 2).isLt; have := (limb b 3).isLt
      simp only [addS_toNat, addC] at *
      omega
    rw [e]
    exact gN_flat (by rfl)
  · have e : decide (¬ ((addC (limb a 3) (limb b 3) (addC (limb a 2) (limb b 2) (addC (limb a 1) (limb b 1) (addC (limb a 0) (limb b 0) 0))) : Nat) : Int) = 0) = decide (2 ^ 256 ≤ a.toNat + b.toNat) := by
      apply decide_eq_decide.2
      have ha := word_limbs a
      have hb := word_limbs b
      have := (limb a 0).isLt; have := (limb a 1).isLt; have := (limb a 2).isLt; have := (limb a 3).isLt
      have := (limb b 0).isLt; have := (limb b 1).isLt; have := (limb b 2).isLt; have := (limb b 3).isLt
      simp only [addC] at *
      omega
    rw [← e]
    rfl
end Go.Proofs.YgvatwGreat
