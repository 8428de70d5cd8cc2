/-
  CONTRACTS 1: u64 arithmetic; num; u256.
-/
import Derived.Test.YgvatwGreatEngL
namespace Go.Proofs.YgvatwGreat
open Go Go.RowKit
set_option linter.unusedVariables false
set_option linter.unusedSimpArgs false

/-- A call that returns v with R v, and only adds to memory. -/
def CE (f : Nat) (args : List Value) (w : World) (R : Value → World → Prop) : Prop :=
  Calls Hvat.prog f args.toArray w (fun e w' => ∃ v, e = .returned v ∧ R v w' ∧ Below w.heap.size w w')

theorem kr_ret {fn : Func} {R0 : Value → World → Prop} {w wb : World} {E : Env} {H : Hp} (vs : List Value) (hr : ResL E wb H fn.results.toList vs) (hx : Below w.heap.size w wb) (hk : KG w.heap.size H)
    (hR : ∀ w', Good wb H w' → R0 (retVal vs) w') : KR fn (fun v w' => R0 v w' ∧ Below w.heap.size w w') .ret wb E H :=
  ⟨.inl rfl, vs, hr, fun w' hG => ⟨hR w' hG, below_stp hx hG.stp hk (Nat.le_refl _)⟩⟩
theorem kr_nrm {fn : Func} {R0 : Value → World → Prop} {w wb : World} {E : Env} {H : Hp} (vs : List Value) (hr : ResL E wb H fn.results.toList vs) (hx : Below w.heap.size w wb) (hk : KG w.heap.size H)
    (hR : ∀ w', Good wb H w' → R0 (retVal vs) w') : KR fn (fun v w' => R0 v w' ∧ Below w.heap.size w w') .normal wb E H :=
  ⟨.inr rfl, vs, hr, fun w' hG => ⟨hR w' hG, below_stp hx hG.stp hk (Nat.le_refl _)⟩⟩

section
variable {N : Nat} {ops : Array Oper} {X : List Nat} {K : World → Env → Hp → Prop} {wb : World} {E : Env} {H : Hp} {r : List (Bool × Bool × Oper)} {ns : Bool}
  {d ty : Nat} {pos : String} {af : Array Edge} {g : Option (Nat × Bool)} {t t' : Nat} {x y z : Operand} {m n : Int}

theorem ofInt_nat (a : U64) : BitVec.ofInt 64 (a.toNat : Int) = a := by
  apply BitVec.eq_of_toNat_eq
  simp
theorem wrap_u64 (n : Nat) : IntKind.u64.wrap (n : Int) = ((n % 2 ^ 64 : Nat) : Int) := by
  simp [IntKind.wrap, IntKind.bits, IntKind.signed]
theorem bits_u64 : IntKind.u64.bits = 64 := rfl

theorem u_bits (op : BinOp) (f : U64 → U64 → U64) (a b : U64) (w : World) (hf : (op = .and ∧ f = fun a b => a &&& b) ∨ (op = .or ∧ f = fun a b => a ||| b) ∨ (op = .xor ∧ f = fun a b => a ^^^ b)) :
    (Op.intBits op .u64 (a.toNat : Int) (b.toNat : Int)).run Hvat.prog w = .ok (.int .u64 ((f a b).toNat : Int)) w := by
  have ha := ofInt_nat a
  have hb := ofInt_nat b
  have hw : ∀ c : U64, IntKind.u64.wrap (c.toNat : Int) = (c.toNat : Int) := fun c => wrap_in ⟨by omega, by have := c.isLt; omega⟩
  rcases hf with ⟨rfl, rfl⟩ | ⟨rfl, rfl⟩ | ⟨rfl, rfl⟩ <;>
  · unfold Op.intBits
    simp only [bits_u64, ha, hb, hw]
    rfl

theorem r_uand {a b : U64} (hx : ev E x = some (.int .u64 m)) (hm : m = (a.toNat : Int)) (hy : ev E y = some (.int .u64 n)) (hn : n = (b.toNat : Int))
    (hg : gd ops E ⟨some d, .binOp .and t x y t', ty, pos, af, g⟩ = some true) (hN : Nat.blt d N = true)
    (h : WR N ops X r K wb ((d, .int .u64 ((a &&& b).toNat : Int)) :: E) H) : WR N ops X ((true, ns, ⟨some d, .binOp .and t x y t', ty, pos, af, g⟩) :: r) K wb E H := by
  subst hm; subst hn
  refine wr_q hg rfl hN (fun ac w hs w' _ => ?_) h
  have := u_bits .and (fun a b => a &&& b) a b w' (.inl ⟨rfl, rfl⟩)
  simp only [execOp, hs.on.eval hx, hs.on.eval hy]
  simp [eqGuard, binOp, this]
theorem r_uor {a b : U64} (hx : ev E x = some (.int .u64 m)) (hm : m = (a.toNat : Int)) (hy : ev E y = some (.int .u64 n)) (hn : n = (b.toNat : Int))
    (hg : gd ops E ⟨some d, .binOp .or t x y t', ty, pos, af, g⟩ = some true) (hN : Nat.blt d N = true)
    (h : WR N ops X r K wb ((d, .int .u64 ((a ||| b).toNat : Int)) :: E) H) : WR N ops X ((true, ns, ⟨some d, .binOp .or t x y t', ty, pos, af, g⟩) :: r) K wb E H := by
  subst hm; subst hn
  refine wr_q hg rfl hN (fun ac w hs w' _ => ?_) h
  have := u_bits .or (fun a b => a ||| b) a b w' (.inr (.inl ⟨rfl, rfl⟩))
  simp only [execOp, hs.on.eval hx, hs.on.eval hy]
  simp [eqGuard, binOp, this]
theorem r_uxor {a b : U64} (hx : ev E x = some (.int .u64 m)) (hm : m = (a.toNat : Int)) (hy : ev E y = some (.int .u64 n)) (hn : n = (b.toNat : Int))
    (hg : gd ops E ⟨some d, .binOp .xor t x y t', ty, pos, af, g⟩ = some true) (hN : Nat.blt d N = true)
    (h : WR N ops X r K wb ((d, .int .u64 ((a ^^^ b).toNat : Int)) :: E) H) : WR N ops X ((true, ns, ⟨some d, .binOp .xor t x y t', ty, pos, af, g⟩) :: r) K wb E H := by
  subst hm; subst hn
  refine wr_q hg rfl hN (fun ac w hs w' _ => ?_) h
  have := u_bits .xor (fun a b => a ^^^ b) a b w' (.inr (.inr ⟨rfl, rfl⟩))
  simp only [execOp, hs.on.eval hx, hs.on.eval hy]
  simp [eqGuard, binOp, this]
theorem r_umul {a b : U64} (hx : ev E x = some (.int .u64 m)) (hm : m = (a.toNat : Int)) (hy : ev E y = some (.int .u64 n)) (hn : n = (b.toNat : Int))
    (hg : gd ops E ⟨some d, .binOp .mul t x y t', ty, pos, af, g⟩ = some true) (hN : Nat.blt d N = true)
    (h : WR N ops X r K wb ((d, .int .u64 ((a * b).toNat : Int)) :: E) H) : WR N ops X ((true, ns, ⟨some d, .binOp .mul t x y t', ty, pos, af, g⟩) :: r) K wb E H := by
  subst hm; subst hn
  refine wr_q hg rfl hN (fun ac w hs w' _ => ?_) h
  have e : IntKind.u64.wrap ((a.toNat : Int) * (b.toNat : Int)) = ((a * b).toNat : Int) := by
    rw [← Int.natCast_mul, wrap_u64]; simp [BitVec.toNat_mul]
  simp only [execOp, hs.on.eval hx, hs.on.eval hy]
  simp [eqGuard, binOp, Op.intArith, e]
theorem r_uadd {a b : U64} (hx : ev E x = some (.int .u64 m)) (hm : m = (a.toNat : Int)) (hy : ev E y = some (.int .u64 n)) (hn : n = (b.toNat : Int))
    (hg : gd ops E ⟨some d, .binOp .add t x y t', ty, pos, af, g⟩ = some true) (hN : Nat.blt d N = true)
    (h : WR N ops X r K wb ((d, .int .u64 ((a + b).toNat : Int)) :: E) H) : WR N ops X ((true, ns, ⟨some d, .binOp .add t x y t', ty, pos, af, g⟩) :: r) K wb E H := by
  subst hm; subst hn
  refine wr_q hg rfl hN (fun ac w hs w' _ => ?_) h
  have e : IntKind.u64.wrap ((a.toNat : Int) + (b.toNat : Int)) = ((a + b).toNat : Int) := by
    rw [← Int.natCast_add, wrap_u64]; simp [BitVec.toNat_add]
  simp only [execOp, hs.on.eval hx, hs.on.eval hy]
  simp [eqGuard, binOp, Op.intArith, e]
theorem r_ushr {a : U64} {q : Nat} {k : IntKind} (hx : ev E x = some (.int .u64 m)) (hm : m = (a.toNat : Int)) (hy : ev E y = some (.int k n)) (hn : n = (q : Int)) (hq : Nat.ble q 64 = true)
    (hg : gd ops E ⟨some d, .binOp .shr t x y t', ty, pos, af, g⟩ = some true) (hN : Nat.blt d N = true)
    (h : WR N ops X r K wb ((d, .int .u64 ((a >>> q).toNat : Int)) :: E) H) : WR N ops X ((true, ns, ⟨some d, .binOp .shr t x y t', ty, pos, af, g⟩) :: r) K wb E H := by
  subst hm; subst hn
  refine wr_q hg rfl hN (fun ac w hs w' _ => ?_) h
  have hle := Nat.le_of_ble_eq_true hq
  have e : Int.fdiv (a.toNat : Int) (2 ^ q) = ((a >>> q).toNat : Int) := by
    rw [BitVec.toNat_ushiftRight, Nat.shiftRight_eq_div_pow]
    rw [Int.fdiv_eq_ediv_of_nonneg _ (by exact Int.le_of_lt (Int.pow_pos (by decide)))]
    simp
  have hm : min q 64 = q := Nat.min_eq_left hle
  simp only [execOp, hs.on.eval hx, hs.on.eval hy]
  simp [eqGuard, binOp, Op.shift, bits_u64, hm, e]
  exact fun h0 => absurd h0 (by omega)
theorem r_ushl {a : U64} {q : Nat} {k : IntKind} (hx : ev E x = some (.int .u64 m)) (hm : m = (a.toNat : Int)) (hy : ev E y = some (.int k n)) (hn : n = (q : Int)) (hq : Nat.ble q 64 = true)
    (hg : gd ops E ⟨some d, .binOp .shl t x y t', ty, pos, af, g⟩ = some true) (hN : Nat.blt d N = true)
    (h : WR N ops X r K wb ((d, .int .u64 ((a <<< q).toNat : Int)) :: E) H) : WR N ops X ((true, ns, ⟨some d, .binOp .shl t x y t', ty, pos, af, g⟩) :: r) K wb E H := by
  subst hm; subst hn
  refine wr_q hg rfl hN (fun ac w hs w' _ => ?_) h
  have hle := Nat.le_of_ble_eq_true hq
  have e : IntKind.u64.wrap ((a.toNat : Int) * 2 ^ q) = ((a <<< q).toNat : Int) := by
    have : (a.toNat : Int) * 2 ^ q = ((a.toNat * 2 ^ q : Nat) : Int) := by simp
    rw [this, wrap_u64, BitVec.toNat_shiftLeft, Nat.shiftLeft_eq]
  have hm : min q 64 = q := Nat.min_eq_left hle
  simp only [execOp, hs.on.eval hx, hs.on.eval hy]
  simp [eqGuard, binOp, Op.shift, bits_u64, hm, e]
  exact fun h0 => absurd h0 (by omega)
end

/-! ### bits.Mul64, num.Mul64, fold -/
def mulHi (x y : U64) : U64 :=
  let x0 := x &&& 4294967295#64
  let x1 := x >>> 32
  let y0 := y &&& 4294967295#64
  let y1 := y >>> 32
  let w0 := x0 * y0
  let t := x1 * y0 + w0 >>> 32
  let w1 := (t &&& 4294967295#64) + x0 * y1
  let w2 := t >>> 32
  x1 * y1 + w2 + w1 >>> 32

theorem c162 (x y : U64) (w : World) : CE 162 [.int .u64 x.toNat, .int .u64 y.toNat] w (fun v _ => v = .tuple #[.int .u64 (mulHi x y).toNat, .int .u64 (x * y).toNat]) := by
  refine enter [] Hvat.func162 rfl Hvat.ntmps162 rfl (good_nil w) ?_
  repeat (first
    | refine r_p (by rfl) (by rfl) (by rfl) ?_ | refine r_sk (by rfl) (by rfl) ?_ | refine wr_nil ?_ | refine sq_n ?_ | refine sq_ret ?_ | refine sq_exit ?_ | refine bk_n ?_ | refine bk_ret ?_ | refine bk_hit ?_ | refine bk_miss (by rfl) ?_ | refine lp_ret ?_ | refine lp_exit ?_ | refine wc_seq (by rfl) ?_ | refine wc_block (by rfl) ?_ | refine wc_plain (by rfl) ?_ | refine wc_skip (by rfl) ?_ | refine wc_ret (by rfl) ?_ | refine wc_exit (by rfl) ?_
    | refine r_uand (by rfl) rfl (by rfl) (b := 4294967295#64) (by rfl) (by rfl) (by rfl) ?_
    | refine r_ushr (by rfl) rfl (by rfl) (q := 32) (by rfl) (by rfl) (by rfl) (by rfl) ?_
    | refine r_umul (by rfl) rfl (by rfl) rfl (by rfl) (by rfl) ?_
    | refine r_uadd (by rfl) rfl (by rfl) rfl (by rfl) (by rfl) ?_)
  exact kr_ret [_, _] ⟨by rfl, by rfl, trivial⟩ (Below.refl _ _) trivial (fun _ _ => rfl)

theorem c159 (x y : U64) (w : World) : CE 159 [.int .u64 x.toNat, .int .u64 y.toNat] w (fun v _ => v = .tuple #[.int .u64 (mulHi x y).toNat, .int .u64 (x * y).toNat]) := by
  refine enter [] Hvat.func159 rfl Hvat.ntmps159 rfl (good_nil w) ?_
  repeat (first
    | refine r_p (by rfl) (by rfl) (by rfl) ?_
    | refine r_sk (by rfl) (by rfl) ?_
    | refine wr_nil ?_
    | refine sq_n ?_ | refine sq_ret ?_ | refine sq_exit ?_ | refine bk_n ?_ | refine bk_ret ?_ | refine bk_hit ?_ | refine bk_miss (by rfl) ?_ | refine lp_ret ?_ | refine lp_exit ?_
    | refine wc_seq (by rfl) ?_ | refine wc_block (by rfl) ?_ | refine wc_plain (by rfl) ?_ | refine wc_skip (by rfl) ?_ | refine wc_ret (by rfl) ?_ | refine wc_exit (by rfl) ?_)
  refine r_callE Hvat.func162 (by rfl) (by rfl) (Below.refl _ _) (Nat.le_refl _) trivial (by rfl) (by rfl) (fun w1 _ => c162 x y w1) ?_
  rintro v w2 rfl hs hx
  repeat (first
    | refine r_p (by rfl) (by rfl) (by rfl) ?_
    | refine r_sk (by rfl) (by rfl) ?_
    | refine wr_nil ?_
    | refine sq_n ?_ | refine sq_ret ?_ | refine sq_exit ?_ | refine bk_n ?_ | refine bk_ret ?_ | refine bk_hit ?_ | refine bk_miss (by rfl) ?_ | refine lp_ret ?_ | refine lp_exit ?_
    | refine wc_seq (by rfl) ?_ | refine wc_block (by rfl) ?_ | refine wc_plain (by rfl) ?_ | refine wc_skip (by rfl) ?_ | refine wc_ret (by rfl) ?_ | refine wc_exit (by rfl) ?_)
  exact kr_ret [_, _] ⟨by rfl, by rfl, trivial⟩ hx trivial (fun _ _ => rfl)

def foldM (h x : U64) : U64 := mulHi (h ^^^ x) 11400714819323198485#64 ^^^ ((h ^^^ x) * 11400714819323198485#64)

theorem c149 (h x : U64) (n m : Int) (hn : n = h.toNat) (hm : m = x.toNat) (w : World) : CE 149 [.int .u64 n, .int .u64 m] w (fun v _ => v = .int .u64 (foldM h x).toNat) := by
  subst hn; subst hm
  refine enter [] Hvat.func149 rfl Hvat.ntmps149 rfl (good_nil w) ?_
  repeat (first
    | refine r_p (by rfl) (by rfl) (by rfl) ?_
    | refine r_sk (by rfl) (by rfl) ?_
    | refine wr_nil ?_
    | refine sq_n ?_ | refine sq_ret ?_ | refine sq_exit ?_ | refine bk_n ?_ | refine bk_ret ?_ | refine bk_hit ?_ | refine bk_miss (by rfl) ?_ | refine lp_ret ?_ | refine lp_exit ?_
    | refine wc_seq (by rfl) ?_ | refine wc_block (by rfl) ?_ | refine wc_plain (by rfl) ?_ | refine wc_skip (by rfl) ?_ | refine wc_ret (by rfl) ?_ | refine wc_exit (by rfl) ?_)
  refine r_uxor (by rfl) rfl (by rfl) rfl (by rfl) (by rfl) ?_
  refine r_callE Hvat.func159 (by rfl) (by rfl) (Below.refl _ _) (Nat.le_refl _) trivial (by rfl) (by rfl) (fun w1 _ => c159 (h ^^^ x) 11400714819323198485#64 w1) ?_
  rintro v w2 rfl hs hx
  repeat (first
    | refine r_p (by rfl) (by rfl) (by rfl) ?_
    | refine r_sk (by rfl) (by rfl) ?_
    | refine wr_nil ?_
    | refine sq_n ?_ | refine sq_ret ?_ | refine sq_exit ?_ | refine bk_n ?_ | refine bk_ret ?_ | refine bk_hit ?_ | refine bk_miss (by rfl) ?_ | refine lp_ret ?_ | refine lp_exit ?_
    | refine wc_seq (by rfl) ?_ | refine wc_block (by rfl) ?_ | refine wc_plain (by rfl) ?_ | refine wc_skip (by rfl) ?_ | refine wc_ret (by rfl) ?_ | refine wc_exit (by rfl) ?_)
  refine r_uxor (by rfl) rfl (by rfl) rfl (by rfl) (by rfl) ?_
  repeat (first
    | refine r_p (by rfl) (by rfl) (by rfl) ?_
    | refine r_sk (by rfl) (by rfl) ?_
    | refine wr_nil ?_
    | refine sq_n ?_ | refine sq_ret ?_ | refine sq_exit ?_ | refine bk_n ?_ | refine bk_ret ?_ | refine bk_hit ?_ | refine bk_miss (by rfl) ?_ | refine lp_ret ?_ | refine lp_exit ?_
    | refine wc_seq (by rfl) ?_ | refine wc_block (by rfl) ?_ | refine wc_plain (by rfl) ?_ | refine wc_skip (by rfl) ?_ | refine wc_ret (by rfl) ?_ | refine wc_exit (by rfl) ?_)
  exact kr_ret [_] ⟨by rfl, trivial⟩ hx trivial (fun _ _ => rfl)

/-! ### num.inside, num.BE64 -/
theorem c121 (n o : Nat) (hn : n < 4611686018427387904) (ho : o + 8 ≤ n) (w : World) : CE 121 [.int .i64 n, .int .i64 o] w (fun v _ => v = .bool true) := by
  have h2 : decide ((8 : Int) ≤ (n : Int)) = true := by simp; omega
  have h3 : decide ((o : Int) ≤ (n : Int) - 8) = true := by simp; omega
  refine enter [] Hvat.func121 rfl Hvat.ntmps121 rfl (good_nil w) ?_
  repeat (first
    | refine r_p (by rfl) (by rfl) (by rfl) ?_
    | refine r_sk (by rfl) (by rfl) ?_
    | refine wr_nil ?_
    | refine sq_n ?_ | refine sq_ret ?_ | refine sq_exit ?_ | refine bk_n ?_ | refine bk_ret ?_ | refine bk_hit ?_ | refine bk_miss (by rfl) ?_ | refine lp_ret ?_ | refine lp_exit ?_
    | refine wc_seq (by rfl) ?_ | refine wc_block (by rfl) ?_ | refine wc_plain (by rfl) ?_ | refine wc_skip (by rfl) ?_ | refine wc_ret (by rfl) ?_ | refine wc_exit (by rfl) ?_)
  rw [h2]
  repeat (first
    | refine r_p (by rfl) (by rfl) (by rfl) ?_
    | refine r_sk (by rfl) (by rfl) ?_
    | refine wr_nil ?_
    | refine sq_n ?_ | refine sq_ret ?_ | refine sq_exit ?_ | refine bk_n ?_ | refine bk_ret ?_ | refine bk_hit ?_ | refine bk_miss (by rfl) ?_ | refine lp_ret ?_ | refine lp_exit ?_
    | refine wc_seq (by rfl) ?_ | refine wc_block (by rfl) ?_ | refine wc_plain (by rfl) ?_ | refine wc_skip (by rfl) ?_ | refine wc_ret (by rfl) ?_ | refine wc_exit (by rfl) ?_)
  refine r_sub (by rfl) (by rfl) (by exact ⟨by omega, by omega⟩) (by rfl) (by rfl) ?_
  repeat (first
    | refine r_p (by rfl) (by rfl) (by rfl) ?_
    | refine r_sk (by rfl) (by rfl) ?_
    | refine wr_nil ?_
    | refine sq_n ?_ | refine sq_ret ?_ | refine sq_exit ?_ | refine bk_n ?_ | refine bk_ret ?_ | refine bk_hit ?_ | refine bk_miss (by rfl) ?_ | refine lp_ret ?_ | refine lp_exit ?_
    | refine wc_seq (by rfl) ?_ | refine wc_block (by rfl) ?_ | refine wc_plain (by rfl) ?_ | refine wc_skip (by rfl) ?_ | refine wc_ret (by rfl) ?_ | refine wc_exit (by rfl) ?_)
  exact kr_ret [_] ⟨by rfl, trivial⟩ (Below.refl _ _) trivial (fun _ _ => by simp [retVal]; omega)

/-- The number that bytes spell, the first the highest. -/
def beN : List UInt8 → Nat := List.foldl (fun a x => a * 256 + x.toNat) 0

def byteC (l : List UInt8) : List Chunk := l.map fun x => cI .u8 (x.toNat : Int)
theorem flat_byteC : ∀ l : List UInt8, flat (byteC l) = bL l
  | [] => rfl
  | x :: l => by
    have := flat_byteC l
    simp only [byteC, List.map_cons, flat, cI, bL, List.cons_append, List.nil_append] at this ⊢
    rw [this]
theorem flen_byteC : ∀ l : List UInt8, flen (byteC l) = l.length
  | [] => rfl
  | x :: l => by
    have := flen_byteC l
    simp only [byteC, List.map_cons, flen, cI, List.length_cons] at this ⊢
    omega

theorem or_shl (a : Nat) (b q : Nat) (ha : a < 2 ^ q) : a ||| b <<< q = a + b * 2 ^ q := by
  rw [Nat.or_comm, ← Nat.shiftLeft_add_eq_or_of_lt ha, Nat.shiftLeft_eq, Nat.add_comm]

theorem u8_lt (x : UInt8) : x.toNat < 256 := x.toNat_lt

def u8w (x : UInt8) : U64 := BitVec.ofNat 64 x.toNat
theorem u8w_toNat (x : UInt8) : (u8w x).toNat = x.toNat := by
  have := u8_lt x
  simp [u8w]

theorem r_cv8 {N : Nat} {ops : Array Oper} {X : List Nat} {K : World → Env → Hp → Prop} {wb : World} {E : Env} {H : Hp} {r : List (Bool × Bool × Oper)} {ns : Bool}
    {d ty : Nat} {pos : String} {af : Array Edge} {g : Option (Nat × Bool)} {x : Operand} {p : UInt8} (hx : ev E x = some (.int .u8 (p.toNat : Int)))
    (hg : gd ops E ⟨some d, .convert 5 27 x, ty, pos, af, g⟩ = some true) (hN : Nat.blt d N = true)
    (h : WR N ops X r K wb ((d, .int .u64 ((u8w p).toNat : Int)) :: E) H) : WR N ops X ((true, ns, ⟨some d, .convert 5 27 x, ty, pos, af, g⟩) :: r) K wb E H := by
  rw [u8w_toNat] at h
  have := u8_lt p
  exact r_cv hx rfl rfl ⟨by omega, by omega⟩ hg hN h

theorem be8 (p0 p1 p2 p3 p4 p5 p6 p7 : UInt8) :
    (u8w p7 ||| u8w p6 <<< 8 ||| u8w p5 <<< 16 ||| u8w p4 <<< 24 ||| u8w p3 <<< 32 ||| u8w p2 <<< 40 ||| u8w p1 <<< 48 ||| u8w p0 <<< 56).toNat = beN [p0, p1, p2, p3, p4, p5, p6, p7] := by
  have h0 := u8_lt p0
  have h1 := u8_lt p1
  have h2 := u8_lt p2
  have h3 := u8_lt p3
  have h4 := u8_lt p4
  have h5 := u8_lt p5
  have h6 := u8_lt p6
  have h7 := u8_lt p7
  have sh : ∀ (x : UInt8) (q : Nat), q ≤ 56 → (u8w x <<< q).toNat = x.toNat <<< q := by
    intro x q hq
    rw [BitVec.toNat_shiftLeft, u8w_toNat]
    apply Nat.mod_eq_of_lt
    rw [Nat.shiftLeft_eq]
    have : 2 ^ q ≤ 2 ^ 56 := Nat.pow_le_pow_right (by decide) hq
    have := u8_lt x
    calc x.toNat * 2 ^ q ≤ 255 * 2 ^ 56 := Nat.mul_le_mul (by omega) (by assumption)
      _ < 2 ^ 64 := by decide
  simp only [BitVec.toNat_or]
  rw [sh _ _ (by decide), sh _ _ (by decide), sh _ _ (by decide), sh _ _ (by decide), sh _ _ (by decide), sh _ _ (by decide), sh _ _ (by decide), u8w_toNat]
  rw [or_shl _ _ 8 (by omega), or_shl _ _ 16 (by omega), or_shl _ _ 24 (by omega), or_shl _ _ 32 (by omega), or_shl _ _ 40 (by omega), or_shl _ _ 48 (by omega), or_shl _ _ 56 (by omega)]
  simp [beN]
  omega

/-- BE64 at a place where eight bytes lie. -/
theorem c60 (s : Sl) (l : List UInt8) (o : Nat) (w : World) (hl : BytesAt w [] s l) (hb : l.length < 4611686018427387904) (hcap : s.n ≤ s.c) (ho : o + 8 ≤ l.length) :
    CE 60 [.slice s.a s.n s.c, .int .i64 o] w (fun v _ => v = .tuple #[.int .u64 (beN ((l.drop o).take 8)), .bool true]) := by
  obtain ⟨hn, hl⟩ := hl
  rcases hl with ⟨_, rfl⟩ | ⟨b, oo, t, c, ha, hr, hc, hlen⟩
  · simp at ho
  rw [ha, hn]
  rw [hn] at hcap
  have hown : Own w b t c := by
    rcases hr with h | h
    · cases h
    · exact h.1
  -- the eight bytes
  obtain ⟨p0, p1, p2, p3, p4, p5, p6, p7, hp⟩ : ∃ p0 p1 p2 p3 p4 p5 p6 p7, (l.drop o).take 8 = [p0, p1, p2, p3, p4, p5, p6, p7] := by
    have hlen8 : ((l.drop o).take 8).length = 8 := by simp; omega
    match hq : (l.drop o).take 8, hlen8 with
    | [p0, p1, p2, p3, p4, p5, p6, p7], _ => exact ⟨p0, p1, p2, p3, p4, p5, p6, p7, rfl⟩
  refine enter [] Hvat.func60 rfl Hvat.ntmps60 rfl (good_nil w) ?_
  repeat (first
    | refine r_p (by rfl) (by rfl) (by rfl) ?_
    | refine r_sk (by rfl) (by rfl) ?_
    | refine wr_nil ?_
    | refine sq_n ?_ | refine sq_ret ?_ | refine sq_exit ?_ | refine bk_n ?_ | refine bk_ret ?_ | refine bk_hit ?_ | refine bk_miss (by rfl) ?_ | refine lp_ret ?_ | refine lp_exit ?_
    | refine wc_seq (by rfl) ?_ | refine wc_block (by rfl) ?_ | refine wc_plain (by rfl) ?_ | refine wc_skip (by rfl) ?_ | refine wc_ret (by rfl) ?_ | refine wc_exit (by rfl) ?_)
  refine r_callE Hvat.func121 (by rfl) (by rfl) (Below.refl _ _) (Nat.le_refl _) trivial (by rfl) (by rfl) (fun w1 _ => c121 l.length o hb ho w1) ?_
  rintro v w2 rfl hs hx
  repeat (first
    | refine r_p (by rfl) (by rfl) (by rfl) ?_
    | refine r_sk (by rfl) (by rfl) ?_
    | refine wr_nil ?_
    | refine sq_n ?_ | refine sq_ret ?_ | refine sq_exit ?_ | refine bk_n ?_ | refine bk_ret ?_ | refine bk_hit ?_ | refine bk_miss (by rfl) ?_ | refine lp_ret ?_ | refine lp_exit ?_
    | refine wc_seq (by rfl) ?_ | refine wc_block (by rfl) ?_ | refine wc_plain (by rfl) ?_ | refine wc_skip (by rfl) ?_ | refine wc_ret (by rfl) ?_ | refine wc_exit (by rfl) ?_)
  refine wc_cond (by rfl) (by rfl) (fun h => by cases h) (fun _ => ?_)
  repeat (first
    | refine r_p (by rfl) (by rfl) (by rfl) ?_
    | refine r_sk (by rfl) (by rfl) ?_
    | refine wr_nil ?_
    | refine sq_n ?_ | refine sq_ret ?_ | refine sq_exit ?_ | refine bk_n ?_ | refine bk_ret ?_ | refine bk_hit ?_ | refine bk_miss (by rfl) ?_ | refine lp_ret ?_ | refine lp_exit ?_
    | refine wc_seq (by rfl) ?_ | refine wc_block (by rfl) ?_ | refine wc_plain (by rfl) ?_ | refine wc_skip (by rfl) ?_ | refine wc_ret (by rfl) ?_ | refine wc_exit (by rfl) ?_)
  refine r_add (by rfl) (by rfl) (by exact ⟨by omega, by omega⟩) (by rfl) (by rfl) ?_
  refine r_sl_lh (l := o) (h := o + 8) (by rfl) (by rfl) rfl (by rfl) (by rfl) (by omega) (by omega) (by rfl) (by rfl) (by rfl) ?_
  refine r_s2a (by rfl) (by rfl) (by omega) (by rfl) (by rfl) ?_
  have hne : ¬ s.c = o := by omega
  rw [if_neg hne]
  refine r_ldN (ds := byteC [p0, p1, p2, p3, p4, p5, p6, p7]) (by rfl) (by rfl) (Rb.b (H := []) hown hx hown.lt trivial) ⟨?_, ?_, by rfl⟩ (by simp) (by rfl) (by rfl) ?_
  · rw [flat_byteC, ← hp]
    have e : ((c.drop oo).take l.length).drop o = (c.drop (oo + o)).take (l.length - o) := by
      rw [List.drop_take, List.drop_drop]
    rw [hc] at e
    have e2 : bL ((l.drop o).take 8) = ((bL l).drop o).take 8 := by simp [bL, List.map_take, List.map_drop]
    rw [e2, e, List.take_take, Nat.mul_one, show min 8 (l.length - o) = 8 by omega]
  · omega
  refine r_al (cs := byteC [0, 0, 0, 0, 0, 0, 0, 0]) (zeroIs_agg (by kernel_rfl)) (by rfl) (by rfl) fun b6 hb6 => ?_
  refine r_st (by rfl) (by rfl) (valC_agg _) (by rfl) upd_here (s_flat (by rfl) (by rfl)) (.inl rfl) (by rfl) ?_
  repeat (first
    | refine r_p (by rfl) (by rfl) (by rfl) ?_ | refine r_sk (by rfl) (by rfl) ?_ | refine wr_nil ?_ | refine sq_n ?_ | refine sq_ret ?_ | refine sq_exit ?_ | refine bk_n ?_ | refine bk_ret ?_ | refine bk_hit ?_ | refine bk_miss (by rfl) ?_ | refine lp_ret ?_ | refine lp_exit ?_ | refine wc_seq (by rfl) ?_ | refine wc_block (by rfl) ?_ | refine wc_plain (by rfl) ?_ | refine wc_skip (by rfl) ?_ | refine wc_ret (by rfl) ?_ | refine wc_exit (by rfl) ?_
    | refine r_ld1 (by rfl) (by rfl) (.h (.head _)) (g1_flat (by rfl) (by rfl)) (by simp) (by rfl) (by rfl) ?_
    | refine r_cv8 (by rfl) (by rfl) (by rfl) ?_
    | refine r_ushl (q := 8) (by rfl) rfl (by rfl) (by rfl) (by rfl) (by rfl) (by rfl) ?_
    | refine r_ushl (q := 16) (by rfl) rfl (by rfl) (by rfl) (by rfl) (by rfl) (by rfl) ?_
    | refine r_ushl (q := 24) (by rfl) rfl (by rfl) (by rfl) (by rfl) (by rfl) (by rfl) ?_
    | refine r_ushl (q := 32) (by rfl) rfl (by rfl) (by rfl) (by rfl) (by rfl) (by rfl) ?_
    | refine r_ushl (q := 40) (by rfl) rfl (by rfl) (by rfl) (by rfl) (by rfl) (by rfl) ?_
    | refine r_ushl (q := 48) (by rfl) rfl (by rfl) (by rfl) (by rfl) (by rfl) (by rfl) ?_
    | refine r_ushl (q := 56) (by rfl) rfl (by rfl) (by rfl) (by rfl) (by rfl) (by rfl) ?_
    | refine r_uor (by rfl) rfl (by rfl) rfl (by rfl) (by rfl) ?_)
  refine kr_ret [_, _] ⟨by rfl, by rfl, trivial⟩ hx (by have hz := hx.size; repeat (first | exact trivial | refine ⟨by omega, ?_⟩)) (fun _ _ => ?_)
  rw [be8, hp]
  rfl
end Go.Proofs.YgvatwGreat
