/-
  ENGINE, PART H: calls that only add; equality; strings; reslicing.
-/
import Derived.Test.YgvatwGreatEngG
import Derived.ChangeKeysEq
import Derived.Laws.StructEq
import Derived.Laws.BytesString
namespace Go.Proofs.YgvatwGreat
open Go Go.RowKit
set_option linter.unusedVariables false
set_option linter.unusedSimpArgs false

/-! ### A new base -/
structure Stp (wb : World) (H : Hp) (w' : World) : Prop where
  os : w'.os = wb.os
  tape : w'.tape = wb.tape
  output : w'.output = wb.output
  size : wb.heap.size ≤ w'.heap.size
  blk : ∀ b, b < wb.heap.size → b ∉ keys H → w'.heap[b]? = wb.heap[b]?

theorem Stp.own {wb w' : World} {H : Hp} (h : Stp wb H w') {b t : Nat} {c : List Value} (ho : Own wb b t c) (hk : b ∉ keys H) : Own w' b t c := by
  unfold Own; rw [h.blk b ho.lt hk]; exact ho

/-- All owned blocks lie at or above B. -/
def KG (B : Nat) : Hp → Prop
  | [] => True
  | e :: H => B ≤ e.1 ∧ KG B H
theorem KG.mem {B : Nat} : ∀ {H : Hp}, KG B H → ∀ k ∈ keys H, B ≤ k
  | [], _, k, hk => by cases hk
  | e :: H, h, k, hk => by
    simp only [keys, List.map_cons, List.mem_cons] at hk
    rcases hk with rfl | hk
    · exact h.1
    · exact KG.mem h.2 k hk
theorem KG.not {B : Nat} {H : Hp} (h : KG B H) {b : Nat} (hb : b < B) : b ∉ keys H := fun hm => by have := h.mem b hm; omega

theorem below_stp {B : Nat} {w wb w' : World} {H : Hp} (hx : Below B w wb) (hs : Stp wb H w') (hk : KG B H) (hB : B ≤ w.heap.size) : Below B w w' :=
  ⟨hs.os.trans hx.os, hs.tape.trans hx.tape, hs.output.trans hx.output, Nat.le_trans hx.size hs.size, fun k hkB => by
    rw [hs.blk k (by have := hx.size; omega) (hk.not hkB)]
    exact hx.block k hkB⟩

theorem Good.stp {wb w : World} {H : Hp} (h : Good wb H w) : Stp wb H w := ⟨h.os, h.tape, h.output, h.size, h.base⟩

theorem Own.below {B : Nat} {w w' : World} {b t : Nat} {c : List Value} (h : Own w b t c) (hx : Below B w w') (hb : b < B) : Own w' b t c := by
  unfold Own; rw [hx.block b hb]; exact h

/-- A block of the start, read now. -/
theorem Rb.b {B : Nat} {w wb : World} {H : Hp} {b t : Nat} {c : List Value} (h : Own w b t c) (hx : Below B w wb) (hb : b < B) (hk : KG B H) : Rb wb H b t c :=
  .inr ⟨h.below hx hb, hk.not hb⟩

theorem good_self {wb w : World} {H : Hp} (h : Good wb H w) : Good w H w :=
  ⟨rfl, rfl, rfl, Nat.le_refl _, fun _ _ _ => rfl, h.own, h.nodup⟩

/-- Behind a call that only adds: the world it leaves is the new base. -/
theorem Good.after {wb w1 w2 : World} {H : Hp} (h : Good wb H w1) (hx : Below w1.heap.size w1 w2) : Good w2 H w2 ∧ Stp wb H w2 := by
  refine ⟨⟨rfl, rfl, rfl, Nat.le_refl _, fun _ _ _ => rfl, fun e he => ?_, h.nodup⟩, ⟨hx.os.trans h.os, hx.tape.trans h.tape, hx.output.trans h.output, Nat.le_trans h.size hx.size, fun b hb hk => ?_⟩⟩
  · have ho := h.own e he
    rw [hx.block e.1 (Array.getElem?_eq_some_iff.1 ho).1]; exact ho
  · rw [hx.block b (by have := h.size; omega)]
    exact h.base b hb hk

theorem keepX_below {X : List Nat} {w w' : World} (hx : Below w.heap.size w w') : KeepX X w w' := ⟨hx.size, fun b hb _ => hx.block b hb⟩

section
variable {N : Nat} {ops : Array Oper} {X : List Nat} {K : World → Env → Hp → Prop} {wb : World} {E : Env} {H : Hp} {r : List (Bool × Bool × Oper)} {ns : Bool}
  {d ty : Nat} {pos : String} {af : Array Edge} {g : Option (Nat × Bool)} {t t' : Nat} {x y : Operand} {b off : Nat} {c : List Value} {v : Value} {k k' : IntKind} {m n : Int}

/-- A call of a function that only adds to memory. -/
theorem r_callE {f : Nat} {args : Array Operand} {ats : Array TypeId} {vs : List Value} {fn : Func} {B : Nat} {w : World} {R : Value → World → Prop} (hf : Hvat.prog.funcs[f]? = some fn) (hb : hasBody fn = true)
    (hvs : args.toList.mapM (ev E) = some vs) (hx : Below B w wb) (hB : B ≤ w.heap.size) (hk : KG B H)
    (hg : gd ops E ⟨some d, .call { callee := .value (.func f), args := args, argTypes := ats }, ty, pos, af, g⟩ = some true) (hN : Nat.blt d N = true)
    (hc : ∀ w1, Good wb H w1 → Calls Hvat.prog f vs.toArray w1 (fun e w' => ∃ v, e = .returned v ∧ R v w' ∧ Below w1.heap.size w1 w'))
    (h : ∀ v w2, R v w2 → Stp wb H w2 → Below B w w2 → WR N ops X r K w2 ((d, v) :: E) H) :
    WR N ops X ((false, ns, ⟨some d, .call { callee := .value (.func f), args := args, argTypes := ats }, ty, pos, af, g⟩) :: r) K wb E H := by
  refine r_call hf (body_of hb) hvs hg hN fun w1 hG => ?_
  refine (hc w1 hG).mono ?_
  rintro e w2 ⟨v, rfl, hR, hx2⟩
  have ha := hG.after hx2
  exact ⟨v, w2, H, rfl, ha.1, fun _ => keepX_below hx2, h v w2 hR ha.2 (below_stp hx ha.2 hk hB)⟩

/-! ### Equality -/
/-- 't's equality answers r at x and y. -/
def EqV (t : Nat) (x y : Value) (r : Bool) : Prop := ∀ (d : Nat) (w : World), (Op.equalIn (d + 3) t x y).run Hvat.prog w = .ok r w
def noGuard (P : Program) (t : Nat) : Bool := !(P.eqGuardType P.depth t)

theorem r_eql {q : Bool} {cs ds : Array Value} (hx : ev E x = some (.agg cs)) (hy : ev E y = some (.agg ds)) (hq : EqV t (.agg cs) (.agg ds) q) (hn : noGuard Hvat.prog t = true)
    (hg : gd ops E ⟨some d, .binOp .eql t x y t', ty, pos, af, g⟩ = some true) (hN : Nat.blt d N = true)
    (h : WR N ops X r K wb ((d, .bool q) :: E) H) : WR N ops X ((true, ns, ⟨some d, .binOp .eql t x y t', ty, pos, af, g⟩) :: r) K wb E H := by
  refine wr_q hg rfl hN (fun a w hs w' _ => ?_) h
  have hn' : Hvat.prog.eqGuardType Hvat.prog.depth t = false := by simpa [noGuard] using hn
  have he : (Op.equalIn 10000 t (.agg cs) (.agg ds)).run Hvat.prog w' = .ok q w' := hq 9997 w'
  simp [execOp, hs.on.eval hx, hs.on.eval hy, run_eqGuard_agg w' _ _ _ _ _ _ hn', run_eql_struct, he]

theorem r_neq {q : Bool} {cs ds : Array Value} (hx : ev E x = some (.agg cs)) (hy : ev E y = some (.agg ds)) (hq : EqV t (.agg cs) (.agg ds) q) (hn : noGuard Hvat.prog t = true)
    (hg : gd ops E ⟨some d, .binOp .neq t x y t', ty, pos, af, g⟩ = some true) (hN : Nat.blt d N = true)
    (h : WR N ops X r K wb ((d, .bool !q) :: E) H) : WR N ops X ((true, ns, ⟨some d, .binOp .neq t x y t', ty, pos, af, g⟩) :: r) K wb E H := by
  refine wr_q hg rfl hN (fun a w hs w' _ => ?_) h
  have hn' : Hvat.prog.eqGuardType Hvat.prog.depth t = false := by simpa [noGuard] using hn
  have he : (Op.equalIn 10000 t (.agg cs) (.agg ds)).run Hvat.prog w' = .ok q w' := hq 9997 w'
  simp [execOp, hs.on.eval hx, hs.on.eval hy, run_eqGuard_agg w' _ _ _ _ _ _ hn', run_neq_struct, he]
end

def intArrOk (P : Program) (t n : Nat) (k : IntKind) : Bool := match P.underlying t with
  | some (.array n' e) => n' == n && (match P.underlying e with | some (.int k') => k' == k | _ => false) && (P.info? e).any (·.size == 1)
  | _ => false

theorem intArr_und {t n : Nat} {k : IntKind} (h : intArrOk Hvat.prog t n k = true) : ∃ e, Hvat.prog.underlying t = some (.array n e) ∧ Hvat.prog.underlying e = some (.int k) ∧ ∃ i, Hvat.prog.info? e = some i ∧ i.size = 1 := by
  unfold intArrOk at h
  split at h
  · rename_i n' e hu
    simp only [Bool.and_eq_true, beq_iff_eq] at h
    obtain ⟨⟨rfl, h2⟩, h3⟩ := h
    split at h2
    · rename_i k' hk
      have : k' = k := by simpa using h2
      subst this
      cases hi : Hvat.prog.info? e with
      | none => rw [hi] at h3; cases h3
      | some i => rw [hi] at h3; exact ⟨e, hu, hk, i, hi, by simpa using h3⟩
    · cases h2
  · cases h

def intsL (k : IntKind) (n : Nat) (f : Nat → Int) : List Value := (List.range n).map fun i => .int k (f i)

theorem eqItems_ints {e : Nat} {k : IntKind} {i : TypeInfo} (he : Hvat.prog.underlying e = some (.int k)) (hi : Hvat.prog.info? e = some i) (hs : i.size = 1) (d n : Nat) (f g : Nat → Int) (w : World) :
    ∀ is : List Nat, (∀ j ∈ is, j < n) → (Op.eqItems (d + 1) e (Hvat.prog.cellsOf e) (intsL k n f).toArray (intsL k n g).toArray is).run Hvat.prog w = .ok (is.all fun j => f j == g j) w
  | [], _ => by simp [Op.eqItems]
  | j :: is, h => by
    have hj := h j (List.mem_cons_self ..)
    have ih := eqItems_ints he hi hs d n f g w is (fun j' hj' => h j' (List.mem_cons_of_mem _ hj'))
    have hc : Hvat.prog.cellsOf e = 1 := by simp [Program.cellsOf, hi, hs]
    have hp : ∀ f : Nat → Int, (part e (intsL k n f).toArray (j * Hvat.prog.cellsOf e)).run Hvat.prog w = .ok (.int k (f j)) w := by
      intro f
      unfold part
      have hagg : (isAgg e).run Hvat.prog w = .ok false w := by
        unfold isAgg
        rw [Sem.run_bind, run_underlying he w]
        simp
      simp [Sem.run_bind, hagg, hc, intsL, hj]
    rw [Op.eqItems]
    simp only [Sem.run_bind, hp, Result.andThen_ok, run_equalIn_int w d e k k _ _ he]
    cases hfg : (f j == g j) with
    | false => simp [hfg]
    | true => simp only [Bool.not_true, Bool.false_eq_true, if_false, List.all_cons, hfg, Bool.true_and]; exact ih

theorem eqv_ints {t n : Nat} {k : IntKind} (h : intArrOk Hvat.prog t n k = true) (f g : Nat → Int) : EqV t (.agg (intsL k n f).toArray) (.agg (intsL k n g).toArray) ((List.range n).all fun j => f j == g j) := by
  intro d w
  have ⟨e, hu, he, i, hi, hs⟩ := intArr_und h
  rw [show d + 3 = (d + 2) + 1 from rfl, run_equalIn_array w (d + 2) _ _ hu hi]
  exact eqItems_ints he hi hs (d + 1) n f g w (List.range n) (fun j hj => List.mem_range.1 hj)

theorem digits_inj (B : Nat) (hB : 0 < B) : ∀ (n x y : Nat), x < B ^ n → y < B ^ n → (∀ j, j < n → x / B ^ j % B = y / B ^ j % B) → x = y
  | 0, x, y, hx, hy, _ => by simp at hx hy; omega
  | n + 1, x, y, hx, hy, h => by
    have h0 := h 0 (by omega)
    simp only [Nat.pow_zero, Nat.div_one] at h0
    have ih := digits_inj B hB n (x / B) (y / B) (by rw [Nat.div_lt_iff_lt_mul hB, ← Nat.pow_succ]; exact hx) (by rw [Nat.div_lt_iff_lt_mul hB, ← Nat.pow_succ]; exact hy)
      (fun j hj => by
        have := h (j + 1) (by omega)
        rw [Nat.pow_succ, Nat.mul_comm, ← Nat.div_div_eq_div_mul, ← Nat.div_div_eq_div_mul] at this
        exact this)
    rw [← Nat.div_add_mod x B, ← Nat.div_add_mod y B, ih, h0]

theorem all_digits {B n x y : Nat} (hB : 0 < B) (hx : x < B ^ n) (hy : y < B ^ n) (s : Nat → Nat) (hs : ∀ j, j < n → ∃ i, i < n ∧ s i = j) :
    ((List.range n).all fun i => ((x / B ^ (s i) % B : Nat) : Int) == ((y / B ^ (s i) % B : Nat) : Int)) = decide (x = y) := by
  by_cases hxy : x = y
  · subst hxy; simp
  · rw [decide_eq_false hxy, Bool.eq_false_iff]
    intro hall
    rw [List.all_eq_true] at hall
    refine hxy (digits_inj B hB n x y hx hy fun j hj => ?_)
    obtain ⟨i, hi, rfl⟩ := hs j hj
    have := hall i (List.mem_range.2 hi)
    simp only [beq_iff_eq] at this
    omega

theorem flat1 (c : Chunk) : flat [c] = c.l := by simp [flat]

theorem ng34 : noGuard Hvat.prog 34 = true := by kernel_rfl
theorem ng45 : noGuard Hvat.prog 45 = true := by kernel_rfl
theorem ng24 : noGuard Hvat.prog 24 = true := by kernel_rfl
theorem ng26 : noGuard Hvat.prog 26 = true := by kernel_rfl
theorem ng50 : noGuard Hvat.prog 50 = true := by kernel_rfl
theorem ng119 : noGuard Hvat.prog 119 = true := by kernel_rfl
theorem ng122 : noGuard Hvat.prog 122 = true := by kernel_rfl
theorem ng167 : noGuard Hvat.prog 167 = true := by kernel_rfl
theorem ng174 : noGuard Hvat.prog 174 = true := by kernel_rfl
theorem ng47 : noGuard Hvat.prog 47 = true := by kernel_rfl

theorem eqv_addr (a b : A160) : EqV 34 (aggC [cA a]) (aggC [cA b]) (decide (a = b)) := by
  have h := eqv_ints (t := 34) (n := 20) (k := .u8) (by kernel_rfl) (fun i => ((a.toNat / 256 ^ (20 - 1 - i) % 256 : Nat) : Int)) (fun i => ((b.toNat / 256 ^ (20 - 1 - i) % 256 : Nat) : Int))
  rw [all_digits (B := 256) (n := 20) (by decide) a.isLt b.isLt (fun i => 20 - 1 - i) (fun j hj => ⟨20 - 1 - j, by omega, by omega⟩)] at h
  have e : decide (a.toNat = b.toNat) = decide (a = b) := by
    by_cases hab : a = b
    · subst hab; simp
    · rw [decide_eq_false hab, decide_eq_false (fun h => hab (BitVec.eq_of_toNat_eq h))]
  rw [e] at h
  unfold aggC
  rw [flat1, flat1]
  exact h

theorem eqv_word (a b : W256) : EqV 45 (aggC [cW a]) (aggC [cW b]) (decide (a = b)) := by
  have h := eqv_ints (t := 45) (n := 4) (k := .u64) (by kernel_rfl) (fun i => ((a.toNat / 2 ^ (64 * i) % 2 ^ 64 : Nat) : Int)) (fun i => ((b.toNat / 2 ^ (64 * i) % 2 ^ 64 : Nat) : Int))
  have hp : ∀ i, 2 ^ (64 * i) = (2 ^ 64) ^ i := fun i => by rw [Nat.pow_mul]
  simp only [hp] at h
  rw [all_digits (B := 2 ^ 64) (n := 4) (by decide) (by rw [← Nat.pow_mul]; exact a.isLt) (by rw [← Nat.pow_mul]; exact b.isLt) (fun i => i) (fun j hj => ⟨j, hj, rfl⟩)] at h
  have e : decide (a.toNat = b.toNat) = decide (a = b) := by
    by_cases hab : a = b
    · subst hab; simp
    · rw [decide_eq_false hab, decide_eq_false (fun h => hab (BitVec.eq_of_toNat_eq h))]
  rw [e] at h
  unfold aggC
  rw [flat1, flat1]
  simp only [cW, wordL, hp]
  exact h

theorem eqv_tab {t n : Nat} (ht : intArrOk Hvat.prog t n .i32 = true) (f g : Nat → Int) : EqV t (aggC [cT n f]) (aggC [cT n g]) ((List.range n).all fun j => f j == g j) := by
  have h := eqv_ints ht f g
  unfold aggC
  rw [flat1, flat1]
  exact h
end Go.Proofs.YgvatwGreat
