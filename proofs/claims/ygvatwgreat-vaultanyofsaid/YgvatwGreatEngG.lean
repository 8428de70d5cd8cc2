/-
  ENGINE, PART G: arithmetic, places, entering and leaving.
-/
import Derived.Test.YgvatwGreatEngF
namespace Go.Proofs.YgvatwGreat
open Go Go.RowKit
set_option linter.unusedVariables false
set_option linter.unusedSimpArgs false

def inR : IntKind → Int → Prop
  | .i8, n => -128 ≤ n ∧ n < 128
  | .i16, n => -32768 ≤ n ∧ n < 32768
  | .i32, n => -2147483648 ≤ n ∧ n < 2147483648
  | .i64, n => -9223372036854775808 ≤ n ∧ n < 9223372036854775808
  | .u8, n => 0 ≤ n ∧ n < 256
  | .u16, n => 0 ≤ n ∧ n < 65536
  | .u32, n => 0 ≤ n ∧ n < 4294967296
  | .u64, n => 0 ≤ n ∧ n < 18446744073709551616

theorem wrap_in {k : IntKind} {n : Int} (h : inR k n) : k.wrap n = n := by
  cases k <;> simp only [inR] at h <;> simp [IntKind.wrap, IntKind.bits, IntKind.signed] <;> omega

def tKind : List (Nat × IntKind) := [(3, .i64), (2, .i64), (21, .i32), (27, .u64), (5, .u8), (154, .u32)]
def kindOk (P : Program) (x : Nat × IntKind) : Bool := match P.underlying x.1 with
  | some (.int k) => k == x.2
  | _ => false
theorem tKind_ok : tKind.all (kindOk Hvat.prog) = true := by kernel_rfl
theorem kind_und {t : Nat} {k : IntKind} (h : lookN t tKind = some k) : Hvat.prog.underlying t = some (.int k) := by
  have := List.all_eq_true.1 tKind_ok _ (lookN_mem h)
  unfold kindOk at this
  simp only at this
  split at this
  · rename_i k' hk
    have : k' = k := by simpa using this
    rw [hk, this]
  · cases this

section
variable {N : Nat} {ops : Array Oper} {X : List Nat} {K : World → Env → Hp → Prop} {wb : World} {E : Env} {H : Hp} {r : List (Bool × Bool × Oper)} {ns : Bool}
  {d ty : Nat} {pos : String} {af : Array Edge} {g : Option (Nat × Bool)} {t t' : Nat} {x y : Operand} {b off : Nat} {c : List Value} {v : Value} {k k' : IntKind} {m n : Int}

theorem r_add (hx : ev E x = some (.int k m)) (hy : ev E y = some (.int k n)) (hr : inR k (m + n))
    (hg : gd ops E ⟨some d, .binOp .add t x y t', ty, pos, af, g⟩ = some true) (hN : Nat.blt d N = true)
    (h : WR N ops X r K wb ((d, .int k (m + n)) :: E) H) : WR N ops X ((true, ns, ⟨some d, .binOp .add t x y t', ty, pos, af, g⟩) :: r) K wb E H := by
  refine wr_q hg rfl hN (fun a w hs w' _ => ?_) h
  simp [execOp, hs.on.eval hx, hs.on.eval hy, eqGuard, binOp, Op.intArith, wrap_in hr]

theorem r_sub (hx : ev E x = some (.int k m)) (hy : ev E y = some (.int k n)) (hr : inR k (m - n))
    (hg : gd ops E ⟨some d, .binOp .sub t x y t', ty, pos, af, g⟩ = some true) (hN : Nat.blt d N = true)
    (h : WR N ops X r K wb ((d, .int k (m - n)) :: E) H) : WR N ops X ((true, ns, ⟨some d, .binOp .sub t x y t', ty, pos, af, g⟩) :: r) K wb E H := by
  refine wr_q hg rfl hN (fun a w hs w' _ => ?_) h
  simp [execOp, hs.on.eval hx, hs.on.eval hy, eqGuard, binOp, Op.intArith, wrap_in hr]

theorem r_mul (hx : ev E x = some (.int k m)) (hy : ev E y = some (.int k n)) (hr : inR k (m * n))
    (hg : gd ops E ⟨some d, .binOp .mul t x y t', ty, pos, af, g⟩ = some true) (hN : Nat.blt d N = true)
    (h : WR N ops X r K wb ((d, .int k (m * n)) :: E) H) : WR N ops X ((true, ns, ⟨some d, .binOp .mul t x y t', ty, pos, af, g⟩) :: r) K wb E H := by
  refine wr_q hg rfl hN (fun a w hs w' _ => ?_) h
  simp [execOp, hs.on.eval hx, hs.on.eval hy, eqGuard, binOp, Op.intArith, wrap_in hr]

theorem r_rem {p q : Nat} (hx : ev E x = some (.int k m)) (hm : m = (p : Int)) (hy : ev E y = some (.int k n)) (hn : n = (q : Int)) (hq : Nat.blt 0 q = true)
    (hg : gd ops E ⟨some d, .binOp .rem t x y t', ty, pos, af, g⟩ = some true) (hN : Nat.blt d N = true)
    (h : WR N ops X r K wb ((d, .int k ((p % q : Nat) : Int)) :: E) H) : WR N ops X ((true, ns, ⟨some d, .binOp .rem t x y t', ty, pos, af, g⟩) :: r) K wb E H := by
  subst hm; subst hn
  have hq' : q ≠ 0 := by
    intro h0; subst h0; simp [Nat.blt] at hq
  have hq'' : ¬ (q : Int) = 0 := by omega
  refine wr_q hg rfl hN (fun a w hs w' _ => ?_) h
  simp [execOp, hs.on.eval hx, hs.on.eval hy, eqGuard, binOp, Op.intDiv, hq']
  exact (Int.ofNat_tmod p q).symm

theorem r_cv (hx : ev E x = some (.int k m)) (hs : (lookN t tKind).isSome = true) (hd : lookN t' tKind = some k') (hr : inR k' m)
    (hg : gd ops E ⟨some d, .convert t t' x, ty, pos, af, g⟩ = some true) (hN : Nat.blt d N = true)
    (h : WR N ops X r K wb ((d, .int k' m) :: E) H) : WR N ops X ((true, ns, ⟨some d, .convert t t' x, ty, pos, af, g⟩) :: r) K wb E H := by
  obtain ⟨k0, hk0⟩ := Option.isSome_iff_exists.1 hs
  have hu := kind_und hk0
  have hu' := kind_und hd
  refine wr_q hg rfl hN (fun a w hs w' _ => ?_) h
  simp [execOp, hs.on.eval hx, convert, underlying, hu, hu', Conv.intToInt, wrap_in hr]

theorem r_ix {i : Int} {kk e sz yy nn cc : Nat} (hx : ev E x = some (.slice (some ⟨b, off, none⟩) nn cc)) (hi : ev E y = some (.int k i)) (hik : i = (kk : Int)) (hlt : kk < nn) (ht : slc t = some (e, sz, yy))
    (hg : gd ops E ⟨some d, .indexAddr t x y, ty, pos, af, g⟩ = some true) (hN : Nat.blt d N = true)
    (h : WR N ops X r K wb ((d, .pointer (some ⟨b, off + kk * sz, none⟩)) :: E) H) : WR N ops X ((true, ns, ⟨some d, .indexAddr t x y, ty, pos, af, g⟩) :: r) K wb E H := by
  subst hik
  have hu := (slc_und ht).1
  have ⟨i', hi', hsz, _⟩ := (slc_und ht).2
  refine wr_q hg rfl hN (fun a w hs w' _ => ?_) h
  have h1 : (0 : Int) ≤ (kk : Int) ∧ (kk : Int) < (nn : Int) := by omega
  simp [execOp, hs.on.eval hx, hs.on.eval hi, Instr.indexAt, asIntOf, underlying, hu, sizeOf, typeInfo, hi', hsz, add_none, hlt]

theorem r_ixa {i : Int} {kk nn : Nat} (hx : ev E x = some (.pointer (some ⟨b, off, none⟩))) (hi : ev E y = some (.int k i)) (hik : i = (kk : Int)) (ht : alen t = some nn) (hlt : kk < nn)
    (hg : gd ops E ⟨some d, .indexAddr t x y, ty, pos, af, g⟩ = some true) (hN : Nat.blt d N = true)
    (h : WR N ops X r K wb ((d, .pointer (some ⟨b, off + kk, none⟩)) :: E) H) : WR N ops X ((true, ns, ⟨some d, .indexAddr t x y, ty, pos, af, g⟩) :: r) K wb E H := by
  subst hik
  have ⟨e, hu, h2, i', hi', hsz⟩ := alen_und ht
  refine wr_q hg rfl hN (fun a w hs w' _ => ?_) h
  simp [execOp, hs.on.eval hx, hs.on.eval hi, Instr.indexAt, asIntOf, underlying, hu, Instr.sureAddr, sizeOf, typeInfo, hi', hsz, add_none, hlt]
end

/-! ### Continuations -/
theorem sq_n {N : Nat} {c : Code} {K : Exit → World → Env → Hp → Prop} {wb : World} {E : Env} {H : Hp} (h : WC N c K wb E H) : sq N c K .normal wb E H := ⟨h⟩
theorem sq_ret {N : Nat} {c : Code} {K : Exit → World → Env → Hp → Prop} {wb : World} {E : Env} {H : Hp} (h : K .ret wb E H) : sq N c K .ret wb E H := ⟨h⟩
theorem sq_exit {N id : Nat} {c : Code} {K : Exit → World → Env → Hp → Prop} {wb : World} {E : Env} {H : Hp} (h : K (.exit id) wb E H) : sq N c K (.exit id) wb E H := ⟨h⟩
theorem bk_n {id : Nat} {K : Exit → World → Env → Hp → Prop} {wb : World} {E : Env} {H : Hp} (h : K .normal wb E H) : bk id K .normal wb E H := ⟨h⟩
theorem bk_ret {id : Nat} {K : Exit → World → Env → Hp → Prop} {wb : World} {E : Env} {H : Hp} (h : K .ret wb E H) : bk id K .ret wb E H := ⟨h⟩
theorem bk_hit {id : Nat} {K : Exit → World → Env → Hp → Prop} {wb : World} {E : Env} {H : Hp} (h : K .normal wb E H) : bk id K (.exit id) wb E H := ⟨by simp [bkF, h]⟩
theorem bk_miss {id j : Nat} {K : Exit → World → Env → Hp → Prop} {wb : World} {E : Env} {H : Hp} (hj : Nat.beq j id = false) (h : K (.exit j) wb E H) : bk id K (.exit j) wb E H := by
  have : ¬ j = id := fun e => by subst e; simp at hj
  exact ⟨by simp [bkF, this, h]⟩

theorem lp_n {ι : Type} {I : ι → World → Env → Hp → Prop} {μ : ι → Nat} {K : Exit → World → Env → Hp → Prop} {x : ι} {wb : World} {E : Env} {H : Hp} (y : ι) (E'' : Env)
    (h1 : I y wb E'' H) (h2 : SubE E'' E) (h3 : μ y < μ x) : lp I μ K x .normal wb E H := ⟨y, E'', h1, h2, h3⟩
theorem lp_ret {ι : Type} {I : ι → World → Env → Hp → Prop} {μ : ι → Nat} {K : Exit → World → Env → Hp → Prop} {x : ι} {wb : World} {E : Env} {H : Hp} (h : K .ret wb E H) : lp I μ K x .ret wb E H := ⟨h⟩
theorem lp_exit {ι : Type} {I : ι → World → Env → Hp → Prop} {μ : ι → Nat} {K : Exit → World → Env → Hp → Prop} {x : ι} {id : Nat} {wb : World} {E : Env} {H : Hp} (h : K (.exit id) wb E H) : lp I μ K x (.exit id) wb E H := ⟨h⟩

/-! ### Entering and leaving -/
def argE : Nat → List Value → Env
  | _, [] => []
  | i, v :: vs => (i, v) :: argE (i + 1) vs

theorem argE_lk : ∀ (vs : List Value) (i t : Nat) (v : Value), lk (argE i vs) t = some v → i ≤ t ∧ vs[t - i]? = some v
  | [], i, t, v, h => by cases h
  | u :: vs, i, t, v, h => by
    simp only [argE, lk] at h
    cases hb : Nat.beq i t with
    | true =>
      rw [hb] at h
      have := Nat.eq_of_beq_eq_true hb
      subst this
      simp at h; simp [h]
    | false =>
      rw [hb] at h
      obtain ⟨h1, h2⟩ := argE_lk vs (i + 1) t v h
      refine ⟨by omega, ?_⟩
      rw [show t - i = (t - (i + 1)) + 1 by omega]
      simpa using h2

/-- A result. -/
def ResV (E : Env) (wb : World) (H : Hp) : ResultVar → Value → Prop
  | .tmp t, v => lk E t = some v
  | .cell t ty, v => ∃ b off t' c ds n, lk E t = some (.pointer (some ⟨b, off, none⟩)) ∧ Rb wb H b t' c ∧ aggN ty = some n ∧ GetN c off n ds ∧ v = aggC ds

def ResL (E : Env) (wb : World) (H : Hp) : List ResultVar → List Value → Prop
  | [], [] => True
  | r :: rs, v :: vs => ResV E wb H r v ∧ ResL E wb H rs vs
  | _, _ => False

def retVal : List Value → Value
  | [v] => v
  | vs => .tuple vs.toArray

theorem run_mapM_list {α β : Type} (f : α → Sem β) (w : World) : ∀ (l : List α) (vs : List β), l.length = vs.length → (∀ (i : Nat) (a : α) (v : β), l[i]? = some a → vs[i]? = some v → (f a).run Hvat.prog w = .ok v w) →
    (l.mapM f).run Hvat.prog w = .ok vs w
  | [], [], _, _ => by simp [Sem.run]
  | a :: l, v :: vs, hl, h => by
    have h0 := h 0 a v rfl rfl
    have ih := run_mapM_list f w l vs (by simpa using hl) (fun i a' v' h1 h2 => h (i + 1) a' v' h1 h2)
    simp [List.mapM_cons, h0, ih]
  | [], v :: vs, hl, _ => by simp at hl
  | a :: l, [], hl, _ => by simp at hl

theorem results_run {fn : Func} {N : Nat} {E : Env} {wb w : World} {H : Hp} {a : Act} {vs : List Value} (hon : On N E a) (hG : Good wb H w) (hr : ResL E wb H fn.results.toList vs) :
    (results fn a.tmps).run Hvat.prog w = .ok (retVal vs) w := by
  have hlen : ∀ (rs : List ResultVar) (vs : List Value), ResL E wb H rs vs → rs.length = vs.length := by
    intro rs
    induction rs with
    | nil => intro vs h; cases vs with
      | nil => rfl
      | cons v vs => cases h
    | cons r rs ih => intro vs h; cases vs with
      | nil => cases h
      | cons v vs => simp [ih vs h.2]
  have hat : ∀ (rs : List ResultVar) (vs : List Value), ResL E wb H rs vs → ∀ (i : Nat) (r : ResultVar) (v : Value), rs[i]? = some r → vs[i]? = some v → ResV E wb H r v := by
    intro rs
    induction rs with
    | nil => intro vs _ i r v h; simp at h
    | cons r rs ih => intro vs h i r' v hr hv; cases vs with
      | nil => cases h
      | cons u vs =>
        cases i with
        | zero => simp at hr hv; subst hr; subst hv; exact h.1
        | succ i => exact ih vs h.2 i r' v (by simpa using hr) (by simpa using hv)
  have hrun : ∀ (r : ResultVar) (v : Value), ResV E wb H r v → (match r with
    | .tmp t => (pure (a.tmps.getD t undef) : Sem Value)
    | .cell b t => do loadVar t (← asAddr (a.tmps.getD b undef))).run Hvat.prog w = .ok v w := by
    intro r v h
    cases r with
    | tmp t =>
      have : a.tmps.getD t undef = v := hon.at_ t v h
      simp only [this]
      rfl
    | cell t ty =>
      obtain ⟨b, off, t', c, ds, n, h1, h2, h3, ⟨h4, h5, h6⟩, rfl⟩ := h
      have e1 := hon.at_ t _ h1
      have ho := hG.rb h2
      have hl := run_loadN (w := w) (a := ⟨b, off, none⟩) (cs := flat ds) h3 (by rw [flat_len]; exact h6) (fun j u hj => by
        rw [add_none, ho.cell]
        rw [← h4, List.getElem?_take] at hj
        split at hj
        · rw [List.getElem?_drop] at hj; exact hj
        · cases hj)
      simp only [e1]
      simp [asAddr, hl, aggC]
  unfold results
  have e : fn.results = fn.results.toList.toArray := by simp
  rw [e, List.mapM_toArray]
  have hm := run_mapM_list (fun r => (match r with
    | .tmp t => (pure (a.tmps.getD t undef) : Sem Value)
    | .cell b t => do loadVar t (← asAddr (a.tmps.getD b undef)))) w fn.results.toList vs (hlen _ _ hr) (fun i r v h1 h2 => hrun r v (hat _ _ hr i r v h1 h2))
  simp only [bind_map_left, Sem.run_bind]
  refine (congrArg (fun r : Result (List Value) => r.andThen (fun (a : List Value) w' => Sem.run Hvat.prog (pure (if h : a.toArray.size = 1 then a.toArray[0] else Value.tuple a.toArray)) w')) hm).trans ?_
  cases vs with
  | nil => simp [retVal]
  | cons v vs => cases vs with
    | nil => simp [retVal]
    | cons u vs => simp [retVal]

/-- Entering a function: the continuation at its end. -/
def KR (fn : Func) (R : Value → World → Prop) : Exit → World → Env → Hp → Prop := fun e wb E H =>
  (e = .ret ∨ e = .normal) ∧ ∃ vs, ResL E wb H fn.results.toList vs ∧ ∀ w', Good wb H w' → R (retVal vs) w'

def bodyOf (fn : Func) : Code := match fn.body with
  | some c => c
  | none => .skip
def hasBody (fn : Func) : Bool := match fn.body with
  | some _ => true
  | none => false
theorem body_of {fn : Func} (h : hasBody fn = true) : fn.body = some (bodyOf fn) := by
  unfold hasBody at h
  unfold bodyOf
  split at h
  · rename_i c hc; rw [hc]
  · cases h

theorem enter {f : Nat} {fn : Func} {N : Nat} {args : List Value} {w : World} {R : Value → World → Prop} (H0 : Hp) (hf : Hvat.prog.funcs[f]? = some fn) (hb : hasBody fn = true) (hN : fn.ntmps = N)
    (hl : Nat.ble args.length N = true) (hG : Good w H0 w) (h : WC N (bodyOf fn) (KR fn R) w (argE 0 args) H0) :
    Calls Hvat.prog f args.toArray w (fun e w' => ∃ v, e = .returned v ∧ R v w') := by
  refine calls_of_wp hf (body_of hb) ?_
  have hl := Nat.le_of_ble_eq_true hl
  refine wp_mono (h.run _ w ⟨⟨?_, rfl, ?_⟩, hG⟩) ?_
  · simp [hN]; omega
  · intro t v ht
    obtain ⟨h1, h2⟩ := argE_lk args 0 t v ht
    have hlt : t < args.length := by
      have := (List.getElem?_eq_some_iff.1 h2).1; omega
    simp only [Nat.sub_zero] at h2
    have h3 : args[t] = v := by
      rw [List.getElem?_eq_getElem hlt] at h2
      exact Option.some.inj h2
    simp [Array.getElem?_append, hlt, h3]
  · rintro e a w' ⟨wb, E, H, hst, he, vs, hr, hR⟩
    have hrun := results_run hst.on hst.good hr
    rcases he with rfl | rfl
    · exact ⟨hst.on.defers, _, hrun, _, rfl, hR w' hst.good⟩
    · exact ⟨hst.on.defers, _, hrun, _, rfl, hR w' hst.good⟩

theorem good_nil (w : World) : Good w [] w := ⟨rfl, rfl, rfl, Nat.le_refl _, fun _ _ _ => rfl, fun e he => (by cases he), List.nodup_nil⟩

/-- What stood at the start, stands. -/
theorem Good.below {B : Nat} {w wb w' : World} {H : Hp} (hG : Good wb H w') (hb : Below B w wb) (hB : B ≤ w.heap.size) (hk : ∀ k ∈ keys H, B ≤ k) : Below B w w' :=
  ⟨hG.os.trans hb.os, hG.tape.trans hb.tape, hG.output.trans hb.output, Nat.le_trans hb.size hG.size, fun k hkB => by
    rw [hG.base k (by have := hb.size; omega) (fun hm => by have := hk k hm; omega)]
    exact hb.block k hkB⟩
end Go.Proofs.YgvatwGreat
