/-
  ENGINE, PART B: symbolic frames and heaps; the judgements WR (a region) and WC (code); control.
-/
import Derived.Test.YgvatwGreatEngA
import Derived.Below
import Derived.LoopN
namespace Go.Proofs.YgvatwGreat
open Go
set_option linter.unusedVariables false
set_option linter.unusedSimpArgs false

abbrev Env := List (Nat × Value)
/-- Owned blocks: number, element type, cells. -/
abbrev Hp := List (Nat × TypeId × List Value)

def lk : Env → Nat → Option Value
  | [], _ => none
  | (s, v) :: E, t => match Nat.beq s t with
    | true => some v
    | false => lk E t

def ev (E : Env) : Operand → Option Value
  | .tmp t => lk E t
  | .const v => some v
  | .global g => some (.pointer (some ⟨g, 0, none⟩))
  | .func f => some (.func (.func f) #[] #[])

def keys (H : Hp) : List Nat := H.map (·.1)

structure On (N : Nat) (E : Env) (a : Act) : Prop where
  size : a.tmps.size = N
  defers : a.defers = []
  at_ : ∀ t v, lk E t = some v → a.tmps.getD t undef = v

theorem On.eval {N : Nat} {E : Env} {a : Act} (h : On N E a) {x : Operand} {v : Value} (hx : ev E x = some v) : a.eval x = v := by
  cases x with
  | tmp t => exact h.at_ t v hx
  | const c => simpa [ev, Act.eval] using hx
  | global g => simpa [ev, Act.eval] using hx
  | func f => simpa [ev, Act.eval] using hx

theorem On.put {N : Nat} {E : Env} {a : Act} (h : On N E a) {d : Nat} (hd : d < N) (v : Value) : On N ((d, v) :: E) (a.put (some d) v) := by
  refine ⟨by simp [Act.put, h.size], by simp [Act.put, h.defers], fun t u hu => ?_⟩
  simp only [lk] at hu
  cases hb : Nat.beq d t with
  | true =>
    rw [hb] at hu
    have : d = t := Nat.eq_of_beq_eq_true hb
    subst this
    have hlt : d < a.tmps.size := by rw [h.size]; exact hd
    simp only [Option.some.injEq] at hu
    subst hu
    simp [Act.put, hlt]
  | false =>
    rw [hb] at hu
    have hne : d ≠ t := fun e => by subst e; simp at hb
    have := h.at_ t u hu
    simp only [Act.put]
    rw [← this]
    simp [Array.getElem?_setIfInBounds_ne hne]

theorem On.put_none {N : Nat} {E : Env} {a : Act} (h : On N E a) (v : Value) : On N E (a.put none v) := h

def SubE (E' E : Env) : Prop := ∀ t v, lk E' t = some v → lk E t = some v

theorem On.sub {N : Nat} {E E' : Env} {a : Act} (h : On N E a) (hs : SubE E' E) : On N E' a := ⟨h.size, h.defers, fun t v ht => h.at_ t v (hs t v ht)⟩

theorem SubE.nil (E : Env) : SubE [] E := fun _ _ h => by cases h
theorem SubE.cons {E' E : Env} {t : Nat} {v : Value} (h1 : lk E t = some v) (h : SubE E' E) : SubE ((t, v) :: E') E := by
  intro s u hs
  simp only [lk] at hs
  cases hb : Nat.beq t s with
  | true =>
    rw [hb] at hs
    have : t = s := Nat.eq_of_beq_eq_true hb
    subst this
    rw [h1]; exact hs
  | false => rw [hb] at hs; exact h s u hs
theorem SubE.refl (E : Env) : SubE E E := fun _ _ h => h

structure Good (wb : World) (H : Hp) (w : World) : Prop where
  os : w.os = wb.os
  tape : w.tape = wb.tape
  output : w.output = wb.output
  size : wb.heap.size ≤ w.heap.size
  base : ∀ b, b < wb.heap.size → b ∉ keys H → w.heap[b]? = wb.heap[b]?
  own : ∀ e ∈ H, w.heap[e.1]? = some (.cells e.2.2.toArray e.2.1 (0, 0))
  nodup : (keys H).Nodup

/-- The block holds just these cells, none frozen. -/
def Own (w : World) (b : Nat) (t : TypeId) (c : List Value) : Prop := w.heap[b]? = some (.cells c.toArray t (0, 0))

theorem Own.lt {w : World} {b : Nat} {t : TypeId} {c : List Value} (h : Own w b t c) : b < w.heap.size := (Array.getElem?_eq_some_iff.1 h).1

structure St (N : Nat) (wb : World) (E : Env) (H : Hp) (a : Act) (w : World) : Prop where
  on : On N E a
  good : Good wb H w

/-- Code. The continuation is told the base, the frame and the heap. -/
structure WC (N : Nat) (c : Code) (K : Exit → World → Env → Hp → Prop) (wb : World) (E : Env) (H : Hp) : Prop where
  run : ∀ a w, St N wb E H a w → c.wp Hvat.prog (fun e a' w' => ∃ wb' E' H', St N wb' E' H' a' w' ∧ K e wb' E' H') a w

/-- A list of operations of the region 'ops'. -/
structure WR (N : Nat) (ops : Array Oper) (X : List Nat) (l : List (Bool × Bool × Oper)) (K : World → Env → Hp → Prop) (wb : World) (E : Env) (H : Hp) : Prop where
  run : ∀ a w, St N wb E H a w → wpF Hvat.prog X ops (fun a' w' => ∃ wb' E' H', St N wb' E' H' a' w' ∧ K wb' E' H') l a w

/-! ### Code, by its parts -/
def cL : Code → Code
  | .seq a _ => a
  | .cond _ a _ => a
  | .block _ a => a
  | .loop a => a
  | _ => .skip
def cR : Code → Code
  | .seq _ b => b
  | .cond _ _ b => b
  | _ => .skip
def cTag : Code → Nat × Nat
  | .skip => (0, 0)
  | .region _ _ false => (1, 0)
  | .region _ _ true => (2, 0)
  | .seq _ _ => (3, 0)
  | .cond _ _ _ => (4, 0)
  | .block id _ => (5, id)
  | .loop _ => (6, 0)
  | .exit id => (7, id)
  | .ret => (8, 0)
  | _ => (9, 0)
def cCond : Code → Operand
  | .cond x _ _ => x
  | _ => .func 0
def cOps : Code → Array Oper
  | .region _ o _ => o
  | _ => #[]

section
variable {N : Nat} {K : Exit → World → Env → Hp → Prop} {wb : World} {E : Env} {H : Hp} {c : Code}

def sqF (N : Nat) (c : Code) (K : Exit → World → Env → Hp → Prop) : Exit → World → Env → Hp → Prop
  | .normal, wb, E, H => WC N c K wb E H
  | e, wb, E, H => K e wb E H

structure sq (N : Nat) (c : Code) (K : Exit → World → Env → Hp → Prop) (e : Exit) (wb : World) (E : Env) (H : Hp) : Prop where
  run : sqF N c K e wb E H

def bkF (id : Nat) (K : Exit → World → Env → Hp → Prop) : Exit → World → Env → Hp → Prop
  | .exit j, wb, E, H => if j = id then K .normal wb E H else K (.exit j) wb E H
  | e, wb, E, H => K e wb E H

structure bk (id : Nat) (K : Exit → World → Env → Hp → Prop) (e : Exit) (wb : World) (E : Env) (H : Hp) : Prop where
  run : bkF id K e wb E H

theorem wc_mono {K' : Exit → World → Env → Hp → Prop} (h : WC N c K wb E H) (hk : ∀ e wb E H, K e wb E H → K' e wb E H) : WC N c K' wb E H :=
  ⟨fun a w hs => wp_mono (h.run a w hs) fun _ _ _ ⟨wb', E', H', h1, h2⟩ => ⟨wb', E', H', h1, hk _ _ _ _ h2⟩⟩

theorem wc_seq (hc : cTag c = (3, 0)) (h : WC N (cL c) (sq N (cR c) K) wb E H) : WC N c K wb E H := by
  cases c with
  | seq x y =>
    refine ⟨fun a w hs => ?_⟩
    refine wp_seq (wp_mono (h.run a w hs) ?_)
    rintro e a' w' ⟨wb', E', H', h1, ⟨h2⟩⟩
    cases e with
    | normal => exact WC.run h2 a' w' h1
    | exit id => exact ⟨wb', E', H', h1, h2⟩
    | goto l => exact ⟨wb', E', H', h1, h2⟩
    | ret => exact ⟨wb', E', H', h1, h2⟩
    | panic ch => exact ⟨wb', E', H', h1, h2⟩
    | outgrown => exact ⟨wb', E', H', h1, h2⟩
  | region i o d => cases d <;> cases hc
  | _ => cases hc

theorem wc_skip (hc : cTag c = (0, 0)) (h : K .normal wb E H) : WC N c K wb E H := by
  cases c with
  | skip => exact ⟨fun a w hs => wp_skip ⟨wb, E, H, hs, h⟩⟩
  | region i o d => cases d <;> cases hc
  | _ => cases hc

theorem wc_ret (hc : cTag c = (8, 0)) (h : K .ret wb E H) : WC N c K wb E H := by
  cases c with
  | ret => exact ⟨fun a w hs => wp_ret ⟨wb, E, H, hs, h⟩⟩
  | region i o d => cases d <;> cases hc
  | _ => cases hc

theorem wc_exit {id : Nat} (hc : cTag c = (7, id)) (h : K (.exit id) wb E H) : WC N c K wb E H := by
  cases c with
  | exit j => cases hc; exact ⟨fun a w hs => wp_exit ⟨wb, E, H, hs, h⟩⟩
  | region i o d => cases d <;> cases hc
  | _ => cases hc

theorem wc_block {id : Nat} (hc : cTag c = (5, id)) (h : WC N (cL c) (bk id K) wb E H) : WC N c K wb E H := by
  cases c with
  | block j x =>
    cases hc
    refine ⟨fun a w hs => ?_⟩
    refine wp_block (wp_mono (h.run a w hs) ?_)
    rintro e a' w' ⟨wb', E', H', h1, ⟨h2⟩⟩
    cases e with
    | exit i =>
      simp only [bkF] at h2
      simp only [Exit.inBlock]
      by_cases hi : i = id
      · simp only [hi, if_true] at h2 ⊢; exact ⟨wb', E', H', h1, h2⟩
      · simp only [hi, if_false] at h2 ⊢; exact ⟨wb', E', H', h1, h2⟩
    | normal => exact ⟨wb', E', H', h1, h2⟩
    | goto l => exact ⟨wb', E', H', h1, h2⟩
    | ret => exact ⟨wb', E', H', h1, h2⟩
    | panic ch => exact ⟨wb', E', H', h1, h2⟩
    | outgrown => exact ⟨wb', E', H', h1, h2⟩
  | region i o d => cases d <;> cases hc
  | _ => cases hc

theorem wc_cond {b : Bool} (hc : cTag c = (4, 0)) (hb : ev E (cCond c) = some (.bool b)) (h1 : b = true → WC N (cL c) K wb E H) (h2 : b = false → WC N (cR c) K wb E H) : WC N c K wb E H := by
  cases c with
  | cond x y z =>
    exact ⟨fun a w hs => wp_cond_split (hs.on.eval hb) (fun h => (h1 h).run a w hs) (fun h => (h2 h).run a w hs)⟩
  | region i o d => cases d <;> cases hc
  | _ => cases hc

theorem wc_cond_d {p : Prop} [Decidable p] (hc : cTag c = (4, 0)) (hb : ev E (cCond c) = some (.bool (decide p))) (h1 : p → WC N (cL c) K wb E H) (h2 : ¬ p → WC N (cR c) K wb E H) : WC N c K wb E H :=
  wc_cond hc hb (fun h => h1 (of_decide_eq_true h)) (fun h => h2 (of_decide_eq_false h))

theorem wc_sub {E' : Env} (hs : SubE E' E) (h : WC N c K wb E' H) : WC N c K wb E H := ⟨fun a w hst => h.run a w ⟨hst.on.sub hs, hst.good⟩⟩

def lpF {ι : Type} (I : ι → World → Env → Hp → Prop) (μ : ι → Nat) (K : Exit → World → Env → Hp → Prop) (x : ι) : Exit → World → Env → Hp → Prop
  | .normal, wb', E', H' => ∃ y E'', I y wb' E'' H' ∧ SubE E'' E' ∧ μ y < μ x
  | e, wb', E', H' => K e wb' E' H'

structure lp {ι : Type} (I : ι → World → Env → Hp → Prop) (μ : ι → Nat) (K : Exit → World → Env → Hp → Prop) (x : ι) (e : Exit) (wb : World) (E : Env) (H : Hp) : Prop where
  run : lpF I μ K x e wb E H

/-- A loop: 'I' names the states at its head. -/
theorem wc_loop {ι : Type} (I : ι → World → Env → Hp → Prop) (μ : ι → Nat) (hc : cTag c = (6, 0)) (x0 : ι) (h0 : I x0 wb E H)
    (round : ∀ x wb E H, I x wb E H → WC N (cL c) (lp I μ K x) wb E H) : WC N c K wb E H := by
  cases c with
  | loop x =>
    refine ⟨fun a w hs => ?_⟩
    have key : ∀ n (x' : ι) wb E H, μ x' < n → I x' wb E H → ∀ a w, St N wb E H a w →
        Code.rounds Hvat.prog x (fun e a' w' => ∃ wb' E' H', St N wb' E' H' a' w' ∧ K e wb' E' H') n a w := by
      intro n
      induction n with
      | zero => intro x' wb E H h; exact absurd h (Nat.not_lt_zero _)
      | succ n ih =>
        intro x' wb E H hlt hI a w hs
        refine wp_mono ((round x' wb E H hI).run a w hs) ?_
        rintro e a' w' ⟨wb', E', H', h1, ⟨h2⟩⟩
        cases e with
        | normal =>
          obtain ⟨y, E'', hy, hsub, hlt'⟩ := h2
          exact ih y wb' E'' H' (by omega) hy a' w' ⟨h1.on.sub hsub, h1.good⟩
        | exit id => exact ⟨wb', E', H', h1, h2⟩
        | goto l => exact ⟨wb', E', H', h1, h2⟩
        | ret => exact ⟨wb', E', H', h1, h2⟩
        | panic ch => exact ⟨wb', E', H', h1, h2⟩
        | outgrown => exact ⟨wb', E', H', h1, h2⟩
    exact wp_loop_rounds (μ x0 + 1) (key _ x0 wb E H (Nat.lt_succ_self _) h0 a w hs)
  | region i o d => cases d <;> cases hc
  | _ => cases hc

theorem wc_loop' {ι : Type} (I : ι → World → Env → Hp → Prop) (μ : ι → Nat) (hc : cTag c = (6, 0)) (x0 : ι) (E0 : Env) (hsub : SubE E0 E) (h0 : I x0 wb E0 H)
    (round : ∀ x wb E H, I x wb E H → WC N (cL c) (lp I μ K x) wb E H) : WC N c K wb E H :=
  wc_sub hsub (wc_loop I μ hc x0 h0 round)

end

/-! ### Regions -/
def isQuiet : Op → Bool
  | .move _ | .assign _ | .pick _ _ _ | .build _ _ | .load _ _ | .nilCheck _ | .binOp _ _ _ _ _ | .unOp _ _ _ | .convert _ _ _ | .slice _ _ _ _ _
  | .fieldAddr _ _ _ | .field _ _ _ | .indexAddr _ _ _ | .index _ _ _ | .extract _ _ | .sliceToArrayPointer _ _ => true
  | .call { callee := .builtin .len, .. } | .call { callee := .builtin .min, .. } => true
  | _ => false

theorem wc_plain {N : Nat} {c : Code} {K : Exit → World → Env → Hp → Prop} {wb : World} {E : Env} {H : Hp} (hc : cTag c = (1, 0))
    (h : WR N (cOps c) [] ((cOps c).toList.map fun o => (isQuiet o.op, false, o)) (fun wb E H => K .normal wb E H) wb E H) : WC N c K wb E H := by
  cases c with
  | region i ops d =>
    cases d with
    | false => exact ⟨fun a w hs => wp_plain (fun o => isQuiet o.op) (h.run a w hs) (fun a w hk => hk)⟩
    | true => cases hc
  | _ => cases hc

theorem Good.drew {wb : World} {H : Hp} {w : World} (h : Good wb H w) : Good wb H { w with drawn := w.drawn + 1 } :=
  ⟨h.os, h.tape, h.output, h.size, h.base, h.own, h.nodup⟩

structure WT (N : Nat) (ops : Array Oper) (X : List Nat) (n : Nat) (ps : List (List PStep)) (K : World → Env → Hp → Prop) (wb : World) (E : Env) (H : Hp) : Prop where
  run : ∀ a w, St N wb E H a w → wpT Hvat.prog X ops (fun a' w' => ∃ wb' E' H', St N wb' E' H' a' w' ∧ K wb' E' H') n ps a w

theorem wc_draws {N : Nat} {c : Code} {K : Exit → World → Env → Hp → Prop} {wb : World} {E : Env} {H : Hp} (X : List Nat) (ps : List (List PStep)) (hc : cTag c = (2, 0))
    (hk : (Region.noSelect (cOps c) && chkPlans (cOps c) (cOps c).size (Array.replicate (cOps c).size false) ps) = true)
    (h : WT N (cOps c) X (cOps c).size ps (fun wb E H => K .normal wb E H) wb E H) : WC N c K wb E H := by
  cases c with
  | region i ops d =>
    cases d with
    | true =>
      simp only [Bool.and_eq_true] at hk
      exact ⟨fun a w hs => wp_draw rfl hk.1 ps hk.2 (h.run a _ ⟨hs.on, hs.good.drew⟩) (fun a w hk => hk)⟩
    | false => cases hc
  | _ => cases hc

theorem wc_draw {N : Nat} {c : Code} {K : Exit → World → Env → Hp → Prop} {wb : World} {E : Env} {H : Hp} (X : List Nat) (p : List PStep) (hc : cTag c = (2, 0))
    (hk : (Region.noSelect (cOps c) && chkPlans (cOps c) (cOps c).size (Array.replicate (cOps c).size false) [p] && Nat.ble p.length (cOps c).size) = true)
    (h : WR N (cOps c) X (stepsOf (cOps c) p) (fun wb E H => K .normal wb E H) wb E H) : WC N c K wb E H := by
  simp only [Bool.and_eq_true] at hk
  refine wc_draws X [p] hc (by simp only [Bool.and_eq_true]; exact hk.1) ⟨fun a w hs => wpT_single p _ a w (Nat.le_of_ble_eq_true hk.2) (h.run a w hs)⟩

section
variable {N : Nat} {ops : Array Oper} {X : List Nat} {K : World → Env → Hp → Prop} {wb : World} {E : Env} {H : Hp} {o : Oper} {r : List (Bool × Bool × Oper)} {ns : Bool}

/-- A quiet operation yields v. -/
def QS (N : Nat) (X : List Nat) (o : Oper) (wb : World) (E : Env) (H : Hp) (v : Value) : Prop :=
  ∀ a w, St N wb E H a w → ∀ w', (isLoadOp o.op = true → KeepX X w w') → (execOp a.eval o).run Hvat.prog w' = .ok (.value v) w'

/-- An operation that changes the world. -/
def ES (N : Nat) (X : List Nat) (ns : Bool) (o : Oper) (wb : World) (E : Env) (H : Hp) (k : World → Env → Hp → Prop) : Prop :=
  ∀ a w, St N wb E H a w → ∀ Q, o.wp Hvat.prog a w (fun a' w' => (ns = true → KeepX X w w') ∧ ∃ wb' E' H', St N wb' E' H' a' w' ∧ k wb' E' H') Q

/-- Is the operation wanted? -/
def gd (ops : Array Oper) (E : Env) (o : Oper) : Option Bool :=
  match o.guard with
  | none => some true
  | some (j, want) =>
    match (ops[j]?).bind (·.dst) with
    | some s => match lk E s with
      | some (.bool b) => some (b == want)
      | some (.tuple _) => some false
      | _ => none
    | none => none

theorem gd_wanted {a : Act} {b : Bool} (hon : On N E a) (h : gd ops E o = some b) : Region.wanted o (yielded ops a.tmps) = b := by
  unfold gd at h
  unfold Region.wanted
  cases hg : o.guard with
  | none => rw [hg] at h; simpa using h
  | some jw =>
    obtain ⟨j, want⟩ := jw
    rw [hg] at h
    simp only at h ⊢
    cases hs : (ops[j]?).bind (·.dst) with
    | none => rw [hs] at h; cases h
    | some s =>
      rw [hs] at h
      simp only at h
      cases hl : lk E s with
      | none => rw [hl] at h; cases h
      | some v =>
        rw [hl] at h
        have hv := hon.at_ s v hl
        unfold yielded
        rw [hs]
        simp only [Option.bind_some]
        cases v with
        | bool b' =>
          simp only at h
          have : a.tmps[s]? = some (.bool b') := by
            cases he : a.tmps[s]? with
            | none => simp [he, undef] at hv
            | some u => simp [he] at hv; rw [hv]
          rw [this]
          cases h
          cases b' <;> cases want <;> rfl
        | tuple vs =>
          simp only at h
          injection h with h
          subst h
          cases he : a.tmps[s]? with
          | none => rfl
          | some u => simp [he] at hv; rw [hv]; rfl
        | _ => cases h

theorem wr_nil (h : K wb E H) : WR N ops X [] K wb E H := ⟨fun a w hs => ⟨wb, E, H, hs, h⟩⟩

theorem wr_q {d : Nat} {v : Value} (hg : gd ops E o = some true) (hd : o.dst = some d) (hdN : Nat.blt d N = true) (hq : QS N X o wb E H v)
    (h : WR N ops X r K wb ((d, v) :: E) H) : WR N ops X ((true, ns, o) :: r) K wb E H := by
  refine ⟨fun a w hs => ?_⟩
  simp only [wpF, gd_wanted hs.on hg, if_true]
  refine ⟨v, fun w' hk => hq a w hs w' hk, ?_⟩
  rw [hd]
  exact h.run _ w ⟨hs.on.put (by simpa [Nat.blt_eq] using hdN) v, hs.good⟩

theorem wr_e (hg : gd ops E o = some true) (he : ES N X ns o wb E H (fun wb E H => WR N ops X r K wb E H)) : WR N ops X ((false, ns, o) :: r) K wb E H := by
  refine ⟨fun a w hs => ?_⟩
  simp only [wpF, gd_wanted hs.on hg, if_true, Bool.false_eq_true, if_false]
  refine Oper.wp_mono ?_ (he a w hs _)
  rintro a' w' ⟨h1, wb', E', H', hs', hk⟩
  exact ⟨h1, hk.run a' w' hs'⟩

theorem wr_skip {q : Bool} {d : Nat} (hg : gd ops E o = some false) (hd : o.dst = some d) (hdN : Nat.blt d N = true)
    (h : WR N ops X r K wb ((d, undef) :: E) H) : WR N ops X ((q, ns, o) :: r) K wb E H := by
  refine ⟨fun a w hs => ?_⟩
  simp only [wpF, gd_wanted hs.on hg, Bool.false_eq_true, if_false]
  rw [hd]
  exact h.run _ w ⟨hs.on.put (by simpa [Nat.blt_eq] using hdN) undef, hs.good⟩

theorem wr_skip0 {q : Bool} (hg : gd ops E o = some false) (hd : o.dst = none)
    (h : WR N ops X r K wb E H) : WR N ops X ((q, ns, o) :: r) K wb E H := by
  refine ⟨fun a w hs => ?_⟩
  simp only [wpF, gd_wanted hs.on hg, Bool.false_eq_true, if_false]
  rw [hd]
  exact h.run _ w hs

theorem wr_sub {E' : Env} {l : List (Bool × Bool × Oper)} (hs : SubE E' E) (h : WR N ops X l K wb E' H) : WR N ops X l K wb E H :=
  ⟨fun a w hst => h.run a w ⟨hst.on.sub hs, hst.good⟩⟩

/-- A heap that is put otherwise. -/
theorem wr_heap {H' : Hp} {l : List (Bool × Bool × Oper)} (hH : H = H') (h : WR N ops X l K wb E H') : WR N ops X l K wb E H := hH ▸ h
end
end Go.Proofs.YgvatwGreat
