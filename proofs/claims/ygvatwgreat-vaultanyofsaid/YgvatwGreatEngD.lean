/-
  ENGINE, PART D: operations that look at no memory, run by evaluation.
-/
import Derived.Test.YgvatwGreatEngC
namespace Go.Proofs.YgvatwGreat
open Go
set_option linter.unusedVariables false
set_option linter.unusedSimpArgs false

def cmpV (op : BinOp) (x y : Int) : Option Bool :=
  match op with
  | .eql => some (decide (x = y))
  | .neq => some (decide (¬ x = y))
  | .lss => some (decide (x < y))
  | .leq => some (decide (x ≤ y))
  | .gtr => some (decide (y < x))
  | .geq => some (decide (y ≤ x))
  | _ => none

def binV (op : BinOp) (t : Nat) (x y : Value) : Option Value :=
  match x, y with
  | .int k a, .int k' b => match decide (k = k') with
    | true => match cmpV op a b with
      | some r => some (.bool r)
      | none => none
    | false => none
  | .bool a, .bool b => match Nat.beq t 4, op with
    | true, .eql => some (.bool (a == b))
    | true, .neq => some (.bool (!(a == b)))
    | _, _ => none
  | .slice a _ _, .slice none _ _ => match (slc t).isSome, op with
    | true, .eql => some (.bool a.isNone)
    | true, .neq => some (.bool (!a.isNone))
    | _, _ => none
  | .pointer (some _), .pointer none => match Nat.beq t 54, op with
    | true, .eql => some (.bool false)
    | true, .neq => some (.bool true)
    | _, _ => none
  | _, _ => none

def nthV : List Value → Nat → Option Value
  | [], _ => none
  | v :: l, i => match Nat.beq i 0 with
    | true => some v
    | false => nthV l (i - 1)
theorem nthV_eq : ∀ (l : List Value) (i : Nat), nthV l i = l[i]?
  | [], i => by simp [nthV]
  | v :: l, i => by
    simp only [nthV]
    cases i with
    | zero => rfl
    | succ i =>
      rw [List.getElem?_cons_succ, ← nthV_eq l i]
      rfl

def pureV (E : Env) (o : Op) : Option Value :=
  match o with
  | .move x => ev E x
  | .assign x => ev E x
  | .pick c a b => match ev E c with
    | some (.bool true) => ev E a
    | some (.bool false) => ev E b
    | _ => none
  | .nilCheck x => match ev E x with
    | some (.pointer (some p)) => some (.pointer (some p))
    | _ => none
  | .fieldAddr t x f => match foff t f with
    | some k => match ev E x with
      | some (.pointer (some ⟨b, o, none⟩)) => some (.pointer (some ⟨b, o + k, none⟩))
      | _ => none
    | none => none
  | .binOp op t x y _ => match ev E x with
    | some vx => match ev E y with
      | some vy => binV op t vx vy
      | none => none
    | none => none
  | .unOp .not _ x => match ev E x with
    | some (.bool b) => some (.bool !b)
    | _ => none
  | .extract x i => match ev E x with
    | some (.tuple ⟨vs⟩) => nthV vs i
    | _ => none
  | .call { callee := .builtin .len, args := ⟨[x]⟩, argTypes := ⟨[t]⟩ } => match slc t with
    | some _ => match ev E x with
      | some (.slice _ n _) => some (.int .i64 n)
      | _ => none
    | none => none
  | .slice t x none none none => match alen t with
    | some n => match ev E x with
      | some (.pointer (some ⟨b, o, none⟩)) => some (.slice (some ⟨b, o, none⟩) n n)
      | _ => none
    | none => none
  | .indexAddr t x ix => match alen t with
    | some n => match ev E x with
      | some (.pointer (some ⟨b, o, none⟩)) => match ev E ix with
        | some (.int _ (.ofNat k)) => match Nat.blt k n with
          | true => some (.pointer (some ⟨b, o + k, none⟩))
          | false => none
        | _ => none
      | _ => none
    | none => none
  | _ => none

theorem add_none (b o n : Nat) : (⟨b, o, none⟩ : Addr).add n = ⟨b, o + n, none⟩ := by
  unfold Addr.add; split <;> simp_all

theorem slc_und {t e s y : Nat} (h : slc t = some (e, s, y)) : Hvat.prog.underlying t = some (.slice e) ∧ ∃ i, Hvat.prog.info? e = some i ∧ i.size = s ∧ i.bytes = y := by
  have hm := lookN_mem h
  have := List.all_eq_true.1 tSlc_ok _ hm
  unfold slcOk at this
  simp only at this
  split at this
  · rename_i e' hu
    simp only [Bool.and_eq_true, beq_iff_eq] at this
    obtain ⟨rfl, h2⟩ := this
    refine ⟨hu, ?_⟩
    cases hi : Hvat.prog.info? e' with
    | none => rw [hi] at h2; cases h2
    | some i =>
      rw [hi] at h2
      simp only [Option.any_some, Bool.and_eq_true, beq_iff_eq] at h2
      exact ⟨i, rfl, h2.1, h2.2⟩
  · cases this

theorem alen_und {t n : Nat} (h : alen t = some n) : ∃ e, Hvat.prog.underlying t = some (.array n e) ∧ 2 ≤ n ∧ ∃ i, Hvat.prog.info? e = some i ∧ i.size = 1 := by
  have hm := lookN_mem h
  have := List.all_eq_true.1 tArr_ok _ hm
  unfold arrOk at this
  simp only at this
  split at this
  · rename_i n' e' hu
    simp only [Bool.and_eq_true, beq_iff_eq] at this
    obtain ⟨⟨rfl, h3⟩, h2⟩ := this
    refine ⟨e', hu, Nat.le_of_ble_eq_true h3, ?_⟩
    cases hi : Hvat.prog.info? e' with
    | none => rw [hi] at h2; cases h2
    | some i =>
      rw [hi] at h2
      simp only [Option.any_some, beq_iff_eq] at h2
      exact ⟨i, rfl, h2⟩
  · cases this

theorem foff_und {t f k : Nat} (h : foff t f = some k) : ∃ fs fd i, Hvat.prog.underlying t = some (.struct fs) ∧ fs[f]? = some fd ∧ fd.offset = k ∧ Hvat.prog.info? fd.type = some i ∧ i.size ≠ 0 := by
  unfold foff at h
  cases hl : lookN t tStruct with
  | none => rw [hl] at h; cases h
  | some l =>
    rw [hl] at h
    simp only at h
    have hm := lookN_mem hl
    have := List.all_eq_true.1 tStruct_ok _ hm
    unfold structOk at this
    simp only at this
    split at this
    · rename_i fs hu
      simp only [Bool.and_eq_true, beq_iff_eq] at this
      obtain ⟨h1, h2⟩ := this
      subst h1
      simp only [List.getElem?_map, Array.getElem?_toList, Option.map_eq_some_iff] at h
      obtain ⟨fd, hfd, hk⟩ := h
      have hmem : fd ∈ fs := Array.mem_of_getElem? hfd
      have h3 := (Array.all_eq_true_iff_forall_mem.1 h2) fd hmem
      cases hi : Hvat.prog.info? fd.type with
      | none => rw [hi] at h3; cases h3
      | some i =>
        rw [hi] at h3
        simp only [Option.any_some, bne_iff_ne] at h3
        exact ⟨fs, fd, i, hu, hfd, hk, hi, h3⟩
    · cases this

theorem und4 : Hvat.prog.underlying 4 = some .bool := Hvat.underlying4
theorem und54 : Hvat.prog.underlying 54 = some (.pointer 32) := Hvat.underlying54

theorem run_size {e : Nat} {i : TypeInfo} (h : Hvat.prog.info? e = some i) (w : World) : (sizeOf e).run Hvat.prog w = .ok i.size w := by
  simp [sizeOf, typeInfo, h]

theorem equal_bool (a b : Bool) (w : World) : (Op.equal 4 (.bool a) (.bool b)).run Hvat.prog w = .ok (a == b) w := by
  show (Op.equalIn (9999 + 1) 4 (.bool a) (.bool b)).run Hvat.prog w = _
  rw [Op.equalIn]
  simp [underlying, und4]
theorem equal_slice {t e s y : Nat} (h : slc t = some (e, s, y)) (a : Option Addr) (n c n' c' : Nat) (w : World) :
    (Op.equal t (.slice a n c) (.slice none n' c')).run Hvat.prog w = .ok a.isNone w := by
  show (Op.equalIn (9999 + 1) t (.slice a n c) (.slice none n' c')).run Hvat.prog w = _
  rw [Op.equalIn]
  cases a <;> simp [underlying, (slc_und h).1]
theorem equal_ptr (a : Addr) (w : World) : (Op.equal 54 (.pointer (some a)) (.pointer none)).run Hvat.prog w = .ok false w := by
  show (Op.equalIn (9999 + 1) 54 (.pointer (some a)) (.pointer none)).run Hvat.prog w = _
  rw [Op.equalIn]
  simp [underlying, und54]

theorem binV_sound {ρ : Operand → Value} {op : BinOp} {t yt : Nat} {x y : Operand} {v : Value} (h : binV op t (ρ x) (ρ y) = some v) (w : World) (o : Oper) (ho : o.op = .binOp op t x y yt) :
    (execOp ρ o).run Hvat.prog w = .ok (.value v) w := by
  unfold execOp
  rw [ho]
  simp only
  generalize hx : ρ x = vx at h ⊢
  generalize hy : ρ y = vy at h ⊢
  unfold binV at h
  split at h
  · rename_i k a k' b
    split at h
    · rename_i hk
      have hk := of_decide_eq_true hk
      subst hk
      cases op <;> simp only [cmpV] at h <;> first | (cases h; done) | skip
      all_goals
        cases h
        simp [eqGuard, binOp, Op.intCmp]
      · rfl
      · by_cases hab : a = b <;> simp [hab]
    · cases h
  · rename_i a b
    split at h
    · rename_i ht
      have ht := Nat.eq_of_beq_eq_true ht
      subst ht
      cases h
      simp [eqGuard, binOp, equal_bool]
    · rename_i ht
      have ht := Nat.eq_of_beq_eq_true ht
      subst ht
      cases h
      simp [eqGuard, binOp, equal_bool]
    · cases h
  · rename_i a n1 c1 n2 c2
    split at h
    · rename_i ht
      obtain ⟨⟨e, s, y⟩, hs⟩ := Option.isSome_iff_exists.1 ht
      have hu := (slc_und hs).1
      cases h
      simp [eqGuard, binOp, equal_slice hs]
    · rename_i ht
      obtain ⟨⟨e, s, y⟩, hs⟩ := Option.isSome_iff_exists.1 ht
      have hu := (slc_und hs).1
      cases h
      simp [eqGuard, binOp, equal_slice hs]
    · cases h
  · split at h
    · rename_i ht
      have ht := Nat.eq_of_beq_eq_true ht
      subst ht
      cases h
      simp [eqGuard, binOp, equal_ptr]
    · rename_i ht
      have ht := Nat.eq_of_beq_eq_true ht
      subst ht
      cases h
      simp [eqGuard, binOp, equal_ptr]
    · cases h
  · cases h

theorem pure_sound {N : Nat} {E : Env} {a : Act} {o : Oper} {v : Value} (hon : On N E a) (h : pureV E o.op = some v) (w : World) : (execOp a.eval o).run Hvat.prog w = .ok (.value v) w := by
  have hev : ∀ {x : Operand} {u : Value}, ev E x = some u → a.eval x = u := fun hx => hon.eval hx
  cases ho : o.op with
  | move x => rw [ho] at h; unfold execOp; rw [ho]; simp [hev h]
  | assign x => rw [ho] at h; unfold execOp; rw [ho]; simp [hev h]
  | pick c x y =>
    rw [ho] at h; unfold execOp; rw [ho]
    simp only [pureV] at h
    split at h
    · rename_i hc; simp [hev hc, hev h, asBool]
    · rename_i hc; simp [hev hc, hev h, asBool]
    · cases h
  | nilCheck x =>
    rw [ho] at h; unfold execOp; rw [ho]
    simp only [pureV] at h
    split at h
    · rename_i p hc; cases h; simp [hev hc]
    · cases h
  | fieldAddr t x f =>
    rw [ho] at h; unfold execOp; rw [ho]
    simp only [pureV] at h
    split at h
    · rename_i k hk
      split at h
      · rename_i b' o' hc
        cases h
        obtain ⟨fs, fd, i, hu, hf, hoff, hi, hne⟩ := foff_und hk
        simp [Instr.fieldAt, underlying, hu, hf, hev hc, Instr.sureAddr, fieldPlace, sizeOf, typeInfo, hi, hne, add_none, hoff]
      · cases h
    · cases h
  | binOp op t x y yt =>
    rw [ho] at h
    simp only [pureV] at h
    split at h
    · rename_i vx hx
      split at h
      · rename_i vy hy
        rw [← hev hx, ← hev hy] at h
        exact binV_sound h w o ho
      · cases h
    · cases h
  | unOp op t x =>
    rw [ho] at h; unfold execOp; rw [ho]
    cases op <;> simp only [pureV] at h <;> first | (cases h; done) | skip
    split at h
    · rename_i b hc; cases h; simp [hev hc, Op.unary]
    · cases h
  | extract x i =>
    rw [ho] at h; unfold execOp; rw [ho]
    simp only [pureV] at h
    split at h
    · rename_i vs hc
      rw [nthV_eq] at h
      simp [hev hc, Instr.extract, h]
    · cases h
  | slice t x lo hi mx =>
    rw [ho] at h; unfold execOp; rw [ho]
    unfold pureV at h
    split at h <;> first | (cases h; done) | skip
    all_goals rename_i heq
    all_goals first | (cases heq; done) | skip
    cases heq
    split at h
    · rename_i n hn
      split at h
      · rename_i b' o' hc
        cases h
        obtain ⟨e, hu, h2, i, hi, hs⟩ := alen_und hn
        have h0 : n ≠ 0 := by omega
        simp [Instr.sliceAt, underlying, hu, hev hc, Instr.sureAddr, Instr.sliceBounds, sizeOf, typeInfo, hi, hs, add_none, h0]
      · cases h
    · cases h
  | indexAddr t x ix =>
    rw [ho] at h; unfold execOp; rw [ho]
    simp only [pureV] at h
    split at h
    · rename_i n hn
      split at h
      · rename_i b' o' hc
        split at h
        · rename_i kd k hix
          split at h
          · rename_i hk
            cases h
            obtain ⟨e, hu, h2, i, hi, hs⟩ := alen_und hn
            have hlt : k < n := by simpa [Nat.blt_eq] using hk
            have hlt' : ((k : Int) < (n : Int)) := by omega
            simp [Instr.indexAt, asIntOf, underlying, hu, hev hc, hev hix, Instr.sureAddr, sizeOf, typeInfo, hi, hs, add_none, hlt, hlt']
          · cases h
        · cases h
      · cases h
    · cases h
  | call c =>
    rw [ho] at h; unfold execOp; rw [ho]
    unfold pureV at h
    split at h <;> first | (cases h; done) | skip
    all_goals rename_i heq
    all_goals first | (cases heq; done) | skip
    cases heq
    split at h
    · rename_i es hs
      obtain ⟨e, s, y⟩ := es
      split at h
      · rename_i n c' hc
        cases h
        simp [resolve, invoke, builtin, Builtin.len_, underlying, (slc_und hs).1, hev hc, goInt]
      · cases h
    · cases h
  | _ => rw [ho] at h; cases h

end Go.Proofs.YgvatwGreat
