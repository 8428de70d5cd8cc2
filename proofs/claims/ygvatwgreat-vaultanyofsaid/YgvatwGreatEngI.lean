/-
  ENGINE, PART I: structs' equality, strings, reslicing, building, making, appending, copying.
-/
import Derived.Test.YgvatwGreatEngH
import Derived.Laws.Slices
import Derived.Laws.MakeOwn
namespace Go.Proofs.YgvatwGreat
open Go Go.RowKit
set_option linter.unusedVariables false
set_option linter.unusedSimpArgs false

/-! ### Structs -/
theorem getN_cells {c : List Value} {o n : Nat} {ds : List Chunk} (h : GetN c o n ds) : c.toArray.extract o (o + n) = (flat ds).toArray := by
  obtain ⟨h1, h2, h3⟩ := h
  rw [← h1]
  simp [List.extract_eq_take_drop]

theorem part_agg {t n : Nat} {c : List Value} {o : Nat} {ds : List Chunk} (ht : aggN t = some n) (hg : GetN c o n ds) (w : World) : (part t c.toArray o).run Hvat.prog w = .ok (aggC ds) w := by
  obtain ⟨d, hu, hd, i, hi, hs⟩ := agg_und ht
  have hagg : (isAgg t).run Hvat.prog w = .ok true w := by
    unfold isAgg
    rw [Sem.run_bind, run_underlying hu w]
    cases d <;> simp_all
  unfold part
  simp [Sem.run_bind, hagg, sizeOf, typeInfo, hi, hs, aggC]
  exact hg.1

theorem part_scal {t : Nat} {c : List Value} {o : Nat} {v : Value} (ht : scal t = true) (hg : Get1 c o v) (w : World) : (part t c.toArray o).run Hvat.prog w = .ok v w := by
  obtain ⟨d, hu, hd, i, hi, hs⟩ := scal_und ht
  have hagg : (isAgg t).run Hvat.prog w = .ok false w := by
    unfold isAgg
    rw [Sem.run_bind, run_underlying hu w]
    cases d <;> simp_all
  unfold Get1 at hg
  unfold part
  simp [Sem.run_bind, hagg, hg]

/-- A field's part, as a value. -/
def PartV (t : Nat) (c : List Value) (o : Nat) (v : Value) : Prop := ∀ w, (part t c.toArray o).run Hvat.prog w = .ok v w
/-- Equality of a part. -/
def EqP (t : Nat) (x y : Value) (r : Bool) : Prop := ∀ (d : Nat) (w : World), (Op.equalIn (d + 2) t x y).run Hvat.prog w = .ok r w

def EqF (c c' : List Value) : List Field → Bool → Prop
  | [], r => r = true
  | f :: fs, r => f.name ≠ "_" ∧ ∃ x y q s, PartV f.type c f.offset x ∧ PartV f.type c' f.offset y ∧ EqP f.type x y q ∧ EqF c c' fs s ∧ r = (q && s)

theorem eqF_run {c c' : List Value} (d : Nat) (w : World) : ∀ (fs : List Field) (r : Bool), EqF c c' fs r → (Op.eqFields (d + 2) c.toArray c'.toArray fs).run Hvat.prog w = .ok r w
  | [], r, h => by
    have : r = true := h
    subst this
    simp [Op.eqFields]
  | f :: fs, r, h => by
    obtain ⟨hn, x, y, q, s, h1, h2, h3, h4, rfl⟩ := h
    have ih := eqF_run d w fs s h4
    simp only [Op.eqFields, hn, ne_eq, not_false_eq_true, if_true, Sem.run_bind, h1 w, h2 w, h3 d w, Result.andThen_ok, Sem.run_ite]
    cases q with
    | false => simp
    | true => simp only [Bool.not_true, Bool.false_eq_true, if_false, Bool.true_and]; exact ih

theorem eqv_struct {t : Nat} {c c' : List Value} {fs : Array Field} {r : Bool} (hu : Hvat.prog.underlying t = some (.struct fs)) (hh : Hvat.prog.stoodInHeld t = false) (h : EqF c c' fs.toList r) :
    EqV t (.agg c.toArray) (.agg c'.toArray) r := by
  intro d w
  have hf : Hvat.prog.fieldsOf t = fs := by simp [Program.fieldsOf, hu]
  rw [show d + 3 = (d + 2) + 1 from rfl, run_equalIn_struct w (d + 2) t _ _ (by rw [hf]; exact hu) hh, hf]
  exact eqF_run d w fs.toList r h

theorem eqp_int {t : Nat} {k k' : IntKind} (hu : lookN t tKind = some k') (a b : Int) : EqP t (.int k a) (.int k b) (decide (a = b)) := fun d w => by
  rw [show d + 2 = (d + 1) + 1 from rfl, run_equalIn_int w (d + 1) t k k' a b (kind_und hu)]; rfl
theorem eqp_bool (a b : Bool) : EqP 4 (.bool a) (.bool b) (a == b) := fun d w => run_equalIn_bool' w (d + 1) 4 a b und4
theorem eqp_ints {t n : Nat} {k : IntKind} (h : intArrOk Hvat.prog t n k = true) (f g : Nat → Int) : EqP t (.agg (intsL k n f).toArray) (.agg (intsL k n g).toArray) ((List.range n).all fun j => f j == g j) := by
  intro d w
  have ⟨e, hu, he, i, hi, hs⟩ := intArr_und h
  rw [show d + 2 = (d + 1) + 1 from rfl, run_equalIn_array w (d + 1) _ _ hu hi]
  exact eqItems_ints he hi hs d n f g w (List.range n) (fun j hj => List.mem_range.1 hj)
theorem addr_all (a b : A160) : ((List.range 20).all fun i => ((a.toNat / 256 ^ (20 - 1 - i) % 256 : Nat) : Int) == ((b.toNat / 256 ^ (20 - 1 - i) % 256 : Nat) : Int)) = decide (a = b) := by
  rw [all_digits (B := 256) (n := 20) (by decide) a.isLt b.isLt (fun i => 20 - 1 - i) (fun j hj => ⟨20 - 1 - j, by omega, by omega⟩)]
  by_cases hab : a = b
  · subst hab; simp
  · rw [decide_eq_false hab, decide_eq_false (fun h => hab (BitVec.eq_of_toNat_eq h))]
theorem word_all (a b : W256) : ((List.range 4).all fun i => ((a.toNat / 2 ^ (64 * i) % 2 ^ 64 : Nat) : Int) == ((b.toNat / 2 ^ (64 * i) % 2 ^ 64 : Nat) : Int)) = decide (a = b) := by
  have hp : ∀ i, 2 ^ (64 * i) = (2 ^ 64) ^ i := fun i => by rw [Nat.pow_mul]
  simp only [hp]
  rw [all_digits (B := 2 ^ 64) (n := 4) (by decide) (by rw [← Nat.pow_mul]; exact a.isLt) (by rw [← Nat.pow_mul]; exact b.isLt) (fun i => i) (fun j hj => ⟨j, hj, rfl⟩)]
  by_cases hab : a = b
  · subst hab; simp
  · rw [decide_eq_false hab, decide_eq_false (fun h => hab (BitVec.eq_of_toNat_eq h))]
theorem eqp_addr (a b : A160) : EqP 34 (aggC [cA a]) (aggC [cA b]) (decide (a = b)) := by
  have h := eqp_ints (t := 34) (n := 20) (k := .u8) (by kernel_rfl) (fun i => ((a.toNat / 256 ^ (20 - 1 - i) % 256 : Nat) : Int)) (fun i => ((b.toNat / 256 ^ (20 - 1 - i) % 256 : Nat) : Int))
  rw [addr_all] at h
  unfold aggC
  rw [flat1, flat1]
  exact h
theorem eqp_word (a b : W256) : EqP 45 (aggC [cW a]) (aggC [cW b]) (decide (a = b)) := by
  have h := eqp_ints (t := 45) (n := 4) (k := .u64) (by kernel_rfl) (fun i => ((a.toNat / 2 ^ (64 * i) % 2 ^ 64 : Nat) : Int)) (fun i => ((b.toNat / 2 ^ (64 * i) % 2 ^ 64 : Nat) : Int))
  rw [word_all] at h
  unfold aggC
  rw [flat1, flat1]
  exact h

/-! ### Strings of bytes -/
def bL (l : List UInt8) : List Value := l.map fun x => .int .u8 (x.toNat : Int)
def bstr (l : List UInt8) : Value := .string ⟨l.toArray⟩
def beB (n x : Nat) : List UInt8 := (List.range n).map fun i => UInt8.ofNat (x / 256 ^ (n - 1 - i) % 256)
theorem beL_bL (n x : Nat) : beL n x = bL (beB n x) := by
  simp only [beL, bL, beB, List.map_map]
  apply List.map_congr_left
  intro i _
  have : x / 256 ^ (n - 1 - i) % 256 < 256 := Nat.mod_lt _ (by decide)
  simp
theorem bL_len (l : List UInt8) : (bL l).length = l.length := by simp [bL]
theorem bL_ok (l : List UInt8) : ∀ v ∈ bL l, v.oneCell' = true := by
  intro v hv; simp only [bL, List.mem_map] at hv; obtain ⟨i, _, rfl⟩ := hv; rfl

/-- Bytes that can be read at a place. -/
def BytesAt (wb : World) (H : Hp) (s : Sl) (l : List UInt8) : Prop :=
  s.n = l.length ∧ ((s.a = none ∧ l = []) ∨ ∃ b o t c, s.a = some ⟨b, o, none⟩ ∧ Rb wb H b t c ∧ (c.drop o).take l.length = bL l ∧ o + l.length ≤ c.length)

theorem foldl_push (l : List UInt8) : ∀ (s : ByteArray), (l.map fun x => (x.toNat : Int)).foldl (fun r n => r.push (UInt8.ofNat n.toNat)) s = ⟨s.data ++ l.toArray⟩ := by
  induction l with
  | nil => intro s; simp
  | cons x l ih =>
    intro s
    simp only [List.map_cons, List.foldl_cons]
    rw [ih]
    simp [ByteArray.push]

theorem run_str {wb w : World} {H : Hp} {s : Sl} {l : List UInt8} (hG : ∀ b t c, Rb wb H b t c → Own w b t c) (h : BytesAt wb H s l) : (convert 36 9 s.v).run Hvat.prog w = .ok (bstr l) w := by
  have hs : Hvat.prog.underlying 36 = some (.slice 5) := Hvat.underlying36
  have he : Hvat.prog.underlying 5 = some (.int .u8) := Hvat.underlying5
  have hd : Hvat.prog.underlying 9 = some .string := Hvat.underlying9
  unfold Sl.v
  rw [run_convert_bytes_string w 36 9 5 s.a s.n s.c hs he hd]
  obtain ⟨hn, h⟩ := h
  rcases h with ⟨ha, hl⟩ | ⟨b, o, t, c, ha, hr, h1, h2⟩
  · subst hl
    rw [ha]
    simp [Conv.bytesToString, bstr]
    rfl
  · have ho := hG b t c hr
    rw [ha]
    have hl := run_loadCells_list (P := Hvat.prog) w ⟨b, o, none⟩ (bL l) (fun j u hj => by
      rw [add_none, ho.cell]
      rw [← h1, List.getElem?_take] at hj
      split at hj
      · rw [List.getElem?_drop] at hj; exact hj
      · cases hj)
    rw [bL_len, ← hn] at hl
    have e : bL l = (l.map fun x => (x.toNat : Int)).map (Value.int .u8) := by simp [bL]
    rw [e] at hl
    rw [run_bytesToString w ⟨b, o, none⟩ s.n s.c _ hl, foldl_push]
    simp [bstr]

section
variable {N : Nat} {ops : Array Oper} {X : List Nat} {K : World → Env → Hp → Prop} {wb : World} {E : Env} {H : Hp} {r : List (Bool × Bool × Oper)} {ns : Bool}
  {d ty : Nat} {pos : String} {af : Array Edge} {g : Option (Nat × Bool)} {t t' : Nat} {x y : Operand} {b off : Nat} {c : List Value} {v : Value} {k k' : IntKind} {m n : Int}

/-- The blocks that a slice's bytes lie in stay as they are. -/
def SlFree (s : Sl) (X : List Nat) : Prop := match s.a with
  | some a => a.block ∉ X
  | none => True

theorem r_str {s : Sl} {l : List UInt8} (hx : ev E x = some (.slice s.a s.n s.c)) (hb : BytesAt wb H s l) (hX : SlFree s X)
    (hg : gd ops E ⟨some d, .convert 36 9 x, ty, pos, af, g⟩ = some true) (hN : Nat.blt d N = true)
    (h : WR N ops X r K wb ((d, bstr l) :: E) H) : WR N ops X ((true, ns, ⟨some d, .convert 36 9 x, ty, pos, af, g⟩) :: r) K wb E H := by
  refine wr_q hg rfl hN (fun a w hs w' hk => ?_) h
  have hk := hk rfl
  -- read the block in w'
  have hrun : (convert 36 9 s.v).run Hvat.prog w' = .ok (bstr l) w' := by
    obtain ⟨hn, hb⟩ := hb
    rcases hb with ⟨ha, hl⟩ | ⟨b, o, t, c, ha, hr, h1, h2⟩
    · exact run_str (wb := w') (H := []) (w := w') (fun b' t' c' hr' => by
        rcases hr' with hr' | hr'
        · cases hr'
        · exact hr'.1) ⟨hn, .inl ⟨ha, hl⟩⟩
    · have ho := (hs.good.rb hr).keep hk (by simpa [SlFree, ha] using hX)
      exact run_str (wb := w') (H := []) (w := w') (fun b' t' c' hr' => by
        rcases hr' with hr' | hr'
        · cases hr'
        · exact hr'.1) ⟨hn, .inr ⟨b, o, t, c, ha, .inr ⟨ho, by simp [keys]⟩, h1, h2⟩⟩
  have hv : a.eval x = s.v := hs.on.eval hx
  simp [execOp, hv, hrun]

theorem toListB (l : List UInt8) : (⟨l.toArray⟩ : ByteArray).toList = l := by rw [ByteArray.toList_eq]

theorem r_seq {l l' : List UInt8} (hx : ev E x = some (bstr l)) (hy : ev E y = some (bstr l'))
    (hg : gd ops E ⟨some d, .binOp .eql t x y t', ty, pos, af, g⟩ = some true) (hN : Nat.blt d N = true)
    (h : WR N ops X r K wb ((d, .bool (decide (l = l'))) :: E) H) : WR N ops X ((true, ns, ⟨some d, .binOp .eql t x y t', ty, pos, af, g⟩) :: r) K wb E H := by
  refine wr_q hg rfl hN (fun a w hs w' _ => ?_) h
  have hv : a.eval x = .string ⟨l.toArray⟩ := hs.on.eval hx
  have hv' : a.eval y = .string ⟨l'.toArray⟩ := hs.on.eval hy
  simp [execOp, hv, hv', eqGuard, binOp, Op.stringOp, toListB]
  by_cases hl : l = l' <;> simp [hl]

theorem r_slt {l l' : List UInt8} (hx : ev E x = some (bstr l)) (hy : ev E y = some (bstr l'))
    (hg : gd ops E ⟨some d, .binOp .lss t x y t', ty, pos, af, g⟩ = some true) (hN : Nat.blt d N = true)
    (h : WR N ops X r K wb ((d, .bool (Op.bytesLess l l')) :: E) H) : WR N ops X ((true, ns, ⟨some d, .binOp .lss t x y t', ty, pos, af, g⟩) :: r) K wb E H := by
  refine wr_q hg rfl hN (fun a w hs w' _ => ?_) h
  have hv : a.eval x = .string ⟨l.toArray⟩ := hs.on.eval hx
  have hv' : a.eval y = .string ⟨l'.toArray⟩ := hs.on.eval hy
  simp [execOp, hv, hv', eqGuard, binOp, Op.stringOp, toListB]
end
end Go.Proofs.YgvatwGreat
