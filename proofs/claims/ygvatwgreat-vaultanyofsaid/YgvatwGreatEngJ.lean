/-
  ENGINE, PART J: reslicing, fields of values, building, making, appending, copying.
-/
import Derived.Test.YgvatwGreatEngI
namespace Go.Proofs.YgvatwGreat
open Go Go.RowKit
set_option linter.unusedVariables false
set_option linter.unusedSimpArgs false

theorem map_add0 (p : Option Addr) : p.map (fun a => a.add 0) = p := by
  cases p with
  | none => rfl
  | some a => simp [Addr.add]

section
variable {N : Nat} {ops : Array Oper} {X : List Nat} {K : World → Env → Hp → Prop} {wb : World} {E : Env} {H : Hp} {r : List (Bool × Bool × Oper)} {ns : Bool}
  {d ty : Nat} {pos : String} {af : Array Edge} {g : Option (Nat × Bool)} {t t' : Nat} {x y z : Operand} {b off : Nat} {c : List Value} {v : Value} {k k' : IntKind} {m n : Int}

theorem r_sl_h {p : Option Addr} {nn cc h : Nat} {es : Nat × Nat × Nat} (hx : ev E x = some (.slice p nn cc)) (hy : ev E y = some (.int k m)) (hm : m = (h : Int)) (hle : h ≤ cc) (ht : slc t = some es)
    (hg : gd ops E ⟨some d, .slice t x none (some y) none, ty, pos, af, g⟩ = some true) (hN : Nat.blt d N = true)
    (hw : WR N ops X r K wb ((d, .slice p h cc) :: E) H) : WR N ops X ((true, ns, ⟨some d, .slice t x none (some y) none, ty, pos, af, g⟩) :: r) K wb E H := by
  subst hm
  obtain ⟨e, sz, yy⟩ := es
  have hu := (slc_und ht).1
  have ⟨i, hi, hs, _⟩ := (slc_und ht).2
  refine wr_q hg rfl hN (fun a w hst w' _ => ?_) hw
  have h1 : (h : Int) ≤ (cc : Int) := by omega
  simp [execOp, hst.on.eval hx, hst.on.eval hy, Instr.sliceAt, Instr.slice, underlying, hu, Instr.sliceBounds, Instr.sliceBound, asIntOf, hle, sizeOf, typeInfo, hi, map_add0]

theorem r_sl_hm {p : Option Addr} {nn cc h q : Nat} {es : Nat × Nat × Nat} (hx : ev E x = some (.slice p nn cc)) (hy : ev E y = some (.int k m)) (hm : m = (h : Int)) (hz : ev E z = some (.int k' n)) (hn : n = (q : Int)) (hle : h ≤ q) (hle2 : q ≤ cc)
    (ht : slc t = some es) (hg : gd ops E ⟨some d, .slice t x none (some y) (some z), ty, pos, af, g⟩ = some true) (hN : Nat.blt d N = true)
    (hw : WR N ops X r K wb ((d, .slice p h q) :: E) H) : WR N ops X ((true, ns, ⟨some d, .slice t x none (some y) (some z), ty, pos, af, g⟩) :: r) K wb E H := by
  subst hm; subst hn
  obtain ⟨e, sz, yy⟩ := es
  have hu := (slc_und ht).1
  have ⟨i, hi, hs, _⟩ := (slc_und ht).2
  refine wr_q hg rfl hN (fun a w hst w' _ => ?_) hw
  simp [execOp, hst.on.eval hx, hst.on.eval hy, hst.on.eval hz, Instr.sliceAt, Instr.slice, underlying, hu, Instr.sliceBounds, Instr.sliceBound, asIntOf, hle, hle2, sizeOf, typeInfo, hi, map_add0]

/-- 's[l:h:m]' at a block. -/
theorem r_sl_lhm {lo : Operand} {kl : IntKind} {ml : Int} {l h q nn cc e sz yy : Nat} (hx : ev E x = some (.slice (some ⟨b, off, none⟩) nn cc)) (hlo : ev E lo = some (.int kl ml)) (hml : ml = (l : Int)) (hy : ev E y = some (.int k m)) (hm : m = (h : Int))
    (hz : ev E z = some (.int k' n)) (hn : n = (q : Int)) (hlh : l ≤ h) (hle : h ≤ q) (hle2 : q ≤ cc)
    (ht : slc t = some (e, sz, yy)) (hg : gd ops E ⟨some d, .slice t x (some lo) (some y) (some z), ty, pos, af, g⟩ = some true) (hN : Nat.blt d N = true)
    (hw : WR N ops X r K wb ((d, .slice (some ⟨b, if q = l then off else off + l * sz, none⟩) (h - l) (q - l)) :: E) H) : WR N ops X ((true, ns, ⟨some d, .slice t x (some lo) (some y) (some z), ty, pos, af, g⟩) :: r) K wb E H := by
  subst hm; subst hn; subst hml
  have hu := (slc_und ht).1
  have ⟨i, hi, hs, _⟩ := (slc_und ht).2
  refine wr_q hg rfl hN (fun a w hst w' _ => ?_) hw
  simp [execOp, hst.on.eval hx, hst.on.eval hy, hst.on.eval hz, hst.on.eval hlo, Instr.sliceAt, Instr.slice, underlying, hu, Instr.sliceBounds, Instr.sliceBound, asIntOf, hlh, hle, hle2, sizeOf, typeInfo, hi, hs, add_none]
  by_cases hq : q = l <;> simp [hq]

theorem r_sl_lh {lo : Operand} {kl : IntKind} {ml : Int} {l h nn cc e sz yy : Nat} (hx : ev E x = some (.slice (some ⟨b, off, none⟩) nn cc)) (hlo : ev E lo = some (.int kl ml)) (hml : ml = (l : Int)) (hy : ev E y = some (.int k m)) (hm : m = (h : Int))
    (hlh : l ≤ h) (hle : h ≤ cc)
    (ht : slc t = some (e, sz, yy)) (hg : gd ops E ⟨some d, .slice t x (some lo) (some y) none, ty, pos, af, g⟩ = some true) (hN : Nat.blt d N = true)
    (hw : WR N ops X r K wb ((d, .slice (some ⟨b, if cc = l then off else off + l * sz, none⟩) (h - l) (cc - l)) :: E) H) : WR N ops X ((true, ns, ⟨some d, .slice t x (some lo) (some y) none, ty, pos, af, g⟩) :: r) K wb E H := by
  subst hm; subst hml
  have hu := (slc_und ht).1
  have ⟨i, hi, hs, _⟩ := (slc_und ht).2
  refine wr_q hg rfl hN (fun a w hst w' _ => ?_) hw
  simp [execOp, hst.on.eval hx, hst.on.eval hy, hst.on.eval hlo, Instr.sliceAt, Instr.slice, underlying, hu, Instr.sliceBounds, Instr.sliceBound, asIntOf, hlh, hle, sizeOf, typeInfo, hi, hs, add_none]
  by_cases hq : cc = l <;> simp [hq]

theorem r_sla_h {h nn : Nat} (hx : ev E x = some (.pointer (some ⟨b, off, none⟩))) (hy : ev E y = some (.int k m)) (hm : m = (h : Int)) (ht : alen t = some nn) (hle : h ≤ nn)
    (hg : gd ops E ⟨some d, .slice t x none (some y) none, ty, pos, af, g⟩ = some true) (hN : Nat.blt d N = true)
    (hw : WR N ops X r K wb ((d, .slice (some ⟨b, off, none⟩) h nn) :: E) H) : WR N ops X ((true, ns, ⟨some d, .slice t x none (some y) none, ty, pos, af, g⟩) :: r) K wb E H := by
  subst hm
  have ⟨e, hu, h2, i, hi, hs⟩ := alen_und ht
  have h0 : nn ≠ 0 := by omega
  refine wr_q hg rfl hN (fun a w hst w' _ => ?_) hw
  simp [execOp, hst.on.eval hx, hst.on.eval hy, Instr.sliceAt, underlying, hu, Instr.sureAddr, Instr.sliceBounds, Instr.sliceBound, asIntOf, hle, sizeOf, typeInfo, hi, hs, h0, add_none]

theorem r_min (hx : ev E x = some (.int k m)) (hy : ev E y = some (.int k n)) {ats : Array TypeId}
    (hg : gd ops E ⟨some d, .call { callee := .builtin .min, args := #[x, y], argTypes := ats }, ty, pos, af, g⟩ = some true) (hN : Nat.blt d N = true)
    (hw : WR N ops X r K wb ((d, .int k (if n < m then n else m)) :: E) H) : WR N ops X ((true, ns, ⟨some d, .call { callee := .builtin .min, args := #[x, y], argTypes := ats }, ty, pos, af, g⟩) :: r) K wb E H := by
  refine wr_q hg rfl hN (fun a w hst w' _ => ?_) hw
  simp [execOp, resolve, invoke, builtin, Builtin.min_, Builtin.min2, hst.on.eval hx, hst.on.eval hy]

theorem r_s2a {p : Addr} {nn cc q : Nat} (hx : ev E x = some (.slice (some p) nn cc)) (ht : alen t = some q) (hle : q ≤ nn)
    (hg : gd ops E ⟨some d, .sliceToArrayPointer t x, ty, pos, af, g⟩ = some true) (hN : Nat.blt d N = true)
    (hw : WR N ops X r K wb ((d, .pointer (some p)) :: E) H) : WR N ops X ((true, ns, ⟨some d, .sliceToArrayPointer t x, ty, pos, af, g⟩) :: r) K wb E H := by
  have ⟨e, hu, h2, i, hi, hs⟩ := alen_und ht
  refine wr_q hg rfl hN (fun a w hst w' _ => ?_) hw
  have : ¬ nn < q := by omega
  simp [execOp, hst.on.eval hx, Instr.arrayAt, underlying, hu, this]

theorem r_fld1 {cs : List Chunk} {f fo ft : Nat} {fs : Array Field} {fd : Field} (hx : ev E x = some (aggC cs)) (hu : Hvat.prog.underlying t = some (.struct fs)) (hf : fs[f]? = some fd) (hs : scal fd.type = true) (hg1 : Get1 (flat cs) fd.offset v)
    (hg : gd ops E ⟨some d, .field t x f, ty, pos, af, g⟩ = some true) (hN : Nat.blt d N = true)
    (hw : WR N ops X r K wb ((d, v) :: E) H) : WR N ops X ((true, ns, ⟨some d, .field t x f, ty, pos, af, g⟩) :: r) K wb E H := by
  refine wr_q hg rfl hN (fun a w hst w' _ => ?_) hw
  have hp := part_scal (c := flat cs) (o := fd.offset) hs hg1 w'
  have hv : a.eval x = .agg (flat cs).toArray := hst.on.eval hx
  simp [execOp, hv, Instr.field, underlying, hu, hf, asAgg, hp]

theorem r_fldN {cs ds : List Chunk} {f n : Nat} {fs : Array Field} {fd : Field} (hx : ev E x = some (aggC cs)) (hu : Hvat.prog.underlying t = some (.struct fs)) (hf : fs[f]? = some fd) (hs : aggN fd.type = some n) (hg1 : GetN (flat cs) fd.offset n ds)
    (hg : gd ops E ⟨some d, .field t x f, ty, pos, af, g⟩ = some true) (hN : Nat.blt d N = true)
    (hw : WR N ops X r K wb ((d, aggC ds) :: E) H) : WR N ops X ((true, ns, ⟨some d, .field t x f, ty, pos, af, g⟩) :: r) K wb E H := by
  refine wr_q hg rfl hN (fun a w hst w' _ => ?_) hw
  have hp := part_agg (c := flat cs) (o := fd.offset) hs hg1 w'
  have hv : a.eval x = .agg (flat cs).toArray := hst.on.eval hx
  simp [execOp, hv, Instr.field, underlying, hu, hf, asAgg, hp]
end

/-! ### Building -/
theorem fold_set (off : Nat) : ∀ (vs : List Value) (j : Nat) (cells : List Value), off + j + vs.length ≤ cells.length →
    (vs.zipIdx j).foldl (fun cs (p : Value × Nat) => cs.setIfInBounds (off + p.2) p.1) cells.toArray = (cells.take (off + j) ++ vs ++ cells.drop (off + j + vs.length)).toArray
  | [], j, cells, _ => by simp
  | u :: vs, j, cells, h => by
    simp only [List.length_cons] at h
    simp only [List.zipIdx_cons, List.foldl_cons, List.setIfInBounds_toArray]
    rw [fold_set off vs (j + 1) (cells.set (off + j) u) (by simp; omega)]
    congr 1
    have hlt : off + j < cells.length := by omega
    rw [show off + (j + 1) = off + j + 1 by omega]
    have e1 : (cells.set (off + j) u).take (off + j + 1) = cells.take (off + j) ++ [u] := by
      rw [List.take_succ_eq_append_getElem (by simp; omega)]
      simp [List.take_set_of_le]
    have e2 : (cells.set (off + j) u).drop (off + j + 1 + vs.length) = cells.drop (off + j + (vs.length + 1)) := by
      rw [List.drop_set_of_lt (by omega), show off + j + 1 + vs.length = off + j + (vs.length + 1) by omega]
    rw [e1, e2]
    simp

/-- A field's cells. -/
def fsz (t f : Nat) : Option Nat := match lookN t tStruct with
  | some l => match aggN t with
    | some n => match l[f]? with
      | some o => match l[f + 1]? with
        | some o' => some (o' - o)
        | none => some (n - o)
      | none => none
    | none => none
  | none => none

def placesOf (P : Program) (fs : Array Field) : List (Option (Nat × Nat)) := fs.toList.map fun f => (P.info? f.type).map fun i => (f.offset, i.size)
def szOk (P : Program) (x : Nat × List Nat) : Bool := match P.underlying x.1 with
  | some (.struct fs) => placesOf P fs == (List.range x.2.length).map fun i => match x.2[i]?, fsz x.1 i with
    | some o, some n => some (o, n)
    | _, _ => none
  | _ => false
theorem tSz_ok : tStruct.all (szOk Hvat.prog) = true := by kernel_rfl

theorem fsz_und {t f o n : Nat} (ho : foff t f = some o) (hn : fsz t f = some n) : ∃ fs fd i, Hvat.prog.underlying t = some (.struct fs) ∧ fs[f]? = some fd ∧ fd.offset = o ∧ Hvat.prog.info? fd.type = some i ∧ i.size = n := by
  unfold foff at ho
  cases hl : lookN t tStruct with
  | none => rw [hl] at ho; cases ho
  | some l =>
    rw [hl] at ho
    simp only at ho
    have := List.all_eq_true.1 tSz_ok _ (lookN_mem hl)
    unfold szOk at this
    simp only at this
    split at this
    · rename_i fs hu
      rw [beq_iff_eq] at this
      have h1 := congrArg (fun l => l[f]?) this
      have hlt : f < l.length := (List.getElem?_eq_some_iff.1 ho).1
      simp only [placesOf, List.getElem?_map, Array.getElem?_toList, List.getElem?_range hlt, Option.map_some, ho, hn] at h1
      cases hf : fs[f]? with
      | none => rw [hf] at h1; cases h1
      | some fd =>
        rw [hf] at h1
        simp only [Option.map_some, Option.some.injEq] at h1
        cases hi : Hvat.prog.info? fd.type with
        | none => rw [hi] at h1; cases h1
        | some i =>
          rw [hi] at h1
          simp only [Option.map_some, Option.some.injEq, Prod.mk.injEq] at h1
          exact ⟨fs, fd, i, hu, hf, h1.1, hi, h1.2⟩
    · cases this

/-- The parts of a struct, laid one after another. -/
def PartsC (E : Env) (t : Nat) : List (Nat × Operand) → List Chunk → List Chunk → Prop
  | [], cs, cs' => cs' = cs
  | p :: ps, cs, cs' => ∃ o v ds cs1, foff t p.1 = some o ∧ ev E p.2 = some v ∧ ValC v ds ∧ fsz t p.1 = some (flen ds) ∧ setC cs o (flen ds) ds = some cs1 ∧ PartsC E t ps cs1 cs'
theorem pc_nil {E : Env} {t : Nat} {cs : List Chunk} : PartsC E t [] cs cs := rfl
theorem pc_agg {E : Env} {t f o : Nat} {x : Operand} {ps : List (Nat × Operand)} {cs cs1 cs' ds : List Chunk} (hx : ev E x = some (aggC ds)) (ho : foff t f = some o) (hn : fsz t f = some (flen ds)) (hs : setC cs o (flen ds) ds = some cs1)
    (h : PartsC E t ps cs1 cs') : PartsC E t ((f, x) :: ps) cs cs' := ⟨o, _, ds, cs1, ho, hx, valC_agg ds, hn, hs, h⟩
theorem pc_one {E : Env} {t f o : Nat} {x : Operand} {ps : List (Nat × Operand)} {cs cs1 cs' : List Chunk} {v : Value} {ch : Chunk} (hx : ev E x = some v) (hc : ck v = some ch) (ho : foff t f = some o) (hn : fsz t f = some (flen [ch])) (hs : setC cs o (flen [ch]) [ch] = some cs1)
    (h : PartsC E t ps cs1 cs') : PartsC E t ((f, x) :: ps) cs cs' := ⟨o, v, [ch], cs1, ho, hx, valC_one hc, hn, hs, h⟩

theorem parts_fill {E : Env} {t : Nat} {place : Nat → Option (Nat × Nat)} {ev' : Operand → Value} (hev : ∀ x u, ev E x = some u → ev' x = u)
    (hpl : ∀ f o n, foff t f = some o → fsz t f = some n → place f = some (o, n)) : ∀ (ps : List (Nat × Operand)) (cs cs' : List Chunk), PartsC E t ps cs cs' →
      Instr.fill place (flat cs).toArray (ps.map fun p => (p.1, ev' p.2)) = some (flat cs').toArray
  | [], cs, cs', h => by
    have : cs' = cs := h
    subst this
    simp [Instr.fill]
  | p :: ps, cs, cs', h => by
    obtain ⟨o, v, ds, cs1, ho, hx, hv, hn, hs, h⟩ := h
    have hp := hpl p.1 o (flen ds) ho hn
    obtain ⟨h1, h2⟩ := setC_spec _ _ _ _ _ hs
    have ih := parts_fill hev hpl ps cs1 cs' h
    unfold ValC at hv
    simp only [List.map_cons, Instr.fill, hp, hev p.2 v hx]
    have hsz : v.cells.size = flen ds := by rw [hv]; simp [flat_len]
    have hfit : ¬ (o + v.cells.size > (flat cs).toArray.size) := by rw [hsz]; simp [flat_len]; omega
    have hcond : (decide (v.cells.size ≠ flen ds) || decide (o + v.cells.size > (flat cs).toArray.size)) = false := by
      simp only [Bool.or_eq_false_iff, decide_eq_false_iff_not]
      exact ⟨by simp [hsz], hfit⟩
    simp only [hcond, Bool.false_eq_true, if_false]
    have hf := fold_set o (flat ds) 0 (flat cs) (by rw [flat_len, flat_len]; omega)
    have e : (v.cells.zipIdx.foldl (fun cs (x : Value × Nat) => match x with | (c, j) => cs.setIfInBounds (o + j) c) (flat cs).toArray) = (flat cs1).toArray := by
      rw [hv, h1]
      rw [← Array.foldl_toList]
      simp only [Array.toList_zipIdx]
      rw [flat_len] at hf
      exact hf
    rw [e]
    exact ih

theorem r_bld {N : Nat} {ops : Array Oper} {X : List Nat} {K : World → Env → Hp → Prop} {wb : World} {E : Env} {H : Hp} {r : List (Bool × Bool × Oper)} {ns : Bool}
    {d ty : Nat} {pos : String} {af : Array Edge} {g : Option (Nat × Bool)} {t : Nat} {parts : Array (Nat × Operand)} {cs0 cs : List Chunk} (hz : ZeroIs t cs0) (hst : (lookN t tStruct).isSome = true) (hp : PartsC E t parts.toList cs0 cs)
    (hg : gd ops E ⟨some d, .build t parts, ty, pos, af, g⟩ = some true) (hN : Nat.blt d N = true)
    (h : WR N ops X r K wb ((d, aggC cs) :: E) H) : WR N ops X ((true, ns, ⟨some d, .build t parts, ty, pos, af, g⟩) :: r) K wb E H := by
  have ⟨l, hl⟩ := Option.isSome_iff_exists.1 hst
  have hu : ∃ fs, Hvat.prog.underlying t = some (.struct fs) := by
    have := List.all_eq_true.1 tSz_ok _ (lookN_mem hl)
    unfold szOk at this
    simp only at this
    split at this
    · rename_i fs hu; exact ⟨fs, hu⟩
    · cases this
  have ⟨fs, hu⟩ := hu
  refine wr_q hg rfl hN (fun a w hs w' _ => ?_) h
  have ⟨i, z, hi, hz1, hz2⟩ := hz.ex
  -- every field has a size
  have hall : ∀ f ∈ fs.toList, ∃ n : Nat, (sizeOf f.type).run Hvat.prog w' = .ok n w' ∧ (Hvat.prog.info? f.type).map (·.size) = some n := by
    intro f hf
    have := List.all_eq_true.1 tStruct_ok _ (lookN_mem hl)
    unfold structOk at this
    simp only [hu, Bool.and_eq_true] at this
    have h3 := (Array.all_eq_true_iff_forall_mem.1 this.2) f (by simpa using hf)
    cases hi : Hvat.prog.info? f.type with
    | none => rw [hi] at h3; cases h3
    | some j => exact ⟨j.size, run_size hi w', rfl⟩
  have hm : ∀ (l : List Field), (∀ f ∈ l, ∃ n : Nat, (sizeOf f.type).run Hvat.prog w' = .ok n w' ∧ (Hvat.prog.info? f.type).map (·.size) = some n) →
      (l.mapM (fun f : Field => (Prod.mk f.offset <$> sizeOf f.type : Sem (Nat × Nat)))).run Hvat.prog w' = .ok (l.map fun f => (f.offset, ((Hvat.prog.info? f.type).map (·.size)).getD 0)) w' := by
    intro l
    induction l with
    | nil => intro _; simp
    | cons f l ih =>
      intro h
      obtain ⟨n, hn, hn'⟩ := h f (List.mem_cons_self ..)
      have := ih (fun f' hf' => h f' (List.mem_cons_of_mem _ hf'))
      simp [List.mapM_cons, hn, hn', this]
  have hmm := hm fs.toList hall
  have hfill := parts_fill (E := E) (t := t) (place := fun i => Option.map (fun f => (f.offset, ((Hvat.prog.info? f.type).map (·.size)).getD 0)) fs[i]?) (ev' := a.eval)
    (fun x u hx => hs.on.eval hx) (fun f o n ho hn => by
      obtain ⟨fs', fd, i', hu', hf, hoff, hi', hsz⟩ := fsz_und ho hn
      rw [hu] at hu'
      cases hu'
      simp [hf, hoff, hi', hsz]) parts.toList cs0 cs hp
  unfold ValC at hz2
  have hmA : (Array.mapM (fun f : Field => (Prod.mk f.offset <$> sizeOf f.type : Sem (Nat × Nat))) fs).run Hvat.prog w' = .ok (fs.toList.map fun f => (f.offset, ((Hvat.prog.info? f.type).map (·.size)).getD 0)).toArray w' := by
    have e : fs = fs.toList.toArray := by simp
    rw [e, List.mapM_toArray]
    simp only [Sem.run_map, hmm]
    simp
  have hpm : (parts.map fun x => (x.1, a.eval x.2)).toList = parts.toList.map fun p => (p.1, a.eval p.2) := by simp
  simp only [execOp, Instr.build, Sem.run_bind, zeroValue, typeInfo, hi, hz1, underlying, hu]
  simp [hz1, hz2, hu, hi, hmA, hpm, hfill, aggC]

/-! ### New slices -/
section
variable {N : Nat} {ops : Array Oper} {X : List Nat} {K : World → Env → Hp → Prop} {wb : World} {E : Env} {H : Hp} {r : List (Bool × Bool × Oper)} {ns : Bool}
  {d ty : Nat} {pos : String} {af : Array Edge} {g : Option (Nat × Bool)} {t t' : Nat} {x y z : Operand} {b off : Nat} {c : List Value} {v : Value} {k k' : IntKind} {m n : Int}

theorem run_bs {cs cs0 : List Chunk} {e sz yy : Nat} {ρ : Operand → Value} (ht : slc t = some (e, sz, yy)) (hx : ρ x = v) (hv : ValC v cs) (hl : flen cs = sz) (hz : ZeroIs e cs0) (hl0 : flen cs0 = sz) (hsz : Nat.ble sz 16777216 = true) (h0 : Nat.blt 0 sz = true) (w : World) :
    (execOp ρ ⟨some d, .buildSlice t 1 #[(0, x)], ty, pos, af, g⟩).run Hvat.prog w = .ok (.value (.slice (some ⟨w.heap.size, 0, none⟩) 1 1)) (w.alloc (.cells (flat cs).toArray e)) := by
  have hu := (slc_und ht).1
  have ⟨i, hi, hs, _⟩ := (slc_und ht).2
  have ⟨i', z, hi', hz1, hz2⟩ := hz.ex
  rw [hi] at hi'
  cases hi'
  unfold ValC at hv hz2
  have hsz' : ¬ (1 * sz > 2 ^ 24) := by have := Nat.le_of_ble_eq_true hsz; omega
  have hne : ¬ (1 * sz = 0) := by simp [Nat.blt_eq] at h0; omega
  have hzs : z.cells.size = sz := by rw [hz2]; simp [flat_len, hl0]
  have hvs : v.cells.size = sz := by rw [hv]; simp [flat_len, hl]
  have hfl := fold_set 0 (flat cs) 0 ((List.range sz).map (fun j => z.cells[j % z.cells.size]!)) (by simp [flat_len, hl])
  have hfill : Instr.fill (fun i => some (i * sz, sz)) ((Array.range (1 * sz)).map (z.cells[· % z.cells.size]!)) [(0, v)] = some (flat cs).toArray := by
    simp only [Instr.fill, hvs, Nat.zero_mul]
    have hc : (decide (sz ≠ sz) || decide (0 + sz > ((Array.range (1 * sz)).map (z.cells[· % z.cells.size]!)).size)) = false := by simp
    simp only [hc, Bool.false_eq_true, if_false]
    refine congrArg some ?_
    rw [hv]
    rw [← Array.foldl_toList]
    simp only [Array.toList_zipIdx]
    have e1 : (Array.range (1 * sz)).map (z.cells[· % z.cells.size]!) = ((List.range sz).map (fun j => z.cells[j % z.cells.size]!)).toArray := by
      apply Array.toList_inj.1; simp
    rw [e1]
    refine hfl.trans ?_
    simp [flat_len, hl]
  simp only [execOp, Instr.buildSlice, Sem.run_bind, underlying, hu]
  simp [hu, sizeOf, typeInfo, hi, hs, zeroValue, hz1, hx]
  have hb2 : ¬ (sz > 16777216) := by have := Nat.le_of_ble_eq_true hsz; omega
  have hne' : ¬ (sz = 0) := by omega
  simp only [Nat.one_mul] at hfill
  have hb3 : ¬ 16777216 < sz := hb2
  simp [hb3, hne', hz1, hfill, newRow, run_newObj]

theorem r_bs {cs cs0 : List Chunk} {e sz yy : Nat} (hx : ev E x = some v) (hv : ValC v cs) (ht : slc t = some (e, sz, yy)) (hl : flen cs = sz) (hz : ZeroIs e cs0) (hl0 : flen cs0 = sz) (hsz : Nat.ble sz 16777216 = true) (h0 : Nat.blt 0 sz = true)
    (hg : gd ops E ⟨some d, .buildSlice t 1 #[(0, x)], ty, pos, af, g⟩ = some true) (hN : Nat.blt d N = true)
    (h : ∀ b, wb.heap.size ≤ b → WR N ops X r K wb ((d, .slice (some ⟨b, 0, none⟩) 1 1) :: E) ((b, e, flat cs) :: H)) :
    WR N ops X ((false, ns, ⟨some d, .buildSlice t 1 #[(0, x)], ty, pos, af, g⟩) :: r) K wb E H := by
  refine wr_e hg (fun a w hs Q => ?_)
  unfold Oper.wp
  rw [run_bs ht (hs.on.eval hx) hv hl hz hl0 hsz h0 w]
  refine ⟨fun _ => keepX_alloc _ _ _, wb, _, _, ⟨hs.on.put (by simpa [Nat.blt_eq] using hN) _, hs.good.new e (flat cs)⟩, h _ hs.good.size⟩
end
end Go.Proofs.YgvatwGreat
