/-
  ENGINE, PART F: the steps.
-/
import Derived.Test.YgvatwGreatEngE
namespace Go.Proofs.YgvatwGreat
open Go
set_option linter.unusedVariables false
set_option linter.unusedSimpArgs false

/-- The block is known: it is owned, or it lies in the base and is not owned. -/
def Rb (wb : World) (H : Hp) (b : Nat) (t : TypeId) (c : List Value) : Prop := (b, t, c) ∈ H ∨ (Own wb b t c ∧ b ∉ keys H)

theorem Rb.h {wb : World} {H : Hp} {b : Nat} {t : TypeId} {c : List Value} (h : (b, t, c) ∈ H) : Rb wb H b t c := .inl h
theorem Rb.w {wb : World} {H : Hp} {b : Nat} {t : TypeId} {c : List Value} (h : Own wb b t c) (hk : b ∉ keys H) : Rb wb H b t c := .inr ⟨h, hk⟩

theorem Good.rb {wb w : World} {H : Hp} {b : Nat} {t : TypeId} {c : List Value} (hG : Good wb H w) (h : Rb wb H b t c) : Own w b t c := by
  rcases h with h | ⟨h, hk⟩
  · exact hG.own _ h
  · unfold Own; rw [hG.base b h.lt hk]; exact h

theorem Own.keep {X : List Nat} {w w' : World} {b : Nat} {t : TypeId} {c : List Value} (h : Own w b t c) (hk : KeepX X w w') (hb : b ∉ X) : Own w' b t c := by
  unfold Own; rw [hk.2 b h.lt hb]; exact h

theorem Own.cell {w : World} {b : Nat} {t : TypeId} {c : List Value} (h : Own w b t c) (k : Nat) : w.cell? ⟨b, k, none⟩ = c[k]? := by
  rw [cell_of_row w b k c.toArray t (0, 0) h]; simp

theorem scal_und {t : Nat} (h : scal t = true) : ∃ d, Hvat.prog.underlying t = some d ∧ (match d with | .struct _ | .array _ _ => true | _ => false) = false ∧ ∃ i, Hvat.prog.info? t = some i ∧ i.size = 1 := by
  have := List.all_eq_true.1 tScal_ok _ (memN_mem h)
  unfold scalOk at this
  simp only [Bool.and_eq_true] at this
  obtain ⟨h1, h2⟩ := this
  cases hu : Hvat.prog.underlying t with
  | none => rw [hu] at h1; cases h1
  | some d =>
    rw [hu] at h1
    refine ⟨d, rfl, ?_, ?_⟩
    · cases d <;> first | rfl | cases h1
    · cases hi : Hvat.prog.info? t with
      | none => rw [hi] at h2; cases h2
      | some i => rw [hi] at h2; exact ⟨i, rfl, by simpa using h2⟩

theorem agg_und {t n : Nat} (h : aggN t = some n) : ∃ d, Hvat.prog.underlying t = some d ∧ (match d with | .struct _ | .array _ _ => true | _ => false) = true ∧ ∃ i, Hvat.prog.info? t = some i ∧ i.size = n := by
  have := List.all_eq_true.1 tAgg_ok _ (lookN_mem h)
  unfold aggOk at this
  simp only [Bool.and_eq_true] at this
  obtain ⟨h1, h2⟩ := this
  cases hu : Hvat.prog.underlying t with
  | none => rw [hu] at h1; cases h1
  | some d =>
    rw [hu] at h1
    refine ⟨d, rfl, ?_, ?_⟩
    · cases d <;> first | rfl | cases h1
    · cases hi : Hvat.prog.info? t with
      | none => rw [hi] at h2; cases h2
      | some i => rw [hi] at h2; exact ⟨i, rfl, by simpa using h2⟩

theorem run_load1 {t : Nat} {w : World} {a : Addr} {v : Value} (ht : scal t = true) (h : w.cell? a = some v) : (loadVar t a).run Hvat.prog w = .ok v w := by
  obtain ⟨d, hu, hd, i, hi, hs⟩ := scal_und ht
  have hagg : (isAgg t).run Hvat.prog w = .ok false w := by
    unfold isAgg
    rw [Sem.run_bind, run_underlying hu w]
    cases d <;> simp_all
  unfold loadVar
  rw [Sem.run_bind, hagg]
  simp [load, Sem.run, h]

theorem run_loadN {t n : Nat} {w : World} {a : Addr} {cs : List Value} (ht : aggN t = some n) (hn : cs.length = n) (h : ∀ j v, cs[j]? = some v → w.cell? (a.add j) = some v) :
    (loadVar t a).run Hvat.prog w = .ok (.agg cs.toArray) w := by
  obtain ⟨d, hu, hd, i, hi, hs⟩ := agg_und ht
  have hagg : (isAgg t).run Hvat.prog w = .ok true w := by
    unfold isAgg
    rw [Sem.run_bind, run_underlying hu w]
    cases d <;> simp_all
  have hl := run_loadCells_list (P := Hvat.prog) w a cs h
  rw [hn] at hl
  unfold loadVar
  simp [Sem.run_bind, hagg, sizeOf, typeInfo, hi, hs, hl]

section
variable {N : Nat} {ops : Array Oper} {X : List Nat} {K : World → Env → Hp → Prop} {wb : World} {E : Env} {H : Hp} {r : List (Bool × Bool × Oper)} {ns : Bool}
  {d ty : Nat} {pos : String} {af : Array Edge} {g : Option (Nat × Bool)} {t t' : Nat} {x y : Operand} {b off : Nat} {c : List Value} {v : Value}

theorem r_p {op : Op} (hv : pureV E op = some v) (hg : gd ops E ⟨some d, op, ty, pos, af, g⟩ = some true) (hN : Nat.blt d N = true)
    (h : WR N ops X r K wb ((d, v) :: E) H) : WR N ops X ((true, ns, ⟨some d, op, ty, pos, af, g⟩) :: r) K wb E H :=
  wr_q hg rfl hN (fun a w hs w' _ => pure_sound (o := ⟨some d, op, ty, pos, af, g⟩) hs.on hv w') h

theorem r_sk {op : Op} {q : Bool} (hg : gd ops E ⟨some d, op, ty, pos, af, g⟩ = some false) (hN : Nat.blt d N = true)
    (h : WR N ops X r K wb ((d, undef) :: E) H) : WR N ops X ((q, ns, ⟨some d, op, ty, pos, af, g⟩) :: r) K wb E H :=
  wr_skip hg rfl hN h
theorem r_sk0 {op : Op} {q : Bool} (hg : gd ops E ⟨none, op, ty, pos, af, g⟩ = some false)
    (h : WR N ops X r K wb E H) : WR N ops X ((q, ns, ⟨none, op, ty, pos, af, g⟩) :: r) K wb E H :=
  wr_skip0 hg rfl h

theorem r_ld1 (hx : ev E x = some (.pointer (some ⟨b, off, none⟩))) (ht : scal t = true) (hr : Rb wb H b t' c) (hv : Get1 c off v) (hX : b ∉ X)
    (hg : gd ops E ⟨some d, .load t x, ty, pos, af, g⟩ = some true) (hN : Nat.blt d N = true)
    (h : WR N ops X r K wb ((d, v) :: E) H) : WR N ops X ((true, ns, ⟨some d, .load t x, ty, pos, af, g⟩) :: r) K wb E H := by
  refine wr_q hg rfl hN (fun a w hs w' hk => ?_) h
  have ho := (hs.good.rb hr).keep (hk rfl) hX
  have hl := run_load1 (w := w') (a := ⟨b, off, none⟩) ht (by rw [ho.cell]; exact hv)
  simp [execOp, Instr.loadAt, hs.on.eval hx, Instr.sureAddr, hl]

theorem r_ldN {n : Nat} {ds : List Chunk} (hx : ev E x = some (.pointer (some ⟨b, off, none⟩))) (ht : aggN t = some n) (hr : Rb wb H b t' c) (hv : GetN c off n ds) (hX : b ∉ X)
    (hg : gd ops E ⟨some d, .load t x, ty, pos, af, g⟩ = some true) (hN : Nat.blt d N = true)
    (h : WR N ops X r K wb ((d, aggC ds) :: E) H) : WR N ops X ((true, ns, ⟨some d, .load t x, ty, pos, af, g⟩) :: r) K wb E H := by
  refine wr_q hg rfl hN (fun a w hs w' hk => ?_) h
  have ho := (hs.good.rb hr).keep (hk rfl) hX
  obtain ⟨h1, h2, h3⟩ := hv
  have hl := run_loadN (w := w') (a := ⟨b, off, none⟩) (cs := flat ds) ht (by rw [flat_len]; exact h3) (fun j u hj => by
    rw [add_none, ho.cell]
    rw [← h1] at hj
    rw [List.getElem?_take] at hj
    split at hj
    · rw [List.getElem?_drop] at hj; exact hj
    · cases hj)
  simp [execOp, Instr.loadAt, hs.on.eval hx, Instr.sureAddr, hl, aggC]

/-! ### New blocks -/
theorem Good.new {w : World} (hG : Good wb H w) (t : TypeId) (c : List Value) : Good wb ((w.heap.size, t, c) :: H) (w.alloc (.cells c.toArray t)) := by
  have hlt : ∀ k ∈ keys H, k < w.heap.size := by
    intro k hk
    obtain ⟨e, he, rfl⟩ := List.mem_map.1 hk
    exact (Array.getElem?_eq_some_iff.1 (hG.own e he)).1
  have hget : ∀ k, k < w.heap.size → (w.alloc (.cells c.toArray t)).heap[k]? = w.heap[k]? := by
    intro k hk
    show (w.heap.push _)[k]? = _
    rw [Array.getElem?_push_lt hk]; simp [hk]
  refine ⟨hG.os, hG.tape, hG.output, ?_, ?_, ?_, ?_⟩
  · have := hG.size
    show wb.heap.size ≤ (w.heap.push _).size
    rw [Array.size_push]; omega
  · intro k hk hnk
    simp only [keys, List.map_cons, List.mem_cons, not_or] at hnk
    have h1 := hG.size
    rw [hget k (by omega)]
    exact hG.base k hk hnk.2
  · intro e he
    rcases List.mem_cons.1 he with rfl | he
    · show (w.heap.push _)[w.heap.size]? = _
      simp
    · rw [hget _ (hlt _ (List.mem_map.2 ⟨e, he, rfl⟩))]
      exact hG.own e he
  · simp only [keys, List.map_cons]
    exact List.nodup_cons.2 ⟨fun hm => absurd (hlt _ hm) (Nat.lt_irrefl _), hG.nodup⟩

theorem keepX_alloc (X : List Nat) (w : World) (o : Obj) : KeepX X w (w.alloc o) := by
  refine ⟨?_, fun k hk _ => ?_⟩
  · show w.heap.size ≤ (w.heap.push _).size
    rw [Array.size_push]; omega
  · show (w.heap.push _)[k]? = _
    rw [Array.getElem?_push_lt hk]; simp [hk]

theorem run_newObj (o : Obj) (w : World) : (newObj o).run Hvat.prog w = .ok w.heap.size (w.alloc o) := rfl

/-- The cells of a value. -/
def ValC (v : Value) (ds : List Chunk) : Prop := v.cells = (flat ds).toArray
theorem valC_agg (ds : List Chunk) : ValC (aggC ds) ds := rfl
theorem valC_one {v : Value} {ch : Chunk} (h : ck v = some ch) : ValC v [ch] := by
  have := (ck_l h).1
  unfold ValC
  simp only [flat, this, List.append_nil]
  cases v <;> first | rfl | (simp only [ck] at h; cases h)

theorem r_bx {cs : List Chunk} (hx : ev E x = some v) (hc : ValC v cs)
    (hg : gd ops E ⟨some d, .box t x, ty, pos, af, g⟩ = some true) (hN : Nat.blt d N = true)
    (h : ∀ b, wb.heap.size ≤ b → WR N ops X r K wb ((d, .pointer (some ⟨b, 0, none⟩)) :: E) ((b, t, flat cs) :: H)) :
    WR N ops X ((false, ns, ⟨some d, .box t x, ty, pos, af, g⟩) :: r) K wb E H := by
  refine wr_e hg (fun a w hs Q => ?_)
  have hrun : (execOp a.eval ⟨some d, .box t x, ty, pos, af, g⟩).run Hvat.prog w = .ok (.value (.pointer (some ⟨w.heap.size, 0, none⟩))) (w.alloc (.cells (flat cs).toArray t)) := by
    unfold ValC at hc
    simp [execOp, Instr.box, hs.on.eval hx, newVar, newRow, hc, run_newObj]
  unfold Oper.wp
  rw [hrun]
  refine ⟨fun _ => keepX_alloc _ _ _, wb, _, _, ⟨hs.on.put (by simpa [Nat.blt_eq] using hN) _, hs.good.new t (flat cs)⟩, h _ hs.good.size⟩

/-- A type's zero. -/
structure ZeroIs (t : Nat) (cs : List Chunk) : Prop where
  ex : ∃ i z, Hvat.prog.info? t = some i ∧ i.zero = some z ∧ ValC z cs

theorem run_al {cs : List Chunk} (hz : ZeroIs t cs) (ρ : Operand → Value) (w : World) :
    (execOp ρ ⟨some d, .alloc t, ty, pos, af, g⟩).run Hvat.prog w = .ok (.value (.pointer (some ⟨w.heap.size, 0, none⟩))) (w.alloc (.cells (flat cs).toArray t)) := by
  have ⟨i, z, hi, hz1, hz2⟩ := hz.ex
  unfold ValC at hz2
  simp [execOp, Instr.alloc, zeroValue, typeInfo, hi, hz1, newVar, newRow, hz2, run_newObj]

theorem r_al {cs : List Chunk} (hz : ZeroIs t cs)
    (hg : gd ops E ⟨some d, .alloc t, ty, pos, af, g⟩ = some true) (hN : Nat.blt d N = true)
    (h : ∀ b, wb.heap.size ≤ b → WR N ops X r K wb ((d, .pointer (some ⟨b, 0, none⟩)) :: E) ((b, t, flat cs) :: H)) :
    WR N ops X ((false, ns, ⟨some d, .alloc t, ty, pos, af, g⟩) :: r) K wb E H := by
  refine wr_e hg (fun a w hs Q => ?_)
  unfold Oper.wp
  rw [run_al hz]
  refine ⟨fun _ => keepX_alloc _ _ _, wb, _, _, ⟨hs.on.put (by simpa [Nat.blt_eq] using hN) _, hs.good.new t (flat cs)⟩, h _ hs.good.size⟩

/-! ### Stores -/
def Upd (H : Hp) (b : Nat) (t : TypeId) (c c' : List Value) (H' : Hp) : Prop := ∃ H1 H2, H = H1 ++ (b, t, c) :: H2 ∧ H' = H1 ++ (b, t, c') :: H2
theorem upd_here {H : Hp} {b t : Nat} {c c' : List Value} : Upd ((b, t, c) :: H) b t c c' ((b, t, c') :: H) := ⟨[], H, rfl, rfl⟩
theorem upd_there {H H' : Hp} {e : Nat × TypeId × List Value} {b t : Nat} {c c' : List Value} (h : Upd H b t c c' H') : Upd (e :: H) b t c c' (e :: H') := by
  obtain ⟨H1, H2, rfl, rfl⟩ := h
  exact ⟨e :: H1, H2, rfl, rfl⟩
theorem Upd.mem {H H' : Hp} {b t : Nat} {c c' : List Value} (h : Upd H b t c c' H') : (b, t, c) ∈ H := by
  obtain ⟨H1, H2, rfl, _⟩ := h; simp
theorem Upd.keys {H H' : Hp} {b t : Nat} {c c' : List Value} (h : Upd H b t c c' H') : keys H' = keys H := by
  obtain ⟨H1, H2, rfl, rfl⟩ := h; simp [YgvatwGreat.keys]

theorem Good.set {w : World} {H' : Hp} {c' : List Value} (hG : Good wb H w) (hu : Upd H b t c c' H') : Good wb H' (w.setRow b c'.toArray) := by
  have hb := hG.own _ hu.mem
  have hk := hu.keys
  refine ⟨hG.os, hG.tape, hG.output, by simpa using hG.size, ?_, ?_, by rw [hk]; exact hG.nodup⟩
  · intro k hk1 hk2
    rw [hk] at hk2
    have hne : k ≠ b := fun e => hk2 (by subst e; exact List.mem_map.2 ⟨_, hu.mem, rfl⟩)
    rw [setRow_other w b k _ hne]
    exact hG.base k hk1 hk2
  · intro e he
    obtain ⟨H1, H2, hH, hH'⟩ := hu
    have hnd := hG.nodup
    rw [hH] at hnd
    simp only [YgvatwGreat.keys, List.map_append, List.map_cons] at hnd
    by_cases heb : e.1 = b
    · have hee : e = (b, t, c') := by
        rw [hH'] at he
        rw [List.nodup_append] at hnd
        obtain ⟨_, hn2, hn3⟩ := hnd
        rw [List.nodup_cons] at hn2
        rcases List.mem_append.1 he with he | he
        · exact absurd rfl (hn3 e.1 (List.mem_map.2 ⟨e, he, rfl⟩) b (List.mem_cons_self ..) |> fun h => by rw [heb] at h; exact h)
        · rcases List.mem_cons.1 he with he | he
          · exact he
          · exact absurd (List.mem_map.2 ⟨e, he, heb⟩) hn2.1
      subst hee
      exact setRow_heap w b c.toArray c'.toArray t (0, 0) hb
    · rw [setRow_other w b e.1 _ heb]
      refine hG.own e ?_
      rw [hH'] at he
      rw [hH]
      rcases List.mem_append.1 he with he | he
      · exact List.mem_append.2 (.inl he)
      · rcases List.mem_cons.1 he with he | he
        · subst he; exact absurd rfl heb
        · exact List.mem_append.2 (.inr (List.mem_cons_of_mem _ he))

theorem keepX_setRow {X : List Nat} {w : World} {b : Nat} (cs : Array Value) (hb : b ∈ X) : KeepX X w (w.setRow b cs) := by
  refine ⟨by simp, fun k hk hX => setRow_other w b k cs (fun e => hX (e ▸ hb))⟩

/-- A type's cells. -/
def tszB (t n : Nat) : Bool := match aggN t with
  | some m => Nat.beq m n
  | none => scal t && Nat.beq n 1
theorem tsz_info {t n : Nat} (h : tszB t n = true) : ∃ i, Hvat.prog.info? t = some i ∧ i.size = n := by
  unfold tszB at h
  cases ha : aggN t with
  | none =>
    rw [ha] at h
    simp only [Bool.and_eq_true] at h
    obtain ⟨_, _, _, i, hi, hs⟩ := scal_und h.1
    exact ⟨i, hi, by rw [hs]; exact (Nat.eq_of_beq_eq_true h.2).symm⟩
  | some m =>
    rw [ha] at h
    obtain ⟨_, _, _, i, hi, hs⟩ := agg_und ha
    exact ⟨i, hi, by rw [hs]; exact Nat.eq_of_beq_eq_true h⟩

theorem run_storeAt {w : World} {ds : List Chunk} {c' : List Value} (hv : ValC v ds) (ht : tszB t (flen ds) = true) (ho : Own w b t' c) (hs : SetN c off ds c') :
    (Instr.storeAt t (.pointer (some ⟨b, off, none⟩)) v).run Hvat.prog w = .ok () (w.setRow b c'.toArray) := by
  obtain ⟨i, hi, hsz⟩ := tsz_info ht
  unfold ValC at hv
  have hst := run_storeCells_at (P := Hvat.prog) b off t' (flat ds) 0 c.toArray w ho (by simp [flat_len]; exact hs.2) (fun u hu => flat_ok ds u hu)
  have e : (c.toArray.toList.take (off + 0) ++ flat ds ++ c.toArray.toList.drop (off + 0 + (flat ds).length)).toArray = c'.toArray := by
    simp only [Nat.add_zero, flat_len]; rw [hs.1]
  rw [e] at hst
  have hsize : v.cells.size = i.size := by rw [hv, hsz]; simp [flat_len]
  have hlist : v.cells.toList = flat ds := by rw [hv]
  simp [Instr.storeAt, Instr.sureAddr, storeVar, sizeOf, typeInfo, hi, hsize, hlist, hst]

theorem r_st {ds : List Chunk} {c' : List Value} {H' : Hp} (hx : ev E x = some (.pointer (some ⟨b, off, none⟩))) (hy : ev E y = some v) (hv : ValC v ds) (ht : tszB t (flen ds) = true)
    (hu : Upd H b t' c c' H') (hs : SetN c off ds c') (hns : ns = false ∨ b ∈ X)
    (hg : gd ops E ⟨none, .store t x y, ty, pos, af, g⟩ = some true)
    (h : WR N ops X r K wb E H') : WR N ops X ((false, ns, ⟨none, .store t x y, ty, pos, af, g⟩) :: r) K wb E H := by
  refine wr_e hg (fun a w hst Q => ?_)
  have ho : Own w b t' c := hst.good.own _ hu.mem
  have hrun : (execOp a.eval ⟨none, .store t x y, ty, pos, af, g⟩).run Hvat.prog w = .ok .skip (w.setRow b c'.toArray) := by
    have := run_storeAt (w := w) hv ht ho hs
    simp [execOp, hst.on.eval hx, hst.on.eval hy, this]
  unfold Oper.wp
  rw [hrun]
  refine ⟨fun hn => ?_, wb, E, H', ⟨hst.on, hst.good.set hu⟩, h⟩
  rcases hns with h0 | h0
  · rw [h0] at hn; cases hn
  · exact keepX_setRow _ h0

/-! ### Calls -/
def noNumB (P : Program) : Bool := P.funcs.all fun fn => fn.body.isNone || fn.name != "runtime.NumGoroutine"
theorem noNum_ok : noNumB Hvat.prog = true := by kernel_rfl
theorem noNum {f : Nat} {fn : Func} {cd : Code} (hf : Hvat.prog.funcs[f]? = some fn) (hb : fn.body = some cd) : ¬ fn.name = "runtime.NumGoroutine" := by
  have := (Array.all_eq_true_iff_forall_mem.1 noNum_ok) fn (Array.mem_of_getElem? hf)
  simpa [hb] using this
theorem r_call {f : Nat} {args : Array Operand} {ats : Array TypeId} {vs : List Value} {fn : Func} {cd : Code} (hf : Hvat.prog.funcs[f]? = some fn) (hb : fn.body = some cd)
    (hvs : args.toList.mapM (ev E) = some vs)
    (hg : gd ops E ⟨some d, .call { callee := .value (.func f), args := args, argTypes := ats }, ty, pos, af, g⟩ = some true) (hN : Nat.blt d N = true)
    (h : ∀ w, Good wb H w → Calls Hvat.prog f vs.toArray w (fun e w' => ∃ v wb' H', e = .returned v ∧ Good wb' H' w' ∧ (ns = true → KeepX X w w') ∧ WR N ops X r K wb' ((d, v) :: E) H')) :
    WR N ops X ((false, ns, ⟨some d, .call { callee := .value (.func f), args := args, argTypes := ats }, ty, pos, af, g⟩) :: r) K wb E H := by
  refine wr_e hg (fun a w hs Q => ?_)
  have hargs : args.map a.eval = vs.toArray := by
    have : ∀ (l : List Operand) (vs : List Value), l.mapM (ev E) = some vs → l.map a.eval = vs := by
      intro l
      induction l with
      | nil => intro vs h; simp at h; simp [h]
      | cons y l ih =>
        intro vs h
        simp only [List.mapM_cons, Option.bind_eq_bind, Option.bind_eq_some_iff, Option.pure_def] at h
        obtain ⟨u, hu, us, hus, he⟩ := h
        cases he
        simp [hs.on.eval hu, ih us hus]
    have := this args.toList vs hvs
    apply Array.toList_inj.1
    rw [Array.toList_map, this]
  have hrun : (execOp a.eval ⟨some d, .call { callee := .value (.func f), args := args, argTypes := ats }, ty, pos, af, g⟩).run Hvat.prog w = .ok (.enter f vs.toArray) w := by
    simp [execOp, resolve, Act.eval, Deferred.ofValue, invoke, callFunc, hf, hb, noNum hf hb, hargs]
  unfold Oper.wp
  rw [hrun]
  refine Calls.mono (h w hs.good) ?_
  rintro e w' ⟨v, wb', H', rfl, hG, hk, hwr⟩
  exact ⟨hk, wb', _, H', ⟨hs.on.put (by simpa [Nat.blt_eq] using hN) v, hG⟩, hwr⟩
end
end Go.Proofs.YgvatwGreat
