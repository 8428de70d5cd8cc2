/-
  ENGINE, PART L: copy; memory that came in; orders that part; zeros.
-/
import Derived.Test.YgvatwGreatEngK
namespace Go.Proofs.YgvatwGreat
open Go Go.RowKit
set_option linter.unusedVariables false
set_option linter.unusedSimpArgs false

/-- Cells of the base, at a place. -/
def CellsAt (w : World) (b o : Nat) (l : List Value) : Prop := ∀ j v, l[j]? = some v → w.cell? ⟨b, o + j, none⟩ = some v

theorem cell_lt {w : World} {b o : Nat} {v : Value} (h : w.cell? ⟨b, o, none⟩ = some v) : b < w.heap.size := by
  unfold World.cell? at h
  split at h
  · rename_i he
    exact (Array.getElem?_eq_some_iff.1 he).1
  · cases h

theorem cell_of_blk {w w' : World} {b o : Nat} (h : w'.heap[b]? = w.heap[b]?) : w'.cell? ⟨b, o, none⟩ = w.cell? ⟨b, o, none⟩ := by
  unfold World.cell?; rw [h]

theorem CellsAt.good {wb w : World} {H : Hp} {b o : Nat} {l : List Value} (h : CellsAt wb b o l) (hG : Good wb H w) (hk : b ∉ keys H) : CellsAt w b o l := by
  intro j v hj
  have hc := h j v hj
  rw [cell_of_blk (hG.base b (cell_lt hc) hk)]
  exact hc

theorem Own.cellsAt {w : World} {b t : Nat} {c : List Value} (h : Own w b t c) {o : Nat} {l : List Value} (hl : (c.drop o).take l.length = l) : CellsAt w b o l := by
  intro j v hj
  rw [h.cell]
  rw [← hl, List.getElem?_take] at hj
  split at hj
  · rw [List.getElem?_drop] at hj; exact hj
  · cases hj

/-- Where a copy takes its cells from. -/
def SrcC (wb : World) (H : Hp) (p : Option Addr) (l : List Value) : Prop := l = [] ∨ ∃ b o, p = some ⟨b, o, none⟩ ∧ ∀ w, Good wb H w → CellsAt w b o l
theorem src_nil (wb : World) (H : Hp) (p : Option Addr) : SrcC wb H p [] := .inl rfl
theorem src_rb {wb : World} {H : Hp} {b o t : Nat} {c l : List Value} (h : Rb wb H b t c) (hl : (c.drop o).take l.length = l) : SrcC wb H (some ⟨b, o, none⟩) l :=
  .inr ⟨b, o, rfl, fun w hG => (hG.rb h).cellsAt hl⟩
theorem src_base {wb : World} {H : Hp} {b o : Nat} {l : List Value} (h : CellsAt wb b o l) (hk : b ∉ keys H) : SrcC wb H (some ⟨b, o, none⟩) l :=
  .inr ⟨b, o, rfl, fun w hG => h.good hG hk⟩

section
variable {N : Nat} {ops : Array Oper} {X : List Nat} {K : World → Env → Hp → Prop} {wb : World} {E : Env} {H : Hp} {r : List (Bool × Bool × Oper)} {ns : Bool}
  {d ty : Nat} {pos : String} {af : Array Edge} {g : Option (Nat × Bool)} {t t' : Nat} {x y z : Operand} {b off : Nat} {c : List Value} {v : Value} {k k' : IntKind} {m n : Int}

theorem r_ld1i (hx : ev E x = some (.pointer (some ⟨b, off, none⟩))) (ht : scal t = true) (hc : wb.cell? ⟨b, off, none⟩ = some v) (hk : b ∉ keys H) (hX : b ∉ X)
    (hg : gd ops E ⟨some d, .load t x, ty, pos, af, g⟩ = some true) (hN : Nat.blt d N = true)
    (h : WR N ops X r K wb ((d, v) :: E) H) : WR N ops X ((true, ns, ⟨some d, .load t x, ty, pos, af, g⟩) :: r) K wb E H := by
  refine wr_q hg rfl hN (fun a w hs w' hkp => ?_) h
  have hlt := cell_lt hc
  have h1 : w'.cell? ⟨b, off, none⟩ = some v := by
    rw [cell_of_blk ((hkp rfl).2 b (by have := hs.good.size; omega) hX), cell_of_blk (hs.good.base b hlt hk)]; exact hc
  have hl := run_load1 (w := w') (a := ⟨b, off, none⟩) ht h1
  simp [execOp, Instr.loadAt, hs.on.eval hx, Instr.sureAddr, hl]

theorem r_ldNi {nn : Nat} {ds : List Chunk} (hx : ev E x = some (.pointer (some ⟨b, off, none⟩))) (ht : aggN t = some nn) (hl : flen ds = nn) (hc : CellsAt wb b off (flat ds)) (hk : b ∉ keys H) (hX : b ∉ X)
    (hg : gd ops E ⟨some d, .load t x, ty, pos, af, g⟩ = some true) (hN : Nat.blt d N = true)
    (h : WR N ops X r K wb ((d, aggC ds) :: E) H) : WR N ops X ((true, ns, ⟨some d, .load t x, ty, pos, af, g⟩) :: r) K wb E H := by
  refine wr_q hg rfl hN (fun a w hs w' hkp => ?_) h
  have h1 := run_loadN (w := w') (a := ⟨b, off, none⟩) (cs := flat ds) ht (by rw [flat_len]; exact hl) (fun j u hj => by
    have hc' := hc j u hj
    have hlt := cell_lt hc'
    rw [add_none, cell_of_blk ((hkp rfl).2 b (by have := hs.good.size; omega) hX), cell_of_blk (hs.good.base b hlt hk)]; exact hc')
  simp [execOp, Instr.loadAt, hs.on.eval hx, Instr.sureAddr, h1, aggC]

theorem r_cp {p : Option Addr} {q qs cc cc' e sz yy tb : Nat} {l c' : List Value} {H' : Hp} {ats : Array TypeId} (hx : ev E x = some (.slice (some ⟨b, 0, none⟩) q cc)) (hy : ev E y = some (.slice p qs cc')) (hqs : qs = q) (hats : ats.toList.head? = some t) (ht : slc t = some (e, sz, yy)) (hsrc : SrcC wb H p l) (hl : l.length = q * sz)
    (hok : ∀ v ∈ l, v.oneCell' = true) (hu : Upd H b tb c c' H') (hc' : c' = l ++ c.drop l.length) (hlc : l.length ≤ c.length) (hns : ns = false ∨ b ∈ X)
    (hg : gd ops E ⟨some d, .call { callee := .builtin .copy, args := #[x, y], argTypes := ats }, ty, pos, af, g⟩ = some true) (hN : Nat.blt d N = true)
    (h : WR N ops X r K wb ((d, .int .i64 (q : Int)) :: E) H') :
    WR N ops X ((false, ns, ⟨some d, .call { callee := .builtin .copy, args := #[x, y], argTypes := ats }, ty, pos, af, g⟩) :: r) K wb E H := by
  subst hqs
  have hu1 := (slc_und ht).1
  have ⟨i, hi, hs, hy2⟩ := (slc_und ht).2
  refine wr_e hg (fun a w hst Q => ?_)
  have ho : Own w b tb c := hst.good.own _ hu.mem
  have hat0 : ats[0]? = some t := by
    rw [← Array.getElem?_toList, ← List.head?_eq_getElem?]; exact hats
  have hcells : (Builtin.firstCells i.size qs (.slice p qs cc')).run Hvat.prog w = .ok l.toArray w := by
    rcases hsrc with hl0 | ⟨b2, o, rfl, hcs⟩
    · subst hl0
      have hz : qs * i.size = 0 := by rw [hs]; simpa using hl.symm
      cases p with
      | none => simp [Builtin.firstCells]
      | some a => simp [Builtin.firstCells, hz, loadCells, loadCellsFrom]
    · have := run_loadCells_list (P := Hvat.prog) w ⟨b2, o, none⟩ l (fun j u hj => by rw [add_none]; exact hcs w hst.good j u hj)
      rw [hl, ← hs] at this
      simp [Builtin.firstCells, this]
  have hstc := run_storeCells_at (P := Hvat.prog) b 0 tb l 0 c.toArray w ho (by simpa using hlc) hok
  have e : (c.toArray.toList.take (0 + 0) ++ l ++ c.toArray.toList.drop (0 + 0 + l.length)).toArray = c'.toArray := by
    rw [hc']; simp
  rw [e] at hstc
  have hrun : (execOp a.eval ⟨some d, .call { callee := .builtin .copy, args := #[x, y], argTypes := ats }, ty, pos, af, g⟩).run Hvat.prog w = .ok (.value (.int .i64 (qs : Int))) (w.setRow b c'.toArray) := by
    simp [execOp, resolve, invoke, builtin, Builtin.copy_, hat0, hst.on.eval hx, hst.on.eval hy, underlying, hu1, Builtin.lenOf, sizeOf, typeInfo, hi, hcells, hstc, goInt]
  unfold Oper.wp
  rw [hrun]
  refine ⟨fun hn => ?_, wb, _, H', ⟨hst.on.put (by simpa [Nat.blt_eq] using hN) _, hst.good.set hu⟩, h⟩
  rcases hns with h0 | h0
  · rw [h0] at hn; cases hn
  · exact keepX_setRow _ h0
end

/-! ### Orders that part -/
section
variable {N : Nat} {ops : Array Oper} {X : List Nat} {K : World → Env → Hp → Prop} {wb : World} {E : Env} {H : Hp}

/-- One plan is left. -/
theorem wt_one {n : Nat} {p : List PStep} (hl : Nat.ble p.length n = true) (h : WR N ops X (stepsOf ops p) K wb E H) : WT N ops X n [p] K wb E H :=
  ⟨fun a w hs => wpT_single p n a w (Nat.le_of_ble_eq_true hl) (h.run a w hs)⟩

/-- A quiet operation, at the head of all plans. -/
theorem wt_q {n i d : Nat} {ps : List (List PStep)} {s : PStep} {hs : List PStep} {o : Oper} {v : Value} (hh : headsOf ps = s :: hs) (hq : s.q = true) (ho : ops.getD s.i default = o) (hg : gd ops E o = some true) (hd : o.dst = some d) (hdN : Nat.blt d N = true)
    (hv : QS N X o wb E H v) (h : WT N ops X n (ps.map (·.tail)) K wb ((d, v) :: E) H) : WT N ops X (n + 1) ps K wb E H := by
  refine ⟨fun a w hst => ?_⟩
  simp only [wpT, hh, hq, if_true, ho, gd_wanted hst.on hg]
  refine ⟨v, fun w' hk => hv a w hst w' hk, ?_⟩
  rw [hd]
  exact h.run _ w ⟨hst.on.put (by simpa [Nat.blt_eq] using hdN) v, hst.good⟩

/-- The run along one list that begins with a quiet operation is that of its rest. -/
theorem wr_inv {r : List (Bool × Bool × Oper)} (h : WR N ops X r K wb E H) : WR N ops X r K wb E H := h

/-- The plans part: each goes its way. -/
theorem wt_part {n : Nat} {ps : List (List PStep)} {s : PStep} {hs : List PStep} (hh : headsOf ps = s :: hs) (hq : s.q = false)
    (h : ∀ s' ∈ s :: hs, gd ops E (ops.getD s'.i default) = some true ∧ ES N X s'.ns (ops.getD s'.i default) wb E H (fun wb E H => WT N ops X n (tailsOf s'.i ps) K wb E H)) : WT N ops X (n + 1) ps K wb E H := by
  refine ⟨fun a w hst => ?_⟩
  simp only [wpT, hh, hq, Bool.false_eq_true, if_false]
  intro s' hs'
  obtain ⟨hg, he⟩ := h s' hs'
  simp only [gd_wanted hst.on hg, if_true]
  refine Oper.wp_mono ?_ (he a w hst _)
  rintro a' w' ⟨h1, wb', E', H', hst', hk⟩
  exact ⟨h1, hk.run a' w' hst'⟩

/-- The other way round: what a list of one operation and then anything says of that operation. -/
theorem es_of_wr {ns : Bool} {o : Oper} {k : World → Env → Hp → Prop} (hg : gd ops E o = some true)
    (h : ∀ (N' : Nat), N' = N → WR N' ops X [(false, ns, o)] k wb E H) (hQ : ∀ a w, St N wb E H a w → ∀ Q, (o.wp Hvat.prog a w (fun a' w' => (ns = true → KeepX X w w') ∧ ∃ wb' E' H', St N wb' E' H' a' w' ∧ k wb' E' H') (fun e a w => e = .normal ∧ ∃ wb' E' H', St N wb' E' H' a w ∧ k wb' E' H')) → (o.wp Hvat.prog a w (fun a' w' => (ns = true → KeepX X w w') ∧ ∃ wb' E' H', St N wb' E' H' a' w' ∧ k wb' E' H') Q)) :
    ES N X ns o wb E H k := by
  intro a w hst Q
  have := (h N rfl).run a w hst
  simp only [wpF, gd_wanted hst.on hg, if_true, Bool.false_eq_true, if_false] at this
  exact hQ a w hst Q this
end

theorem wp_Q {o : Oper} {a : Act} {w : World} {K : Act → World → Prop} {Q Q' : Exit → Act → World → Prop} (h : o.wp Hvat.prog a w K Q) (hp : ∀ c a w, ¬ Q (.panic c) a w) (hl : ¬ LetsOut Q) : o.wp Hvat.prog a w K Q' := by
  unfold Oper.wp at h ⊢
  generalize (execOp a.eval o).run Hvat.prog w = r at h ⊢
  cases r with
  | ok n w' =>
    cases n with
    | enter f args =>
      simp only [Oper.upon] at h ⊢
      refine Calls.mono h fun e w'' he => ?_
      cases e with
      | returned u => exact he
      | panicked c => exact absurd he (hp _ _ _)
      | outgrown => exact absurd he hl
    | _ => exact h
  | halt x w' =>
    cases x with
    | panic u => exact absurd h (hp _ _ _)
    | _ => exact h

/-- An operation that changes the world, out of the step for lists. -/
theorem es_wr {N : Nat} {ops : Array Oper} {X : List Nat} {wb : World} {E : Env} {H : Hp} {ns : Bool} {o : Oper} {k : World → Env → Hp → Prop} (hg : gd ops E o = some true) (h : WR N ops X [(false, ns, o)] k wb E H) : ES N X ns o wb E H k := by
  intro a w hst Q
  have := h.run a w hst
  simp only [wpF, gd_wanted hst.on hg, if_true, Bool.false_eq_true, if_false] at this
  exact wp_Q this (fun c a w hq => by cases hq.1) (fun ⟨a, w, hq⟩ => by cases hq.1)
theorem qs_of {N : Nat} {ops : Array Oper} {X : List Nat} {wb : World} {E : Env} {H : Hp} {ns : Bool} {o : Oper} {v : Value} (hv : pureV E o.op = some v) : QS N X o wb E H v := fun a w hs w' _ => pure_sound hs.on hv w'

/-! ### Zeros -/
theorem zeroIs_of {t : Nat} {v : Value} {cs : List Chunk} (h : (Hvat.prog.info? t).bind (·.zero) = some v) (hv : ValC v cs) : ZeroIs t cs := by
  have ⟨i, hi, hz⟩ := Option.bind_eq_some_iff.1 h
  exact ⟨i, v, hi, hz, hv⟩
theorem zeroIs_agg {t : Nat} {cs : List Chunk} (h : (Hvat.prog.info? t).bind (·.zero) = some (aggC cs)) : ZeroIs t cs := zeroIs_of h (valC_agg cs)
theorem zeroIs_one {t : Nat} {v : Value} {c : Chunk} (h : (Hvat.prog.info? t).bind (·.zero) = some v) (hc : ck v = some c) : ZeroIs t [c] := zeroIs_of h (valC_one hc)

theorem z5 : ZeroIs 5 [cI .u8 0] := zeroIs_one (v := .int .u8 0) (by kernel_rfl) rfl
theorem z21 : ZeroIs 21 [cI .i32 0] := zeroIs_one (v := .int .i32 0) (by kernel_rfl) rfl
theorem z45 : ZeroIs 45 [cW 0#256] := zeroIs_agg (by kernel_rfl)
theorem z34 : ZeroIs 34 [cA 0#160] := zeroIs_agg (by kernel_rfl)
theorem z35 : ZeroIs 35 [cY 0#256] := zeroIs_agg (by kernel_rfl)
theorem z135 : ZeroIs 135 [cY 0#256] := zeroIs_agg (by kernel_rfl)
theorem z57 : ZeroIs 57 [cA 0#160, cU 0#64, cW 0#256, cS nilSl, cB false, cB false, cB false] := zeroIs_agg (by kernel_rfl)
theorem z165 : ZeroIs 165 [cA 0#160, cU 0#64, cW 0#256, cS nilSl, cB false, cB false, cB false] := zeroIs_agg (by kernel_rfl)
theorem z119 : ZeroIs 119 [cI .i32 0, cW 0#256, cW 0#256, cW 0#256, cB false] := zeroIs_agg (by kernel_rfl)
theorem z122 : ZeroIs 122 [cI .i32 0, cW 0#256, cW 0#256] := zeroIs_agg (by kernel_rfl)
theorem z60 : ZeroIs 60 [cI .u8 0, cI .i32 0, cU 0#64, cW 0#256, cS nilSl, cB false] := zeroIs_agg (by kernel_rfl)
theorem z89 : ZeroIs 89 [cA 0#160, cS nilSl, cS nilSl] := zeroIs_agg (by kernel_rfl)
theorem z167 : ZeroIs 167 [cA 0#160, cW 0#256, cW 0#256, cW 0#256, cB false] := zeroIs_agg (by kernel_rfl)
theorem z174 : ZeroIs 174 [cA 0#160, cW 0#256, cW 0#256] := zeroIs_agg (by kernel_rfl)
theorem z47 : ZeroIs 47 [cW 0#256, cB false, cU 0#64, cI .i32 0] := zeroIs_agg (by kernel_rfl)
theorem z100 : ZeroIs 100 [cS nilSl, cS nilSl, cU 0#64, cS nilSl, cS nilSl] := zeroIs_agg (by kernel_rfl)
theorem z103 : ZeroIs 103 [cS nilSl, cS nilSl, cU 0#64, cS nilSl, cS nilSl, cS nilSl, cS nilSl] := zeroIs_agg (by kernel_rfl)
theorem z131 : ZeroIs 131 [cI .i32 0, cW 0#256, cI .i32 0] := zeroIs_agg (by kernel_rfl)
theorem z138 : ZeroIs 138 [cA 0#160, cU 0#64, cY 0#256, cS nilSl, cS nilSl] := zeroIs_agg (by kernel_rfl)
theorem z140 : ZeroIs 140 [cY 0#256, cY 0#256] := zeroIs_agg (by kernel_rfl)
theorem z164 : ZeroIs 164 [cI .u8 0, cI .u8 0, cU 0#64, cS nilSl, cS nilSl, cA 0#160] := zeroIs_agg (by kernel_rfl)
def cSz (f : Nat → Int) : Chunk := cT 4 f
theorem z52 : ZeroIs 52 [cB false, cW 0#256, cW 0#256, cU 0#64, cI .i32 0, cS nilSl, cS nilSl, cW 0#256, cB false, cU 0#64, cI .i32 0, cS nilSl, cT 4 (fun _ => 0)] := zeroIs_agg (by kernel_rfl)
theorem z196 : ZeroIs 196 [cF 2560 (fun _ => false)] := zeroIs_agg (by kernel_rfl)
def zLen (v : Option Value) : Nat := match v with
  | some (.agg c) => c.toList.length
  | _ => 0
theorem z32_len : Nat.beq (zLen ((Hvat.prog.info? 32).bind (·.zero))) 24584 = true := by kernel_rfl
theorem z32_ex : ∃ i c, Hvat.prog.info? 32 = some i ∧ i.zero = some (.agg c) ∧ c.size = 24584 := by
  have h := Nat.eq_of_beq_eq_true z32_len
  generalize hz : (Hvat.prog.info? 32).bind (·.zero) = z at h
  cases z with
  | none => simp [zLen] at h
  | some v =>
    have ⟨i, hi, hzi⟩ := Option.bind_eq_some_iff.1 hz
    cases v with
    | agg c => exact ⟨i, c, hi, hzi, by simpa [zLen] using h⟩
    | _ => simp [zLen] at h

/-- A new vault: its cells are overwritten before they are read. -/
theorem r_al32 {N : Nat} {ops : Array Oper} {X : List Nat} {K : World → Env → Hp → Prop} {wb : World} {E : Env} {H : Hp} {r : List (Bool × Bool × Oper)} {ns : Bool}
    {d ty : Nat} {pos : String} {af : Array Edge} {g : Option (Nat × Bool)}
    (hg : gd ops E ⟨some d, .alloc 32, ty, pos, af, g⟩ = some true) (hN : Nat.blt d N = true)
    (h : ∀ b Z, wb.heap.size ≤ b → Z.length = 24584 → WR N ops X r K wb ((d, .pointer (some ⟨b, 0, none⟩)) :: E) ((b, 32, Z) :: H)) :
    WR N ops X ((false, ns, ⟨some d, .alloc 32, ty, pos, af, g⟩) :: r) K wb E H := by
  have ⟨i, c, hi, hz, hc⟩ := z32_ex
  refine wr_e hg (fun a w hs Q => ?_)
  have hrun : (execOp a.eval ⟨some d, .alloc 32, ty, pos, af, g⟩).run Hvat.prog w = .ok (.value (.pointer (some ⟨w.heap.size, 0, none⟩))) (w.alloc (.cells c.toList.toArray 32)) := by
    simp [execOp, Instr.alloc, zeroValue, typeInfo, hi, hz, newVar, newRow, Value.cells, run_newObj]
  unfold Oper.wp
  rw [hrun]
  refine ⟨fun _ => keepX_alloc _ _ _, wb, _, _, ⟨hs.on.put (by simpa [Nat.blt_eq] using hN) _, hs.good.new 32 c.toList⟩, h _ _ hs.good.size (by simpa using hc)⟩

theorem s_all {c : List Value} {ds : List Chunk} (h : flen ds = c.length) : SetN c 0 ds (flat ds) := by
  refine ⟨?_, by omega⟩
  rw [Nat.zero_add, h]; simp
end Go.Proofs.YgvatwGreat
