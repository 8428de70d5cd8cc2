/-
  P13: one start that fits.
-/
import Derived.Test.YgvatwGreatP12
namespace Go.Proofs.YgvatwGreat
open Go.ChangeShapes Go.WideShapes Go.ChangeAt Go.RowKit
set_option linter.unusedVariables false
set_option linter.unusedSimpArgs false

set_option maxRecDepth 100000
def zVL : VL := ⟨nilSl, nilSl, nilSl, nilSl, nilSl, nilSl, [], [], [], [], [], none, fun _ => 0, fun _ => 0, fun _ => 0, 0, 0#64⟩
def zOp : LOp := ⟨0, 0#160, 0#256, 0#256, 0#64, 0, nilSl, nilSl, [], []⟩
def zv (u : Nat) : Value := if u = 5 then .int .u8 0 else if u = 21 then .int .i32 0 else if u = 27 then .int .u64 0 else .slice none 0 0
def ts32 : List Nat := 22 :: 23 :: (List.replicate 4096 21 ++ (List.replicate 4096 21 ++ (25 :: (List.replicate 16384 21 ++ [21, 27, 28, 29, 30]))))
def ts39 : List Nat := 5 :: (List.replicate 20 5 ++ (List.replicate 32 5 ++ (List.replicate 32 5 ++ [27, 21, 36, 37])))
theorem tab_zv (n : Nat) : tabL n (fun _ => 0) = (List.replicate n 21).map zv := by
  unfold tabL
  rw [List.map_replicate, List.map_const', List.length_range]; rfl
theorem gen32 (a b c : Nat) : [Value.slice none 0 0] ++ ([Value.slice none 0 0] ++ (tabL a (fun _ => 0) ++ (tabL b (fun _ => 0) ++ ([Value.slice none 0 0] ++ (tabL c (fun _ => 0) ++ ([Value.int .i32 0] ++ ([Value.int .u64 0] ++ ([Value.slice none 0 0] ++ ([Value.slice none 0 0] ++ ([Value.slice none 0 0] ++ [])))))))))) =
    (22 :: 23 :: (List.replicate a 21 ++ (List.replicate b 21 ++ (25 :: (List.replicate c 21 ++ [21, 27, 28, 29, 30]))))).map zv := by
  simp only [List.map_cons, List.map_append, tab_zv, List.map_nil, List.cons_append, List.nil_append, List.append_nil]
  rfl
theorem cs32 : flat (vaultC zVL) = ts32.map zv := gen32 4096 4096 16384
theorem cs39 : flat (opC zOp) = ts39.map zv := by kernel_rfl
theorem ct_leaf {t d : Nat} {u : TypeDesc} (hu : Hvat.prog.underlying t = some u) (h1 : ∀ fs, u ≠ .struct fs) (h2 : ∀ n e, u ≠ .array n e) : Hvat.prog.cellTypes (d + 1) t = some [t] := by
  unfold Program.cellTypes
  rw [hu]
  cases u <;> first | rfl | exact absurd rfl (h1 _) | exact absurd rfl (h2 _ _)
theorem ct_arr {t d n e : Nat} (hu : Hvat.prog.underlying t = some (.array n e)) (he : Hvat.prog.cellTypes d e = some [e]) : Hvat.prog.cellTypes (d + 1) t = some (List.replicate n e) := by
  unfold Program.cellTypes
  rw [hu]
  simp only [he, Option.map_some]
  congr 1
  induction n with
  | zero => rfl
  | succ n ih => rw [List.replicate_succ, List.replicate_succ, List.flatten_cons]; simp
theorem ct_struct {t d : Nat} {fs : Array Field} {tss : List (List Nat)} (hu : Hvat.prog.underlying t = some (.struct fs)) (h : fs.toList.mapM (fun f => Hvat.prog.cellTypes d f.type) = some tss) : Hvat.prog.cellTypes (d + 1) t = some tss.flatten := by
  unfold Program.cellTypes
  rw [hu]
  simp only [h, Option.map_some]
theorem mcs {α β : Type} {f : α → Option β} {x : α} {l : List α} {y : β} {ys : List β} (h : f x = some y) (h' : l.mapM f = some ys) : (x :: l).mapM f = some (y :: ys) := by simp [List.mapM_cons, h, h']
theorem mnil {α β : Type} {f : α → Option β} : ([] : List α).mapM f = some [] := by simp
theorem dep3 : Hvat.prog.depth = (Hvat.prog.depth - 3) + 1 + 1 + 1 := by kernel_rfl
theorem cl_s {t e d : Nat} (hu : Hvat.prog.underlying t = some (.slice e)) : Hvat.prog.cellTypes (d + 1) t = some [t] := ct_leaf hu (fun _ h => by cases h) (fun _ _ h => by cases h)
theorem cl_i {t d : Nat} {k : IntKind} (hu : Hvat.prog.underlying t = some (.int k)) : Hvat.prog.cellTypes (d + 1) t = some [t] := ct_leaf hu (fun _ h => by cases h) (fun _ _ h => by cases h)
theorem fl32 (a b c : Nat) : [[22], [23], List.replicate a 21, List.replicate b 21, [25], List.replicate c 21, [21], [27], [28], [29], [30]].flatten = 22 :: 23 :: (List.replicate a 21 ++ (List.replicate b 21 ++ (25 :: (List.replicate c 21 ++ [21, 27, 28, 29, 30])))) := by
  simp only [List.flatten_cons, List.flatten_nil, List.cons_append, List.nil_append, List.append_nil]
theorem fl39 (a b c : Nat) : [[5], List.replicate a 5, List.replicate b 5, List.replicate c 5, [27], [21], [36], [37]].flatten = 5 :: (List.replicate a 5 ++ (List.replicate b 5 ++ (List.replicate c 5 ++ [27, 21, 36, 37]))) := by
  simp only [List.flatten_cons, List.flatten_nil, List.cons_append, List.nil_append, List.append_nil]
theorem ct32 : Hvat.prog.cellTypes Hvat.prog.depth 32 = some ts32 := by
  rw [dep3, ct_struct Hvat.underlying32 (mcs (cl_s Hvat.underlying22) (mcs (cl_s Hvat.underlying23) (mcs (ct_arr Hvat.underlying24 (cl_i Hvat.underlying21)) (mcs (ct_arr Hvat.underlying24 (cl_i Hvat.underlying21)) (mcs (cl_s Hvat.underlying25) (mcs (ct_arr Hvat.underlying26 (cl_i Hvat.underlying21)) (mcs (cl_i Hvat.underlying21) (mcs (cl_i Hvat.underlying27) (mcs (cl_s Hvat.underlying28) (mcs (cl_s Hvat.underlying29) (mcs (cl_s Hvat.underlying30) mnil)))))))))))]
  exact congrArg some (fl32 4096 4096 16384)
theorem ct39 : Hvat.prog.cellTypes Hvat.prog.depth 39 = some ts39 := by
  rw [dep3, ct_struct Hvat.underlying39 (mcs (cl_i Hvat.underlying5) (mcs (ct_arr Hvat.underlying34 (cl_i Hvat.underlying5)) (mcs (ct_arr Hvat.underlying35 (cl_i Hvat.underlying5)) (mcs (ct_arr Hvat.underlying35 (cl_i Hvat.underlying5)) (mcs (cl_i Hvat.underlying27) (mcs (cl_i Hvat.underlying21) (mcs (cl_s Hvat.underlying36) (mcs (cl_s Hvat.underlying37) mnil))))))))]
  exact congrArg some (fl39 20 32 32)
def zSet : List Nat := [5, 21, 27, 22, 23, 25, 28, 29, 30, 36, 37]
theorem ok_s {w : World} {base t e : Nat} (hu : Hvat.prog.underlying t = some (.slice e)) : Cell.okWide Hvat.prog w .any base t (.slice none 0 0) := by
  unfold Cell.okWide
  rw [hu]
  simp only [Cell.ok, hu]
theorem ok_i {w : World} {base t : Nat} {k : IntKind} (hu : Hvat.prog.underlying t = some (.int k)) (h0 : k.has 0) : Cell.okWide Hvat.prog w .any base t (.int k 0) := by
  unfold Cell.okWide
  rw [hu]
  simp only [Cell.ok, hu]
  exact ⟨trivial, h0⟩
theorem okz {w : World} {base u : Nat} (hu : u ∈ zSet) : Cell.okWide Hvat.prog w .any base u (zv u) := by
  unfold zSet at hu
  simp only [List.mem_cons, List.not_mem_nil, or_false] at hu
  rcases hu with rfl | rfl | rfl | rfl | rfl | rfl | rfl | rfl | rfl | rfl | rfl
  · exact ok_i Hvat.underlying5 ⟨by decide, by decide⟩
  · exact ok_i Hvat.underlying21 ⟨by decide, by decide⟩
  · exact ok_i Hvat.underlying27 ⟨by decide, by decide⟩
  · exact ok_s Hvat.underlying22
  · exact ok_s Hvat.underlying23
  · exact ok_s Hvat.underlying25
  · exact ok_s Hvat.underlying28
  · exact ok_s Hvat.underlying29
  · exact ok_s Hvat.underlying30
  · exact ok_s Hvat.underlying36
  · exact ok_s Hvat.underlying37
theorem rowz {w : World} {base t : Nat} {ts : List Nat} (hct : Hvat.prog.cellTypes Hvat.prog.depth t = some ts) (hm : ∀ u ∈ ts, u ∈ zSet) : Row.okWide Hvat.prog w .any base t (ts.map zv).toArray := by
  refine ⟨ts, hct, ⟨1, by simp⟩, fun i v hv => ?_⟩
  rw [List.getElem?_toArray, List.getElem?_map] at hv
  cases hu : ts[i]? with
  | none => rw [hu] at hv; cases hv
  | some u =>
    rw [hu] at hv
    have hi := (List.getElem?_eq_some_iff.1 hu).1
    refine ⟨u, by rw [Nat.mod_eq_of_lt hi]; exact hu, ?_⟩
    have e : v = zv u := (Option.some.inj hv).symm
    rw [e]
    exact okz (hm u (List.mem_of_getElem? hu))
theorem memg (a b c : Nat) : ∀ u ∈ 22 :: 23 :: (List.replicate a 21 ++ (List.replicate b 21 ++ (25 :: (List.replicate c 21 ++ [21, 27, 28, 29, 30])))), u ∈ zSet := by
  intro u hu
  simp only [List.mem_cons, List.mem_append, List.mem_replicate, List.not_mem_nil, or_false] at hu
  unfold zSet
  simp only [List.mem_cons, List.not_mem_nil, or_false]
  omega
theorem mem32 : ∀ u ∈ ts32, u ∈ zSet := memg 4096 4096 16384
theorem memh (a b c : Nat) : ∀ u ∈ 5 :: (List.replicate a 5 ++ (List.replicate b 5 ++ (List.replicate c 5 ++ [27, 21, 36, 37]))), u ∈ zSet := by
  intro u hu
  simp only [List.mem_cons, List.mem_append, List.mem_replicate, List.not_mem_nil, or_false] at hu
  unfold zSet
  simp only [List.mem_cons, List.not_mem_nil, or_false]
  omega
theorem mem39 : ∀ u ∈ ts39, u ∈ zSet := memh 20 32 32
def v32 : Value := .agg (ts32.map zv).toArray
def v39 : Value := .agg (ts39.map zv).toArray
theorem leng (a b c : Nat) : (22 :: 23 :: (List.replicate a 21 ++ (List.replicate b 21 ++ (25 :: (List.replicate c 21 ++ [21, 27, 28, 29, 30]))))).length = a + b + c + 8 := by
  simp only [List.length_cons, List.length_append, List.length_replicate, List.length_nil]; omega
theorem lenh (a b c : Nat) : (5 :: (List.replicate a 5 ++ (List.replicate b 5 ++ (List.replicate c 5 ++ [27, 21, 36, 37])))).length = a + b + c + 5 := by
  simp only [List.length_cons, List.length_append, List.length_replicate, List.length_nil]; omega
theorem ts32_len : ts32.length = 24584 := leng 4096 4096 16384
theorem ts39_len : ts39.length = 89 := lenh 20 32 32
theorem ok32 {w : World} {base : Nat} : Value.okWide Hvat.prog w .any base 32 v32 := by
  unfold Value.okWide
  rw [Hvat.underlying32]
  have e : Hvat.prog.cellsOf 32 = 24584 := by kernel_rfl
  exact ⟨_, rfl, by rw [e, List.size_toArray, List.length_map, ts32_len], rowz ct32 mem32⟩
theorem ok39 {w : World} {base : Nat} : Value.okWide Hvat.prog w .any base 39 v39 := by
  unfold Value.okWide
  rw [Hvat.underlying39]
  have e : Hvat.prog.cellsOf 39 = 89 := by kernel_rfl
  exact ⟨_, rfl, by rw [e, List.size_toArray, List.length_map, ts39_len], rowz ct39 mem39⟩
theorem ok5 {w : World} {base : Nat} : Value.okWide Hvat.prog w .any base 5 (.int .u8 0) := by
  unfold Value.okWide
  rw [Hvat.underlying5]
  exact okz (u := 5) (.head _)
/-! ### The readings -/
section
variable {H : Type} {en : TypeId × Value → H} {W : World} {base : Nat} {sp : Nat → Bool} {held : Bool}
theorem mconst {α β : Type} {f : α → Option β} {y : β} : ∀ (l : List α), (∀ x ∈ l, f x = some y) → l.mapM f = some (l.map fun _ => y)
  | [], _ => by simp
  | x :: l, h => mcs (h x (.head _)) (mconst l fun z hz => h z (.tail _ hz))
theorem trod_nil {t e : Nat} (m : Nat) (hu : Hvat.prog.underlying t = some (.slice e)) : DataW.trod en Hvat.prog W base sp held (m + 1) t [.slice none 0 0] = some (.nil, []) := by
  simp [DataW.trod, hu]
theorem trod_arr {t e n m : Nat} {k : IntKind} (hu : Hvat.prog.underlying t = some (.array n e)) (he : Hvat.prog.underlying e = some (.int k)) (hc : Hvat.prog.cellsOf e = 1) (hN : Hvat.prog.cellsOf t = n) (hw : (Lit.int k 0).wf = true) :
    DataW.trod en Hvat.prog W base sp held (m + 2) t (List.replicate n (.int k 0)) = some (.agg ((List.range n).map fun _ => .lit (.int k 0)), []) := by
  have hm : (List.range n).mapM (fun i => DataW.trod en Hvat.prog W base sp held (m + 1) e (((List.replicate n (Value.int k 0)).drop (i * Hvat.prog.cellsOf e)).take (Hvat.prog.cellsOf e))) = some ((List.range n).map fun _ => (.lit (.int k 0), [])) := by
    refine mconst _ fun i hi => ?_
    have hi' := List.mem_range.1 hi
    rw [hc, Nat.mul_one, List.drop_replicate, List.take_replicate, Nat.min_eq_left (by omega)]
    exact trod_int_mk m he hw
  unfold DataW.trod
  rw [hu]
  simp only [List.length_replicate, hN, if_true]
  rw [hm]
  simp
end
end Go.Proofs.YgvatwGreat
