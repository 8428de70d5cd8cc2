/-
  P14: the row.
-/
import Derived.Test.YgvatwGreatP13
namespace Go.Proofs.YgvatwGreat
open Go.ChangeShapes Go.WideShapes Go.ChangeAt Go.RowKit
set_option linter.unusedVariables false
set_option linter.unusedSimpArgs false
set_option maxRecDepth 100000

section
variable {H : Type} {en : TypeId × Value → H} {W : World} {base : Nat} {sp : Nat → Bool} {held : Bool}
theorem sg0 (v : VL) : ((flat (vaultC v)).drop 0).take 1 = flat [cS v.hA] := by rw [vc_hA]; exact (vget (vl_hA v) (cS_n _)).1
theorem sg1 (v : VL) : ((flat (vaultC v)).drop 1).take 1 = flat [cS v.hS] := by rw [vc_hS]; exact (vget (vl_hS v) (cS_n _)).1
theorem sg2 (v : VL) : ((flat (vaultC v)).drop 2).take 4096 = flat [cT 4096 v.atab] := by rw [vc_atab]; exact (vget (vl_atab v) (cT_n _ _)).1
theorem sg3 (v : VL) : ((flat (vaultC v)).drop 4098).take 4096 = flat [cT 4096 v.stab] := by rw [vc_stab]; exact (vget (vl_stab v) (cT_n _ _)).1
theorem sg4 (v : VL) : ((flat (vaultC v)).drop 8194).take 1 = flat [cS v.hJ] := by rw [vc_hJ]; exact (vget (vl_hJ v) (cS_n _)).1
theorem sg5 (v : VL) : ((flat (vaultC v)).drop 8195).take 16384 = flat [cT 16384 v.marks] := by rw [vc_marks]; exact (vget (vl_marks v) (cT_n _ _)).1
theorem sg6 (v : VL) : ((flat (vaultC v)).drop 24579).take 1 = flat [cI .i32 v.nm] := by rw [vc_nm]; exact (vget (vl_nm v) (cI_n _ _)).1
theorem sg7 (v : VL) : ((flat (vaultC v)).drop 24580).take 1 = flat [cU v.ref] := by rw [vc_ref]; exact (vget (vl_ref v) (cU_n _)).1
theorem sg8 (v : VL) : ((flat (vaultC v)).drop 24581).take 1 = flat [cS v.hL] := by rw [vc_hL]; exact (vget (vl_hL v) (cS_n _)).1
theorem sg9 (v : VL) : ((flat (vaultC v)).drop 24582).take 1 = flat [cS v.hT] := by rw [vc_hT]; exact (vget (vl_hT v) (cS_n _)).1
theorem sg10 (v : VL) : ((flat (vaultC v)).drop 24583).take 1 = flat [cS v.hTT] := by rw [vc_hTT]; exact (vget (vl_hTT v) (cS_n _)).1
theorem tab_rep (n : Nat) : flat [cT n (fun _ => 0)] = List.replicate n (.int .i32 0) := by
  show tabL n (fun _ => 0) ++ [] = _
  rw [List.append_nil]
  unfold tabL
  rw [List.map_const', List.length_range]
def dI (k : IntKind) : DataW H := .lit (.int k 0)
def dA (n : Nat) (k : IntKind) : DataW H := .agg ((List.range n).map fun _ => .lit (.int k 0))
def d32 : DataW H := .agg [.nil, .nil, dA 4096 .i32, dA 4096 .i32, .nil, dA 16384 .i32, dI .i32, dI .u64, .nil, .nil, .nil]
def d39 : DataW H := .agg [dI .u8, dA 20 .u8, dA 32 .u8, dA 32 .u8, dI .u64, dI .i32, .nil, .nil]
theorem fs_nil {t e o m : Nat} {c : List Value} (hu : Hvat.prog.underlying t = some (.slice e)) (hc : Hvat.prog.cellsOf t = 1) (hs : (c.drop o).take 1 = [.slice none 0 0]) : DataW.trod en Hvat.prog W base sp held (m + 1) t ((c.drop o).take (Hvat.prog.cellsOf t)) = some (.nil, []) := by
  rw [hc, hs]; exact trod_nil m hu
theorem fs_arr {t e o n m : Nat} {k : IntKind} {c : List Value} (hu : Hvat.prog.underlying t = some (.array n e)) (he : Hvat.prog.underlying e = some (.int k)) (hce : Hvat.prog.cellsOf e = 1) (hc : Hvat.prog.cellsOf t = n) (hw : (Lit.int k 0).wf = true) (hs : (c.drop o).take n = List.replicate n (.int k 0)) :
    DataW.trod en Hvat.prog W base sp held (m + 2) t ((c.drop o).take (Hvat.prog.cellsOf t)) = some (dA n k, []) := by
  rw [hc, hs]; exact trod_arr hu he hce hc hw
theorem fs_int {t o m : Nat} {k : IntKind} {c : List Value} (hu : Hvat.prog.underlying t = some (.int k)) (hc : Hvat.prog.cellsOf t = 1) (hw : (Lit.int k 0).wf = true) (hs : (c.drop o).take 1 = [.int k 0]) :
    DataW.trod en Hvat.prog W base sp held (m + 1) t ((c.drop o).take (Hvat.prog.cellsOf t)) = some (dI k, []) := by
  rw [hc, hs]; exact trod_int_mk m hu hw
theorem tr32 : DataW.trod en Hvat.prog W base sp held 4 32 (flat (vaultC zVL)) = some (d32, []) := by
  have := trod_struct_mk (enc := en) (w := W) (base := base) (spare := sp) (held := held) (n := 3) (cs := flat (vaultC zVL)) Hvat.underlying32 (by rw [flat_len, vaultC_sz]; kernel_rfl)
    (mcs (fs_nil Hvat.underlying22 cl22 (sg0 zVL)) (mcs (fs_nil Hvat.underlying23 cl23 (sg1 zVL)) (mcs (fs_arr Hvat.underlying24 Hvat.underlying21 cl21 cl24 (by decide) ((sg2 zVL).trans (tab_rep 4096))) (mcs (fs_arr Hvat.underlying24 Hvat.underlying21 cl21 cl24 (by decide) ((sg3 zVL).trans (tab_rep 4096)))
      (mcs (fs_nil Hvat.underlying25 cl25 (sg4 zVL)) (mcs (fs_arr Hvat.underlying26 Hvat.underlying21 cl21 cl26 (by decide) ((sg5 zVL).trans (tab_rep 16384))) (mcs (fs_int Hvat.underlying21 cl21 (by decide) (sg6 zVL)) (mcs (fs_int Hvat.underlying27 cl27 (by decide) (sg7 zVL)) (mcs (fs_nil Hvat.underlying28 cl28 (sg8 zVL)) (mcs (fs_nil Hvat.underlying29 cl29 (sg9 zVL)) (mcs (fs_nil Hvat.underlying30 cl30 (sg10 zVL)) mnil)))))))))))
  exact this
theorem tr39 : DataW.trod en Hvat.prog W base sp held 4 39 (ts39.map zv) = some (d39, []) := by
  have := trod_struct_mk (enc := en) (w := W) (base := base) (spare := sp) (held := held) (n := 3) (cs := ts39.map zv) Hvat.underlying39 (by rw [List.length_map, ts39_len]; kernel_rfl)
    (mcs (fs_int Hvat.underlying5 cl5 (by decide) (by rfl)) (mcs (fs_arr Hvat.underlying34 Hvat.underlying5 cl5 cl34 (by decide) (by rfl)) (mcs (fs_arr Hvat.underlying35 Hvat.underlying5 cl5 cl35 (by decide) (by rfl)) (mcs (fs_arr Hvat.underlying35 Hvat.underlying5 cl5 cl35 (by decide) (by rfl))
      (mcs (fs_int Hvat.underlying27 cl27 (by decide) (by rfl)) (mcs (fs_int Hvat.underlying21 cl21 (by decide) (by rfl)) (mcs (fs_nil Hvat.underlying36 cl36 (by rfl)) (mcs (fs_nil Hvat.underlying37 cl37 (by rfl)) mnil))))))))
  exact this
def wArgs : Array Value := #[.int .u8 0, v32, v39]
theorem whole0 : DataW.Whole en Hvat.prog Hvat.f3.params.toList Rows.vaultAnyOfSpec.vars false W wArgs.toList [dI .u8, d32, d39] [] [] := by
  refine ⟨[], [], ?_, rfl, rfl, fun b off hb => (by cases hb), fun h => (by cases h)⟩
  rw [Hvat.params3]
  have h0 : DataW.Trod en Hvat.prog W 0 (fun _ => true) true 5 (.int .u8 0) (dI .u8) [] := ⟨1, trod_int_mk 0 Hvat.underlying5 (by decide)⟩
  have h1 : DataW.Trod en Hvat.prog W 0 (fun _ => true) true 32 v32 d32 [] := ⟨4, by
    show DataW.trod en Hvat.prog W 0 (fun _ => true) true 4 32 (ts32.map zv) = some (d32, [])
    rw [← cs32]; exact tr32⟩
  have h2 : DataW.Trod en Hvat.prog W 0 (fun _ => true) true 39 v39 d39 [] := ⟨4, tr39⟩
  exact trodAll_mk3 h0 h1 h2
theorem wAll_lit (e : Nat) (k : IntKind) : ∀ l : List Nat, DataW.weightsAll Hvat.prog e (l.map fun _ => (DataW.lit (.int k 0) : DataW H)) = []
  | [] => by simp [DataW.weightsAll]
  | x :: l => by
    have := wAll_lit e k l
    simp only [List.map_cons, DataW.weightsAll, DataW.weights, this, List.append_nil]
theorem wA {t n e : Nat} {k : IntKind} (hu : Hvat.prog.underlying t = some (.array n e)) (N : Nat) : (dA N k : DataW H).weights Hvat.prog t = [] := by
  unfold dA
  simp only [DataW.weights, hu]
  exact wAll_lit e k _
theorem wI {t : Nat} {k : IntKind} : (dI k : DataW H).weights Hvat.prog t = [] := by
  unfold dI
  simp only [DataW.weights]
theorem wN {t : Nat} : (DataW.nil : DataW H).weights Hvat.prog t = [] := by simp only [DataW.weights]
theorem w32 : (d32 : DataW H).weights Hvat.prog 32 = [] := by
  unfold d32
  simp only [DataW.weights, Hvat.underlying32]
  show DataW.weightsEach Hvat.prog [22, 23, 24, 24, 25, 26, 21, 27, 28, 29, 30] _ = []
  simp only [DataW.weightsEach, wN, wI, wA Hvat.underlying24, wA Hvat.underlying26, List.append_nil]
theorem w39 : (d39 : DataW H).weights Hvat.prog 39 = [] := by
  unfold d39
  simp only [DataW.weights, Hvat.underlying39]
  show DataW.weightsEach Hvat.prog [5, 34, 35, 35, 27, 21, 36, 37] _ = []
  simp only [DataW.weightsEach, wN, wI, wA Hvat.underlying34, wA Hvat.underlying35, List.append_nil]
end
end Go.Proofs.YgvatwGreat
