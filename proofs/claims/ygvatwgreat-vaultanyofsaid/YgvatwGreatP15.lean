/-
  P15: the row, proved.
-/
import Derived.Test.YgvatwGreatP14
namespace Go.Proofs.YgvatwGreat
open Go.ChangeShapes Go.WideShapes Go.ChangeAt Go.RowKit
set_option linter.unusedVariables false
set_option linter.unusedSimpArgs false
set_option maxRecDepth 100000

theorem sized0 {H : Type} {en : TypeId × Value → H} {W : World} : sizedMet en Hvat.prog Hvat.f3 (OpenSpec.ofChange Rows.vaultAnyOfSpec) false W wArgs := by
  refine ⟨by kernel_rfl, [dI .u8, d32, d39], [], [], whole0, ?_⟩
  rw [Hvat.params3]
  show (DataW.weightsEach Hvat.prog [5, 32, 39] [dI .u8, d32, d39]).all (· ≤ reachBytes) = true
  simp only [DataW.weightsEach, w32, w39, wI, List.append_nil]
  rfl
theorem okIn {w : World} {base : Nat} : Input.okWide Hvat.prog w .any base 3 ⟨#[], wArgs, []⟩ := by
  refine ⟨fun o ho => (by simp at ho), fun g hg => (by simp at hg), by kernel_rfl, Hvat.f3, Hvat.func3, by kernel_rfl, by kernel_rfl, by kernel_rfl, by rw [Hvat.params3]; rfl, fun j t v ht hv => ?_⟩
  rw [Hvat.params3] at ht
  match j, ht, hv with
  | 0, ht, hv =>
    have e1 : 5 = t := Option.some.inj ht
    have e2 : Value.int .u8 0 = v := Option.some.inj hv
    subst e1 e2; exact ok5
  | 1, ht, hv =>
    have e1 : 32 = t := Option.some.inj ht
    have e2 : v32 = v := Option.some.inj hv
    subst e1 e2; exact ok32
  | 2, ht, hv =>
    have e1 : 39 = t := Option.some.inj ht
    have e2 : v39 = v := Option.some.inj hv
    subst e1 e2; exact ok39
  | j + 3, ht, hv => simp at ht
theorem wit {H : Type} (en : TypeId × Value → H) (os : Os) :
    ∃ (w : World) (tape : Tape) (i : Input), w.os = os ∧ (w.forCall tape i).Shaped Hvat.checked.prog ∧ i.vars = [] ∧ Input.okWide Hvat.checked.prog (w.forCall tape i) .any w.heap.size 3 i ∧
      Rows.vaultAnyOfSpec.pre6 en Hvat.checked.prog Hvat.f3 Rows.vaultAnyOfRow.domain false (w.forCall tape i).memory i.args ∧ ({} : Assume).holds Hvat.checked.prog (lone (Frame.enter Hvat.checked.prog 3 i.args .normal) [] (w.forCall tape i)) := by
  have hv : (World.plainHolding Hvat.checked.prog os ⟨#[], wArgs, []⟩).variablesB Hvat.checked.prog = true := by kernel_rfl
  have hr : ((World.plainHolding Hvat.checked.prog os ⟨#[], wArgs, []⟩).heap.toList.drop Hvat.checked.prog.globals.size).take ((begin Hvat.checked.prog (fun _ _ => 0) default).world.heap.size - Hvat.checked.prog.globals.size) =
      (begin Hvat.checked.prog (fun _ _ => 0) default).world.heap.toList.drop Hvat.checked.prog.globals.size := by kernel_rfl
  refine ⟨World.holding Hvat.checked.prog os ⟨#[], wArgs, []⟩, fun _ _ => 0, ⟨#[], wArgs, []⟩, rfl, World.shaped_of_B hv hr, rfl, okIn, ⟨⟨[dI .u8, d32, d39], [], [], whole0, rfl⟩, sized0⟩, ?_⟩
  simp only [Assume.holds]
  exact ⟨by simp, by simp, fun _ => Modest.zero, by simp, by simp⟩
theorem vaultAnyOf_lifted (os : Os) (started : os.Started) (H : Type) (en : TypeId × Value → H) :
    ReturnsInHanded {} Hvat.checked os 3 .any (Rows.vaultAnyOfSpec.pre6 en Hvat.prog Hvat.f3 Rows.vaultAnyOfRow.domain false) (Rows.vaultAnyOfSpec.post en Hvat.prog Hvat.f3 false true false false) := by
  refine returnsInHanded_of_change_sized (C := Hvat.checked) Hvat.own started (by kernel_rfl) Hvat.func3 (wit en os) ?_
  intro W base args ds gs before hval hW _ hsz _
  exact calls3 en W base args ds gs before hval hW hsz
theorem vaultAnyOf_holds : Rows.VaultAnyOfSaid :=
  OpenClaim.holds_of_wide 3 Hvat.f3 rfl rfl rfl rfl rfl rfl rfl ⟨rfl, rfl, rfl, rfl, rfl⟩ rfl rfl rfl rfl rfl (by kernel_rfl) Hvat.func3 (by kernel_rfl)
    (of_decide_eq_true (by kernel_rfl)) (by unfold Func.isWrapper; first | (rw [if_pos (by decide +kernel)]; kernel_rfl) | (rw [if_neg (by decide +kernel)]; exact ⟨rfl, rfl⟩))
    (fun os started H en _ => vaultAnyOf_lifted os started H en)
end Go.Proofs.YgvatwGreat
