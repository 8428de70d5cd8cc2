/-
  P12: the call as the row sees it.
-/
import Derived.Test.YgvatwGreatRows
import Derived.Test.YgvatwGreatP9
import Derived.Test.YgvatwGreatP11
import Derived.ProofKit
import Derived.SizedLaws
namespace Go.Proofs.YgvatwGreat
open Go.ChangeShapes Go.WideShapes Go.ChangeAt Go.RowKit
set_option linter.unusedVariables false
set_option linter.unusedSimpArgs false

theorem Hvat.own : ownKnob Hvat.prog.godebug = none := by kernel_rfl
theorem Hvat.laidOut : laidOutB Hvat.prog = true := by kernel_rfl
set_option maxRecDepth 100000 in
theorem calls3 {H : Type} (enc : TypeId × Value → H) (W : World) (base : Nat) (args : Array Value) (ds gs : List (DataW H)) (before : List MemPlace)
    (hval : ∀ (j : Nat) t v, Hvat.f3.params[j]? = some t → args[j]? = some v → Value.okWide Hvat.prog W .any base t v)
    (hW : DataW.Whole enc Hvat.prog Hvat.f3.params.toList Rows.vaultAnyOfSpec.vars false W args.toList ds gs before)
    (hsz : (DataW.weightsEach Hvat.prog (Hvat.f3.params.toList ++ Rows.vaultAnyOfSpec.plain.varTypes Hvat.prog) (ds ++ gs)).all (· ≤ reachBytes) = true) :
    Calls Hvat.prog 3 args W fun e W' => ∃ v, e = .returned v ∧ Rows.vaultAnyOfSpec.post enc Hvat.prog Hvat.f3 false true false false W args v W' := by
  have hW' := hW
  obtain ⟨p, q, hA, hV, rfl, _, _⟩ := hW
  rw [Hvat.params3] at hA hval hsz
  obtain ⟨v0, v1, v2, d0, d1, d2, p0, p1, p2, rfl, rfl, rfl, h0, h1, h2⟩ := trodAll_three hA
  obtain ⟨rfl, rfl⟩ := trodVars_none hV
  simp only [List.append_nil] at hW' hsz
  have hlt : ∀ x ∈ p0 ++ (p1 ++ p2), x.block < W.heap.size := fun x hx => hW'.lt x (by simpa using hx)
  have hall : ∀ n ∈ DataW.weightsEach Hvat.prog ([5, 32, 39] ++ []) [d0, d1, d2], n ≤ reachBytes := fun n hn => by
    have := List.all_eq_true.1 hsz n hn
    simpa using this
  have w1 : WOk (d1.weights Hvat.prog 32) := fun n hn => hall n (wEach_mem (i := 1) rfl rfl n hn)
  have w2 : WOk (d2.weights Hvat.prog 39) := fun n hn => hall n (wEach_mem (i := 2) rfl rfl n hn)
  have w0 : WOk (d0.weights Hvat.prog 5) := fun n hn => hall n (wEach_mem (i := 0) rfl rfl n hn)
  have b0 := h0
  have b1 := h1
  have b2 := h2
  obtain ⟨a, rfl, ed0, ep0, wa⟩ := open_int Hvat.underlying5 (hval 0 5 v0 rfl rfl) h0
  have k1 := hval 1 32 v1 rfl rfl
  unfold Value.okWide at k1
  rw [Hvat.underlying32] at k1
  obtain ⟨cs1, rfl, _, _⟩ := k1
  have k2 := hval 2 39 v2 rfl rfl
  unfold Value.okWide at k2
  rw [Hvat.underlying39] at k2
  obtain ⟨cs2, rfl, _, _⟩ := k2
  obtain ⟨fu1, hf1⟩ := h1
  obtain ⟨fu2, hf2⟩ := h2
  obtain ⟨L, eL, hI⟩ := dec_vault fu1 cs1.toList (d1, p1) hf1 w1
  obtain ⟨o, eo, hO⟩ := dec_op fu2 cs2.toList (d2, p2) hf2 w2
  have ha := bounds_u8 wa
  have e1 : Value.agg cs1 = aggC (vaultC L) := by unfold aggC; rw [← eL]
  have e2 : Value.agg cs2 = aggC (opC o) := by unfold aggC; rw [← eo]
  have e0 : Value.int .u8 a = Value.int .u8 ((a.toNat : Nat) : Int) := by rw [show ((a.toNat : Nat) : Int) = a by omega]
  have hc := c3 a.toNat L o W (by omega) hI hO (fun hC hk => plaw (chk_mv.1 hC) hk)
  have hargs : #[Value.int .u8 a, Value.agg cs1, Value.agg cs2] = [Value.int .u8 ((a.toNat : Nat) : Int), aggC (vaultC L), aggC (opC o)].toArray := by rw [← e0, ← e1, ← e2]
  have hc' : Calls Hvat.prog 3 #[Value.int .u8 a, Value.agg cs1, Value.agg cs2] W (fun e w' => ∃ v, e = .returned v ∧ v = .bool true ∧ Below W.heap.size W w') := by rw [hargs]; exact hc
  refine Calls.mono hc' ?_
  rintro e W' ⟨v, rfl, rfl, hB⟩
  refine ⟨_, rfl, [d0, d1, d2], [], p0 ++ (p1 ++ p2), [], p0 ++ (p1 ++ p2), [], by simpa using hW', ?_, ?_, rfl, hB.frame _, fun h => by cases h⟩
  · exact trodAll_mk1 (shut_bool Hvat.underlying4 true)
  · rw [Hvat.params3]
    refine trodAll_mk3 (Below.trod Hvat.laidOut (by kernel_rfl) (of_decide_eq_true (by kernel_rfl)) b0 hB (fun x hx => hlt x (by simp [hx]))) (Below.trod Hvat.laidOut (by kernel_rfl) (of_decide_eq_true (by kernel_rfl)) b1 hB (fun x hx => hlt x (by simp [hx]))) (Below.trod Hvat.laidOut (by kernel_rfl) (of_decide_eq_true (by kernel_rfl)) b2 hB (fun x hx => hlt x (by simp [hx])))
end Go.Proofs.YgvatwGreat
