/-
  P11: the vault and the operation that came in.
-/
import Derived.Test.YgvatwGreatP10
namespace Go.Proofs.YgvatwGreat
open Go Go.RowKit
set_option linter.unusedVariables false
set_option linter.unusedSimpArgs false

section
variable {H : Type} {en : TypeId × Value → H} {W : World}
theorem segp {cs : List Value} (o s o' : Nat) (h : o + s = o') : cs.drop o = (cs.drop o).take s ++ cs.drop o' := by rw [← h]; exact seg o s
theorem u37 : Hvat.prog.underlying 37 = some (.slice 35) := Hvat.underlying37
theorem u87 : Hvat.prog.underlying 87 = some (.slice 135) := Hvat.underlying87
theorem cl4 : Hvat.prog.cellsOf 4 = 1 := by kernel_rfl
theorem cl5 : Hvat.prog.cellsOf 5 = 1 := by kernel_rfl
theorem cl21 : Hvat.prog.cellsOf 21 = 1 := by kernel_rfl
theorem cl22 : Hvat.prog.cellsOf 22 = 1 := by kernel_rfl
theorem cl23 : Hvat.prog.cellsOf 23 = 1 := by kernel_rfl
theorem cl24 : Hvat.prog.cellsOf 24 = 4096 := by kernel_rfl
theorem cl25 : Hvat.prog.cellsOf 25 = 1 := by kernel_rfl
theorem cl26 : Hvat.prog.cellsOf 26 = 16384 := by kernel_rfl
theorem cl27 : Hvat.prog.cellsOf 27 = 1 := by kernel_rfl
theorem cl28 : Hvat.prog.cellsOf 28 = 1 := by kernel_rfl
theorem cl29 : Hvat.prog.cellsOf 29 = 1 := by kernel_rfl
theorem cl30 : Hvat.prog.cellsOf 30 = 1 := by kernel_rfl
theorem cl34 : Hvat.prog.cellsOf 34 = 20 := by kernel_rfl
theorem cl35 : Hvat.prog.cellsOf 35 = 32 := by kernel_rfl
theorem cl36 : Hvat.prog.cellsOf 36 = 1 := by kernel_rfl
theorem cl37 : Hvat.prog.cellsOf 37 = 1 := by kernel_rfl
theorem cl45 : Hvat.prog.cellsOf 45 = 4 := by kernel_rfl
theorem cl87 : Hvat.prog.cellsOf 87 = 1 := by kernel_rfl
theorem dec_acct : Dec en W 57 acctC (fun x => CodeI W x.hd x.m.code ∧ (oB x.m.code).length ≤ 140737488355328) := by
  intro fuel cs x h hw
  obtain ⟨hl, hf⟩ := dec_struct Hvat.underlying57 h hw
  have hl' : cs.length = 29 := hl.trans (by kernel_rfl)
  obtain ⟨n0, y0, t0, w0⟩ := hf 0 _ rfl
  obtain ⟨a0, e0, r0⟩ := dec_addr n0 _ y0 t0 w0
  have f0 : (cs.drop 0).take (Hvat.prog.cellsOf 34) = flat [cA a0] := e0
  rw [cl34] at f0
  obtain ⟨n1, y1, t1, w1⟩ := hf 1 _ rfl
  obtain ⟨a1, e1, r1⟩ := dec_u64 n1 _ y1 t1 w1
  have f1 : (cs.drop 20).take (Hvat.prog.cellsOf 27) = flat [cU a1] := e1
  rw [cl27] at f1
  obtain ⟨n2, y2, t2, w2⟩ := hf 2 _ rfl
  obtain ⟨a2, e2, r2⟩ := dec_w n2 _ y2 t2 w2
  have f2 : (cs.drop 21).take (Hvat.prog.cellsOf 45) = flat [cW a2] := e2
  rw [cl45] at f2
  obtain ⟨n3, y3, t3, w3⟩ := hf 3 _ rfl
  obtain ⟨a3, e3, r3⟩ := dec_code n3 _ y3 t3 w3
  have f3 : (cs.drop 25).take (Hvat.prog.cellsOf 36) = flat [cS a3.1] := e3
  rw [cl36] at f3
  obtain ⟨n4, y4, t4, w4⟩ := hf 4 _ rfl
  obtain ⟨a4, e4, r4⟩ := dec_bool n4 _ y4 t4 w4
  have f4 : (cs.drop 26).take (Hvat.prog.cellsOf 4) = flat [cB a4] := e4
  rw [cl4] at f4
  obtain ⟨n5, y5, t5, w5⟩ := hf 5 _ rfl
  obtain ⟨a5, e5, r5⟩ := dec_bool n5 _ y5 t5 w5
  have f5 : (cs.drop 27).take (Hvat.prog.cellsOf 4) = flat [cB a5] := e5
  rw [cl4] at f5
  obtain ⟨n6, y6, t6, w6⟩ := hf 6 _ rfl
  obtain ⟨a6, e6, r6⟩ := dec_bool n6 _ y6 t6 w6
  have f6 : (cs.drop 28).take (Hvat.prog.cellsOf 4) = flat [cB a6] := e6
  rw [cl4] at f6
  refine ⟨⟨⟨a0, a1, a2, a3.2, a4, a5, a6⟩, a3.1⟩, ?_, r3⟩
  have e : cs.drop 0 = flat (acctC ⟨⟨a0, a1, a2, a3.2, a4, a5, a6⟩, a3.1⟩) := by
    rw [segp 0 20 20 rfl, f0, segp 20 1 21 rfl, f1, segp 21 4 25 rfl, f2, segp 25 1 26 rfl, f3, segp 26 1 27 rfl, f4, segp 27 1 28 rfl, f5, segp 28 1 29 rfl, f6, List.drop_of_length_le (by omega : cs.length ≤ 29)]
    simp only [acctC, flat, List.append_nil, List.append_assoc]
  exact e
theorem dec_slot : Dec en W 119 slotC (fun x => isI32 x.acct) := by
  intro fuel cs x h hw
  obtain ⟨hl, hf⟩ := dec_struct Hvat.underlying119 h hw
  have hl' : cs.length = 14 := hl.trans (by kernel_rfl)
  obtain ⟨n0, y0, t0, w0⟩ := hf 0 _ rfl
  obtain ⟨a0, e0, r0⟩ := dec_i32 n0 _ y0 t0 w0
  have f0 : (cs.drop 0).take (Hvat.prog.cellsOf 21) = flat [cI .i32 a0] := e0
  rw [cl21] at f0
  obtain ⟨n1, y1, t1, w1⟩ := hf 1 _ rfl
  obtain ⟨a1, e1, r1⟩ := dec_w n1 _ y1 t1 w1
  have f1 : (cs.drop 1).take (Hvat.prog.cellsOf 45) = flat [cW a1] := e1
  rw [cl45] at f1
  obtain ⟨n2, y2, t2, w2⟩ := hf 2 _ rfl
  obtain ⟨a2, e2, r2⟩ := dec_w n2 _ y2 t2 w2
  have f2 : (cs.drop 5).take (Hvat.prog.cellsOf 45) = flat [cW a2] := e2
  rw [cl45] at f2
  obtain ⟨n3, y3, t3, w3⟩ := hf 3 _ rfl
  obtain ⟨a3, e3, r3⟩ := dec_w n3 _ y3 t3 w3
  have f3 : (cs.drop 9).take (Hvat.prog.cellsOf 45) = flat [cW a3] := e3
  rw [cl45] at f3
  obtain ⟨n4, y4, t4, w4⟩ := hf 4 _ rfl
  obtain ⟨a4, e4, r4⟩ := dec_bool n4 _ y4 t4 w4
  have f4 : (cs.drop 13).take (Hvat.prog.cellsOf 4) = flat [cB a4] := e4
  rw [cl4] at f4
  refine ⟨⟨a0, a1, a2, a3, a4⟩, ?_, r0⟩
  have e : cs.drop 0 = flat (slotC ⟨a0, a1, a2, a3, a4⟩) := by
    rw [segp 0 1 1 rfl, f0, segp 1 4 5 rfl, f1, segp 5 4 9 rfl, f2, segp 9 4 13 rfl, f3, segp 13 1 14 rfl, f4, List.drop_of_length_le (by omega : cs.length ≤ 14)]
    simp only [slotC, flat, List.append_nil, List.append_assoc]
  exact e
theorem dec_temp : Dec en W 122 tempC (fun x => isI32 x.acct) := by
  intro fuel cs x h hw
  obtain ⟨hl, hf⟩ := dec_struct Hvat.underlying122 h hw
  have hl' : cs.length = 9 := hl.trans (by kernel_rfl)
  obtain ⟨n0, y0, t0, w0⟩ := hf 0 _ rfl
  obtain ⟨a0, e0, r0⟩ := dec_i32 n0 _ y0 t0 w0
  have f0 : (cs.drop 0).take (Hvat.prog.cellsOf 21) = flat [cI .i32 a0] := e0
  rw [cl21] at f0
  obtain ⟨n1, y1, t1, w1⟩ := hf 1 _ rfl
  obtain ⟨a1, e1, r1⟩ := dec_w n1 _ y1 t1 w1
  have f1 : (cs.drop 1).take (Hvat.prog.cellsOf 45) = flat [cW a1] := e1
  rw [cl45] at f1
  obtain ⟨n2, y2, t2, w2⟩ := hf 2 _ rfl
  obtain ⟨a2, e2, r2⟩ := dec_w n2 _ y2 t2 w2
  have f2 : (cs.drop 5).take (Hvat.prog.cellsOf 45) = flat [cW a2] := e2
  rw [cl45] at f2
  refine ⟨⟨a0, a1, a2⟩, ?_, r0⟩
  have e : cs.drop 0 = flat (tempC ⟨a0, a1, a2⟩) := by
    rw [segp 0 1 1 rfl, f0, segp 1 4 5 rfl, f1, segp 5 4 9 rfl, f2, List.drop_of_length_le (by omega : cs.length ≤ 9)]
    simp only [tempC, flat, List.append_nil, List.append_assoc]
  exact e
theorem dec_ent : Dec en W 60 entC (fun x => (CodeI W x.hd x.m.b ∧ (oB x.m.b).length ≤ 140737488355328) ∧ isI32 x.m.pl ∧ x.m.kind < 256) := by
  intro fuel cs x h hw
  obtain ⟨hl, hf⟩ := dec_struct Hvat.underlying60 h hw
  have hl' : cs.length = 9 := hl.trans (by kernel_rfl)
  obtain ⟨n0, y0, t0, w0⟩ := hf 0 _ rfl
  obtain ⟨a0, e0, r0⟩ := dec_u8 n0 _ y0 t0 w0
  have f0 : (cs.drop 0).take (Hvat.prog.cellsOf 5) = flat [cI .u8 (a0 : Int)] := e0
  rw [cl5] at f0
  obtain ⟨n1, y1, t1, w1⟩ := hf 1 _ rfl
  obtain ⟨a1, e1, r1⟩ := dec_i32 n1 _ y1 t1 w1
  have f1 : (cs.drop 1).take (Hvat.prog.cellsOf 21) = flat [cI .i32 a1] := e1
  rw [cl21] at f1
  obtain ⟨n2, y2, t2, w2⟩ := hf 2 _ rfl
  obtain ⟨a2, e2, r2⟩ := dec_u64 n2 _ y2 t2 w2
  have f2 : (cs.drop 2).take (Hvat.prog.cellsOf 27) = flat [cU a2] := e2
  rw [cl27] at f2
  obtain ⟨n3, y3, t3, w3⟩ := hf 3 _ rfl
  obtain ⟨a3, e3, r3⟩ := dec_w n3 _ y3 t3 w3
  have f3 : (cs.drop 3).take (Hvat.prog.cellsOf 45) = flat [cW a3] := e3
  rw [cl45] at f3
  obtain ⟨n4, y4, t4, w4⟩ := hf 4 _ rfl
  obtain ⟨a4, e4, r4⟩ := dec_code n4 _ y4 t4 w4
  have f4 : (cs.drop 7).take (Hvat.prog.cellsOf 36) = flat [cS a4.1] := e4
  rw [cl36] at f4
  obtain ⟨n5, y5, t5, w5⟩ := hf 5 _ rfl
  obtain ⟨a5, e5, r5⟩ := dec_bool n5 _ y5 t5 w5
  have f5 : (cs.drop 8).take (Hvat.prog.cellsOf 4) = flat [cB a5] := e5
  rw [cl4] at f5
  refine ⟨⟨⟨a0, a1, a2, a3, a4.2, a5⟩, a4.1⟩, ?_, r4, r1, r0⟩
  have e : cs.drop 0 = flat (entC ⟨⟨a0, a1, a2, a3, a4.2, a5⟩, a4.1⟩) := by
    rw [segp 0 1 1 rfl, f0, segp 1 1 2 rfl, f1, segp 2 1 3 rfl, f2, segp 3 4 7 rfl, f3, segp 7 1 8 rfl, f4, segp 8 1 9 rfl, f5, List.drop_of_length_le (by omega : cs.length ≤ 9)]
    simp only [entC, flat, List.append_nil, List.append_assoc]
  exact e
theorem dec_topw : Dec en W 87 (fun p : Sl × Option (List W256) => [cS p.1]) (fun p => SlI W p.1 topC (optL p.2) ∧ (p.1.a = none ↔ p.2 = none) ∧ (∀ a ∈ optL p.2, True) ∧ (optL p.2).length * 32 ≤ reachBytes) :=
  dec_slice (sz := 32) u87 (by kernel_rfl) (by kernel_rfl) (by decide) (fun _ => rfl) (dec_y Hvat.underlying135 (by kernel_rfl))
theorem dec_tops : Dec en W 37 (fun p : Sl × Option (List W256) => [cS p.1]) (fun p => SlI W p.1 topC (optL p.2) ∧ (p.1.a = none ↔ p.2 = none) ∧ (∀ a ∈ optL p.2, True) ∧ (optL p.2).length * 32 ≤ reachBytes) :=
  dec_slice (sz := 32) u37 (by kernel_rfl) (by kernel_rfl) (by decide) (fun _ => rfl) (dec_y Hvat.underlying35 (by kernel_rfl))
theorem dec_log : Dec en W 89 logC (fun x => LogI W x ∧ x.m.data.length ≤ 140737488355328 ∧ x.m.topics.length ≤ 4398046511104) := by
  intro fuel cs x h hw
  obtain ⟨hl, hf⟩ := dec_struct Hvat.underlying89 h hw
  have hl' : cs.length = 22 := hl.trans (by kernel_rfl)
  obtain ⟨n0, y0, t0, w0⟩ := hf 0 _ rfl
  obtain ⟨a0, e0, r0⟩ := dec_addr n0 _ y0 t0 w0
  have f0 : (cs.drop 0).take (Hvat.prog.cellsOf 34) = flat [cA a0] := e0
  rw [cl34] at f0
  obtain ⟨n1, y1, t1, w1⟩ := hf 1 _ rfl
  obtain ⟨a1, e1, r1⟩ := dec_topw n1 _ y1 t1 w1
  have f1 : (cs.drop 20).take (Hvat.prog.cellsOf 87) = flat [cS a1.1] := e1
  rw [cl87] at f1
  obtain ⟨n2, y2, t2, w2⟩ := hf 2 _ rfl
  obtain ⟨a2, e2, r2⟩ := dec_code n2 _ y2 t2 w2
  have f2 : (cs.drop 21).take (Hvat.prog.cellsOf 36) = flat [cS a2.1] := e2
  rw [cl36] at f2
  refine ⟨⟨⟨a0, optL a1.2, oB a2.2⟩, a1.1, a2.1⟩, ?_, ⟨r1.1, ⟨a2.2, rfl, r2.1⟩⟩, r2.2, by have := r1.2.2.2; unfold reachBytes at this; simp only; omega⟩
  have e : cs.drop 0 = flat (logC ⟨⟨a0, optL a1.2, oB a2.2⟩, a1.1, a2.1⟩) := by
    rw [segp 0 20 20 rfl, f0, segp 20 1 21 rfl, f1, segp 21 1 22 rfl, f2, List.drop_of_length_le (by omega : cs.length ≤ 22)]
    simp only [logC, flat, List.append_nil, List.append_assoc]
  exact e
theorem dec_accts : Dec en W 22 (fun p : Sl × Option (List LAcct) => [cS p.1]) (fun p => SlI W p.1 acctC (optL p.2) ∧ (p.1.a = none ↔ p.2 = none) ∧ (∀ a ∈ optL p.2, CodeI W a.hd a.m.code ∧ (oB a.m.code).length ≤ 140737488355328) ∧ (optL p.2).length * 96 ≤ reachBytes) :=
  dec_slice (sz := 29) Hvat.underlying22 (by kernel_rfl) (by kernel_rfl) (by decide) (fun _ => rfl) dec_acct
theorem dec_slots : Dec en W 23 (fun p : Sl × Option (List Slot) => [cS p.1]) (fun p => SlI W p.1 slotC (optL p.2) ∧ (p.1.a = none ↔ p.2 = none) ∧ (∀ a ∈ optL p.2, isI32 a.acct) ∧ (optL p.2).length * 112 ≤ reachBytes) :=
  dec_slice (sz := 14) Hvat.underlying23 (by kernel_rfl) (by kernel_rfl) (by decide) (fun _ => rfl) dec_slot
theorem dec_jr : Dec en W 25 (fun p : Sl × Option (List LEnt) => [cS p.1]) (fun p => SlI W p.1 entC (optL p.2) ∧ (p.1.a = none ↔ p.2 = none) ∧ (∀ a ∈ optL p.2, (CodeI W a.hd a.m.b ∧ (oB a.m.b).length ≤ 140737488355328) ∧ isI32 a.m.pl ∧ a.m.kind < 256) ∧ (optL p.2).length * 80 ≤ reachBytes) :=
  dec_slice (sz := 9) Hvat.underlying25 (by kernel_rfl) (by kernel_rfl) (by decide) (fun _ => rfl) dec_ent
theorem dec_logs : Dec en W 28 (fun p : Sl × Option (List LLog) => [cS p.1]) (fun p => SlI W p.1 logC (optL p.2) ∧ (p.1.a = none ↔ p.2 = none) ∧ (∀ a ∈ optL p.2, LogI W a ∧ a.m.data.length ≤ 140737488355328 ∧ a.m.topics.length ≤ 4398046511104) ∧ (optL p.2).length * 72 ≤ reachBytes) :=
  dec_slice (sz := 22) Hvat.underlying28 (by kernel_rfl) (by kernel_rfl) (by decide) (fun _ => rfl) dec_log
theorem dec_temps : Dec en W 29 (fun p : Sl × Option (List Temp) => [cS p.1]) (fun p => SlI W p.1 tempC (optL p.2) ∧ (p.1.a = none ↔ p.2 = none) ∧ (∀ a ∈ optL p.2, isI32 a.acct) ∧ (optL p.2).length * 72 ≤ reachBytes) :=
  dec_slice (sz := 9) Hvat.underlying29 (by kernel_rfl) (by kernel_rfl) (by decide) (fun _ => rfl) dec_temp
theorem dec_ttab : Dec en W 30 (fun p : Sl × Option (List Int) => [cS p.1]) (fun p => SlI W p.1 cI32 (optL p.2) ∧ (p.1.a = none ↔ p.2 = none) ∧ (∀ a ∈ optL p.2, isI32 a) ∧ (optL p.2).length * 4 ≤ reachBytes) :=
  dec_slice (sz := 1) Hvat.underlying30 (by kernel_rfl) (by kernel_rfl) (by decide) (fun _ => rfl) dec_i32
theorem dec_vault : Dec en W 32 vaultC (fun x => VIn W x) := by
  intro fuel cs x h hw
  obtain ⟨hl, hf⟩ := dec_struct Hvat.underlying32 h hw
  have hl' : cs.length = 24584 := hl.trans (by kernel_rfl)
  obtain ⟨n0, y0, t0, w0⟩ := hf 0 _ rfl
  obtain ⟨a0, e0, r0⟩ := dec_accts n0 _ y0 t0 w0
  have f0 : (cs.drop 0).take (Hvat.prog.cellsOf 22) = flat [cS a0.1] := e0
  rw [cl22] at f0
  obtain ⟨n1, y1, t1, w1⟩ := hf 1 _ rfl
  obtain ⟨a1, e1, r1⟩ := dec_slots n1 _ y1 t1 w1
  have f1 : (cs.drop 1).take (Hvat.prog.cellsOf 23) = flat [cS a1.1] := e1
  rw [cl23] at f1
  obtain ⟨n2, y2, t2, w2⟩ := hf 2 _ rfl
  obtain ⟨a2, e2, r2⟩ := (dec_tab Hvat.underlying24 (by kernel_rfl)) n2 _ y2 t2 w2
  have f2 : (cs.drop 2).take (Hvat.prog.cellsOf 24) = flat [cT 4096 a2] := e2
  rw [cl24] at f2
  obtain ⟨n3, y3, t3, w3⟩ := hf 3 _ rfl
  obtain ⟨a3, e3, r3⟩ := (dec_tab Hvat.underlying24 (by kernel_rfl)) n3 _ y3 t3 w3
  have f3 : (cs.drop 4098).take (Hvat.prog.cellsOf 24) = flat [cT 4096 a3] := e3
  rw [cl24] at f3
  obtain ⟨n4, y4, t4, w4⟩ := hf 4 _ rfl
  obtain ⟨a4, e4, r4⟩ := dec_jr n4 _ y4 t4 w4
  have f4 : (cs.drop 8194).take (Hvat.prog.cellsOf 25) = flat [cS a4.1] := e4
  rw [cl25] at f4
  obtain ⟨n5, y5, t5, w5⟩ := hf 5 _ rfl
  obtain ⟨a5, e5, r5⟩ := (dec_tab Hvat.underlying26 (by kernel_rfl)) n5 _ y5 t5 w5
  have f5 : (cs.drop 8195).take (Hvat.prog.cellsOf 26) = flat [cT 16384 a5] := e5
  rw [cl26] at f5
  obtain ⟨n6, y6, t6, w6⟩ := hf 6 _ rfl
  obtain ⟨a6, e6, r6⟩ := dec_i32 n6 _ y6 t6 w6
  have f6 : (cs.drop 24579).take (Hvat.prog.cellsOf 21) = flat [cI .i32 a6] := e6
  rw [cl21] at f6
  obtain ⟨n7, y7, t7, w7⟩ := hf 7 _ rfl
  obtain ⟨a7, e7, r7⟩ := dec_u64 n7 _ y7 t7 w7
  have f7 : (cs.drop 24580).take (Hvat.prog.cellsOf 27) = flat [cU a7] := e7
  rw [cl27] at f7
  obtain ⟨n8, y8, t8, w8⟩ := hf 8 _ rfl
  obtain ⟨a8, e8, r8⟩ := dec_logs n8 _ y8 t8 w8
  have f8 : (cs.drop 24581).take (Hvat.prog.cellsOf 28) = flat [cS a8.1] := e8
  rw [cl28] at f8
  obtain ⟨n9, y9, t9, w9⟩ := hf 9 _ rfl
  obtain ⟨a9, e9, r9⟩ := dec_temps n9 _ y9 t9 w9
  have f9 : (cs.drop 24582).take (Hvat.prog.cellsOf 29) = flat [cS a9.1] := e9
  rw [cl29] at f9
  obtain ⟨n10, y10, t10, w10⟩ := hf 10 _ rfl
  obtain ⟨a10, e10, r10⟩ := dec_ttab n10 _ y10 t10 w10
  have f10 : (cs.drop 24583).take (Hvat.prog.cellsOf 30) = flat [cS a10.1] := e10
  rw [cl30] at f10
  refine ⟨⟨a0.1, a1.1, a4.1, a8.1, a9.1, a10.1, optL a0.2, optL a1.2, optL a4.2, optL a8.2, optL a9.2, a10.2, a2, a3, a5, a6, a7⟩, ?_, ?_⟩
  have e : cs.drop 0 = flat (vaultC ⟨a0.1, a1.1, a4.1, a8.1, a9.1, a10.1, optL a0.2, optL a1.2, optL a4.2, optL a8.2, optL a9.2, a10.2, a2, a3, a5, a6, a7⟩) := by
    rw [segp 0 1 1 rfl, f0, segp 1 1 2 rfl, f1, segp 2 4096 4098 rfl, f2, segp 4098 4096 8194 rfl, f3, segp 8194 1 8195 rfl, f4, segp 8195 16384 24579 rfl, f5, segp 24579 1 24580 rfl, f6, segp 24580 1 24581 rfl, f7, segp 24581 1 24582 rfl, f8, segp 24582 1 24583 rfl, f9, segp 24583 1 24584 rfl, f10, List.drop_of_length_le (by omega : cs.length ≤ 24584)]
    simp only [vaultC, flat, List.append_nil, List.append_assoc]
  exact e
  obtain ⟨s0, _, q0, l0⟩ := r0
  obtain ⟨s1, _, q1, l1⟩ := r1
  obtain ⟨s4, _, q4, l4⟩ := r4
  obtain ⟨s8, _, q8, l8⟩ := r8
  obtain ⟨s9, _, q9, l9⟩ := r9
  obtain ⟨s10, z10, q10, l10⟩ := r10
  unfold reachBytes at l0 l1 l4 l8 l9 l10
  refine ⟨s0, s1, s4, s8, s9, ⟨s10, z10⟩, fun x hx => (q0 x hx).1, fun x hx => (q4 x hx).1.1, fun x hx => (q8 x hx).1, ⟨by simp only; omega, by simp only; omega, by simp only; omega, by simp only; omega, by simp only; omega, by simp only; omega, r2, r3, r5, r6, q1, q9, q10, fun x hx => (q4 x hx).2, fun x hx => (q0 x hx).2, fun x hx => (q4 x hx).1.2, fun x hx => (q8 x hx).2⟩⟩
theorem dec_op : Dec en W 39 opC (fun x => OpI W x) := by
  intro fuel cs x h hw
  obtain ⟨hl, hf⟩ := dec_struct Hvat.underlying39 h hw
  have hl' : cs.length = 89 := hl.trans (by kernel_rfl)
  obtain ⟨n0, y0, t0, w0⟩ := hf 0 _ rfl
  obtain ⟨a0, e0, r0⟩ := dec_u8 n0 _ y0 t0 w0
  have f0 : (cs.drop 0).take (Hvat.prog.cellsOf 5) = flat [cI .u8 (a0 : Int)] := e0
  rw [cl5] at f0
  obtain ⟨n1, y1, t1, w1⟩ := hf 1 _ rfl
  obtain ⟨a1, e1, r1⟩ := dec_addr n1 _ y1 t1 w1
  have f1 : (cs.drop 1).take (Hvat.prog.cellsOf 34) = flat [cA a1] := e1
  rw [cl34] at f1
  obtain ⟨n2, y2, t2, w2⟩ := hf 2 _ rfl
  obtain ⟨a2, e2, r2⟩ := (dec_y Hvat.underlying35 (by kernel_rfl)) n2 _ y2 t2 w2
  have f2 : (cs.drop 21).take (Hvat.prog.cellsOf 35) = flat [cY a2] := e2
  rw [cl35] at f2
  obtain ⟨n3, y3, t3, w3⟩ := hf 3 _ rfl
  obtain ⟨a3, e3, r3⟩ := (dec_y Hvat.underlying35 (by kernel_rfl)) n3 _ y3 t3 w3
  have f3 : (cs.drop 53).take (Hvat.prog.cellsOf 35) = flat [cY a3] := e3
  rw [cl35] at f3
  obtain ⟨n4, y4, t4, w4⟩ := hf 4 _ rfl
  obtain ⟨a4, e4, r4⟩ := dec_u64 n4 _ y4 t4 w4
  have f4 : (cs.drop 85).take (Hvat.prog.cellsOf 27) = flat [cU a4] := e4
  rw [cl27] at f4
  obtain ⟨n5, y5, t5, w5⟩ := hf 5 _ rfl
  obtain ⟨a5, e5, r5⟩ := dec_i32 n5 _ y5 t5 w5
  have f5 : (cs.drop 86).take (Hvat.prog.cellsOf 21) = flat [cI .i32 a5] := e5
  rw [cl21] at f5
  obtain ⟨n6, y6, t6, w6⟩ := hf 6 _ rfl
  obtain ⟨a6, e6, r6⟩ := dec_code n6 _ y6 t6 w6
  have f6 : (cs.drop 87).take (Hvat.prog.cellsOf 36) = flat [cS a6.1] := e6
  rw [cl36] at f6
  obtain ⟨n7, y7, t7, w7⟩ := hf 7 _ rfl
  obtain ⟨a7, e7, r7⟩ := dec_tops n7 _ y7 t7 w7
  have f7 : (cs.drop 88).take (Hvat.prog.cellsOf 37) = flat [cS a7.1] := e7
  rw [cl37] at f7
  refine ⟨⟨a0, a1, a2, a3, a4, a5, a6.1, a7.1, oB a6.2, optL a7.2⟩, ?_, ⟨⟨a6.2, rfl, r6.1⟩, r7.1, r6.2, by have := r7.2.2.2; unfold reachBytes at this; simp only; omega, r5, r0⟩⟩
  have e : cs.drop 0 = flat (opC ⟨a0, a1, a2, a3, a4, a5, a6.1, a7.1, oB a6.2, optL a7.2⟩) := by
    rw [segp 0 1 1 rfl, f0, segp 1 20 21 rfl, f1, segp 21 32 53 rfl, f2, segp 53 32 85 rfl, f3, segp 85 1 86 rfl, f4, segp 86 1 87 rfl, f5, segp 87 1 88 rfl, f6, segp 88 1 89 rfl, f7, List.drop_of_length_le (by omega : cs.length ≤ 89)]
    simp only [opC, flat, List.append_nil, List.append_assoc]
  exact e
end
end Go.Proofs.YgvatwGreat
