/-
  PLAIN LAWS P9: the law of every operation.
-/
import Derived.Test.YgvatwGreatP8
import Derived.Test.YgvatwGreatC87
namespace Go.Proofs.YgvatwGreat
open Go Go.RowKit
set_option linter.unusedVariables false
set_option linter.unusedSimpArgs false

theorem weights_get {m : MV} {i : Nat} (hi : i ≤ m.nm.toNat) : m.weights[i]? = some (m.at (i : Int)) := by
  unfold MV.weights
  rw [List.getElem?_map, List.getElem?_range (by omega)]; rfl
theorem stdy_same {m m2 : MV} {kind : Nat} {id : Int} {A : LAns} (h : ChkM m) (hnm : m2.nm = m.nm) (hat : kind ≠ 34 → ∀ i : Nat, (i : Int) < m.nm → m2.at (i : Int) = m.at (i : Int)) (h31 : ¬ (kind = 31 ∧ 0 ≤ A.id)) (h32 : ¬ (kind = 32 ∧ A.ok = true)) :
    Stdy m2 m.weights m.nm.toNat m.nm.toNat kind id A := by
  have h0 := h.n0
  have h1 := h.n1
  refine ⟨weights_len m, by omega, fun a b => absurd ⟨a, b⟩ h31, fun a b => absurd ⟨a, b⟩ h32, fun _ _ => rfl, fun _ => (by omega), fun hk i hi => ?_⟩
  rw [weights_get (by omega), hat hk i (by omega)]
theorem fullB_no {m : MV} {p : LOp} (h31 : p.kind ≠ 31) (hs : isSetterB p.kind = false) : fullB m p = false := by
  unfold fullB
  rw [if_neg h31, if_pos hs]
theorem plaw_rd {m : MV} {p : LOp} (h : ChkM m) (hk : p.kind ≤ 18) (h2 : (m.play p).2 = m) (ha : ¬ (15 ≤ p.kind ∧ p.kind ≤ 18) → (m.play p).1 = ((absM m).play p).1) (hs : ((absM m).play p).2 = absM m) : PLaw m p := by
  have hf : fullB m p = false := fullB_no (by omega) (by unfold isSetterB; simp; omega)
  refine ⟨fun hh => (by rw [hf] at hh; cases hh), fun _ => ha, fun _ => (by rw [h2, hs]), fun _ => h2, by rw [h2]; exact h, fun _ => ⟨m.nm.toNat, fun A hA => ?_⟩⟩
  rw [h2]
  exact stdy_same h rfl (fun _ _ _ => rfl) (by omega) (by omega)
theorem plaw_full {m : MV} {p : LOp} (h : ChkM m) (hf : fullB m p = true) (hp : m.play p = ((if p.kind = 31 then { zA with id := -1 } else zA), m)) : PLaw m p := by
  rw [show PLaw m p = PLaw m p from rfl]
  refine ⟨fun _ => (by rw [hp]; exact ⟨rfl, rfl⟩), fun hh => (by rw [hf] at hh; cases hh), fun hh => (by rw [hf] at hh; cases hh), fun _ => (by rw [hp]), by rw [hp]; exact h, fun hh => (by rw [hf] at hh; cases hh)⟩
theorem abs_marks {m m2 : MV} (h : ChkM m) (h2 : ChkM m2) (e : (absM m2).marks = (absM m).marks) : m2.nm = m.nm ∧ ∀ i : Nat, (i : Int) < m.nm → m2.marks i = m.marks i := by
  have h0 := h.n0
  have h02 := h2.n0
  have hl := congrArg List.length e
  simp only [absM, List.length_map, List.length_range] at hl
  refine ⟨by omega, fun i hi => ?_⟩
  have := congrArg (fun l => l[i]?) e
  simp only [absM, List.getElem?_map] at this
  rw [List.getElem?_range (by omega), List.getElem?_range (by omega)] at this
  exact Option.some.inj this
theorem plaw_set {m : MV} {p : LOp} (h : ChkM m) (hk : 19 ≤ p.kind ∧ p.kind ≤ 30) (hf : fullB m p = false) (h1 : (m.play p).1 = ((absM m).play p).1) (hc : ChkM (m.play p).2) (hst : absM (m.play p).2 = ((absM m).play p).2)
    (hrem : (m.play p).2 = m ∨ ∃ F, ((absM m).play p).2 = ⟨F, (absM m).past ++ [faceM m], (absM m).marks⟩) : PLaw m p := by
  refine ⟨fun hh => (by rw [hf] at hh; cases hh), fun _ _ => h1, fun _ => (by rw [hst]), fun hh => (by omega), hc, fun _ => ⟨m.nm.toNat, fun A hA => ?_⟩⟩
  rcases hrem with e | ⟨F, e⟩
  · rw [e]
    exact stdy_same h rfl (fun _ _ _ => rfl) (by omega) (by omega)
  · rw [← hst] at e
    obtain ⟨e1, e2⟩ := abs_marks h hc (by rw [e])
    refine stdy_same h e1 (fun _ i hi => ?_) (by omega) (by omega)
    have hm := marks_rng h hi
    rw [at_fc hc (by omega), at_fc h hi, e2 i hi, e]
    unfold MState.fc
    have hl : (absM m).past.length = m.jr.length := by simp [absM]
    congr 1
    simp only
    by_cases hlt : (m.marks i).toNat < (absM m).past.length
    · rw [List.getElem?_append_left hlt, List.getElem?_eq_getElem hlt]; rfl
    · rw [List.getElem?_append_right (by omega), List.getElem?_eq_none (by omega : (absM m).past.length ≤ (m.marks i).toNat), show (m.marks i).toNat - (absM m).past.length = 0 by omega]; rfl
theorem fc_back {m : MV} (h : ChkM m) {q : Nat} {n : Int} (hq : q ≤ m.jr.length) (hn0 : 0 ≤ n) (hn : n ≤ m.nm) (hm : ∀ i : Nat, (i : Int) < n → m.marks i ≤ (q : Int)) : ∀ i : Nat, (i : Int) < n → (m.backTo q n).at (i : Int) = m.at (i : Int) := by
  intro i hi
  have hc := back_chk h hq hn0 hn hm
  have hmk : (m.backTo q n).marks = m.marks := (lays_rest m (m.jr.drop q)).2.1
  have hr := marks_rng h (i := i) (by omega)
  have hb := hm i hi
  rw [at_fc hc hi, at_fc h (by omega), hmk, back_abs h hq hn0 hn]
  have hl : (absM m).past.length = m.jr.length := by simp [absM]
  congr 1
  unfold MState.fc
  simp only
  by_cases hlt : (m.marks i).toNat < q
  · rw [List.getElem?_take, if_pos hlt, List.getElem?_eq_getElem (by omega)]; rfl
  · rw [List.getElem?_take, if_neg hlt, show (m.marks i).toNat = q by omega]; rfl
/-! ### When a vault is full -/
theorem ix_lt {m : MV} (h : ChkT m) (a : A160) : m.ix a < 0 ↔ (m.findA a).1 < 0 := by
  obtain ⟨h1, h2⟩ := ix_find h a
  by_cases hf : 0 ≤ (m.findA a).1
  · rw [h1 hf]
  · have := h2 (by omega)
    omega
theorem full_acct {m : MV} {p : LOp} (h : ChkT m) (hk : p.kind = 19 ∨ p.kind = 20 ∨ p.kind = 21 ∨ p.kind = 23 ∨ p.kind = 29 ∨ p.kind = 30) : fullB m p = true ↔ m.jr.length = 65536 ∨ ((m.findA p.addr).1 < 0 ∧ m.accts.length = 2560) := by
  have e1 : isSetterB p.kind = true := by unfold isSetterB; simp; omega
  have e2 : namesAcctB p.kind = true := by unfold namesAcctB; simp; omega
  have e3 : namesSlotB p.kind = false := by unfold namesSlotB; simp; omega
  unfold fullB
  rw [if_neg (by omega), if_neg (by rw [e1]; simp)]
  by_cases hj : m.jr.length = 65536
  · rw [if_pos (.inl hj)]; simp [hj]
  · rw [if_neg (by omega)]
    by_cases ha : (m.findA p.addr).1 < 0 ∧ m.accts.length = 2560
    · rw [if_pos ⟨e2, (ix_lt h _).2 ha.1, ha.2⟩]; simp [ha]
    · rw [if_neg (fun hh => ha ⟨(ix_lt h _).1 hh.2.1, hh.2.2⟩), if_neg (by omega), if_pos (.inl e3)]
      simp [hj]
      exact fun h1 h2 => ha ⟨h1, h2⟩
theorem ix_eq {m : MV} (h : ChkT m) (a : A160) {p : Int} (hp : 0 ≤ p) : p = m.ix a ↔ p = (m.findA a).1 := by
  obtain ⟨h1, h2⟩ := ix_find h a
  by_cases hf : 0 ≤ (m.findA a).1
  · rw [h1 hf]
  · rw [h2 (by omega)]; omega
theorem full_slot {m : MV} {p : LOp} (h : ChkT m) (hk : p.kind = 22 ∨ p.kind = 24) : fullB m p = true ↔ m.jr.length = 65536 ∨ ((m.findA p.addr).1 < 0 ∧ m.accts.length = 2560) ∨ (m.slots.length = 2560 ∧ ∀ t ∈ m.slots, ¬ (t.acct = (m.findA p.addr).1 ∧ t.key = p.key)) := by
  have e1 : isSetterB p.kind = true := by unfold isSetterB; simp; omega
  have e2 : namesAcctB p.kind = true := by unfold namesAcctB; simp; omega
  have e3 : namesSlotB p.kind = true := by unfold namesSlotB; simp; omega
  unfold fullB
  rw [if_neg (by omega), if_neg (by rw [e1]; simp)]
  by_cases hj : m.jr.length = 65536
  · rw [if_pos (.inl hj)]; simp [hj]
  · rw [if_neg (by omega)]
    by_cases ha : (m.findA p.addr).1 < 0 ∧ m.accts.length = 2560
    · rw [if_pos ⟨e2, (ix_lt h _).2 ha.1, ha.2⟩]; simp [ha]
    · rw [if_neg (fun hh => ha ⟨(ix_lt h _).1 hh.2.1, hh.2.2⟩), if_neg (by omega)]
      by_cases hs : m.slots.length = 2560
      · rw [if_neg (by rw [e3]; simp [hs])]
        simp only [Bool.not_eq_true', List.any_eq_false, Bool.and_eq_true, decide_eq_true_eq]
        constructor
        · intro hh
          refine .inr (.inr ⟨hs, fun t ht e => hh t ht ⟨(ix_eq h _ (h.sa t ht).1).2 e.1, e.2⟩⟩)
        · rintro (h1 | h1 | ⟨_, h1⟩)
          · exact absurd h1 hj
          · exact absurd h1 ha
          · exact fun t ht e => h1 t ht ⟨(ix_eq h _ (h.sa t ht).1).1 e.1, e.2⟩
      · rw [if_pos (.inr hs)]
        constructor
        · intro hh; cases hh
        · rintro (h1 | h1 | ⟨h1, _⟩)
          · exact absurd h1 hj
          · exact absurd h1 ha
          · exact absurd h1 hs
theorem full_temp {m : MV} {p : LOp} (h : ChkT m) (hk : p.kind = 28) : fullB m p = true ↔ m.jr.length = 65536 ∨ ((m.findA p.addr).1 < 0 ∧ m.accts.length = 2560) ∨ (m.temps.length = 12288 ∧ ∀ t ∈ m.temps, ¬ (t.acct = (m.findA p.addr).1 ∧ t.key = p.key)) := by
  have e1 : isSetterB p.kind = true := by unfold isSetterB; simp; omega
  have e2 : namesAcctB p.kind = true := by unfold namesAcctB; simp; omega
  have e3 : namesSlotB p.kind = false := by unfold namesSlotB; simp; omega
  unfold fullB
  rw [if_neg (by omega), if_neg (by rw [e1]; simp)]
  by_cases hj : m.jr.length = 65536
  · rw [if_pos (.inl hj)]; simp [hj]
  · rw [if_neg (by omega)]
    by_cases ha : (m.findA p.addr).1 < 0 ∧ m.accts.length = 2560
    · rw [if_pos ⟨e2, (ix_lt h _).2 ha.1, ha.2⟩]; simp [ha]
    · rw [if_neg (fun hh => ha ⟨(ix_lt h _).1 hh.2.1, hh.2.2⟩)]
      by_cases hs : m.temps.length = 12288
      · rw [if_pos ⟨hk, hs⟩]
        simp only [Bool.not_eq_true', List.any_eq_false, Bool.and_eq_true, decide_eq_true_eq]
        constructor
        · intro hh
          refine .inr (.inr ⟨hs, fun t ht e => hh t ht ⟨(ix_eq h _ (h.ta t ht).1).2 e.1, e.2⟩⟩)
        · rintro (h1 | h1 | ⟨_, h1⟩)
          · exact absurd h1 hj
          · exact absurd h1 ha
          · exact fun t ht e => h1 t ht ⟨(ix_eq h _ (h.ta t ht).1).1 e.1, e.2⟩
      · rw [if_neg (fun hh => hs hh.2), if_pos (.inl e3)]
        constructor
        · intro hh; cases hh
        · rintro (h1 | h1 | ⟨h1, _⟩)
          · exact absurd h1 hj
          · exact absurd h1 ha
          · exact absurd h1 hs
theorem full_rest {m : MV} {p : LOp} (hk : p.kind = 25 ∨ p.kind = 26 ∨ p.kind = 27) : fullB m p = true ↔ m.jr.length = 65536 ∨ (p.kind = 27 ∧ m.logs.length = 2800) := by
  have e1 : isSetterB p.kind = true := by unfold isSetterB; simp; omega
  have e2 : namesAcctB p.kind = false := by unfold namesAcctB; simp; omega
  have e3 : namesSlotB p.kind = false := by unfold namesSlotB; simp; omega
  unfold fullB
  rw [if_neg (by omega), if_neg (by rw [e1]; simp)]
  by_cases hj : m.jr.length = 65536 ∨ (p.kind = 27 ∧ m.logs.length = 2800)
  · rw [if_pos hj]; simp [hj]
  · rw [if_neg hj, if_neg (by rw [e2]; simp), if_neg (by omega), if_pos (.inl e3)]
    simp [hj]
theorem bool_not {b : Bool} {P : Prop} (h : b = true ↔ P) : b = false ↔ ¬ P := by
  cases b
  · simp at h ⊢; exact h
  · simp at h ⊢; exact h
theorem not_all {α : Type} {l : List α} {P : α → Prop} (h : ¬ ∀ t ∈ l, ¬ P t) : ∃ t ∈ l, P t := by
  by_cases he : ∃ t ∈ l, P t
  · exact he
  · exact absurd (fun t ht hp => he ⟨t, ht, hp⟩) h

theorem pl_0 {m : MV} {p : LOp} (h : ChkM m) (hk : p.kind = 0) : PLaw m p := by
  have hv : m.play p = ({ zA with val := (m.getA p.addr).bal }, m) := by unfold MV.play; rw [hk]; rfl
  have hs : (absM m).play p = ({ zA with val := (findMA (absM m).now.accts p.addr).bal }, (absM m)) := by unfold MState.play; rw [hk]; rfl
  have hg : m.getA p.addr = findMA (absM m).now.accts p.addr := getA_face h p.addr
  refine plaw_rd h (by omega) (by rw [hv]) (fun _ => ?_) (by rw [hs])
  rw [hv, hs, hg]

theorem pl_1 {m : MV} {p : LOp} (h : ChkM m) (hk : p.kind = 1) : PLaw m p := by
  have hv : m.play p = ({ zA with n := (m.getA p.addr).nonce }, m) := by unfold MV.play; rw [hk]; rfl
  have hs : (absM m).play p = ({ zA with n := (findMA (absM m).now.accts p.addr).nonce }, (absM m)) := by unfold MState.play; rw [hk]; rfl
  have hg : m.getA p.addr = findMA (absM m).now.accts p.addr := getA_face h p.addr
  refine plaw_rd h (by omega) (by rw [hv]) (fun _ => ?_) (by rw [hs])
  rw [hv, hs, hg]

theorem pl_2 {m : MV} {p : LOp} (h : ChkM m) (hk : p.kind = 2) : PLaw m p := by
  have hv : m.play p = ({ zA with code := oB (m.getA p.addr).code }, m) := by unfold MV.play; rw [hk]; rfl
  have hs : (absM m).play p = ({ zA with code := oB (findMA (absM m).now.accts p.addr).code }, (absM m)) := by unfold MState.play; rw [hk]; rfl
  have hg : m.getA p.addr = findMA (absM m).now.accts p.addr := getA_face h p.addr
  refine plaw_rd h (by omega) (by rw [hv]) (fun _ => ?_) (by rw [hs])
  rw [hv, hs, hg]

theorem pl_3 {m : MV} {p : LOp} (h : ChkM m) (hk : p.kind = 3) : PLaw m p := by
  have hv : m.play p = ({ zA with ok := emptyM (m.getA p.addr) }, m) := by unfold MV.play; rw [hk]; rfl
  have hs : (absM m).play p = ({ zA with ok := emptyM (findMA (absM m).now.accts p.addr) }, (absM m)) := by unfold MState.play; rw [hk]; rfl
  have hg : m.getA p.addr = findMA (absM m).now.accts p.addr := getA_face h p.addr
  refine plaw_rd h (by omega) (by rw [hv]) (fun _ => ?_) (by rw [hs])
  rw [hv, hs, hg]

theorem pl_5 {m : MV} {p : LOp} (h : ChkM m) (hk : p.kind = 5) : PLaw m p := by
  have hv : m.play p = ({ zA with ok := (m.getA p.addr).warm }, m) := by unfold MV.play; rw [hk]; rfl
  have hs : (absM m).play p = ({ zA with ok := (findMA (absM m).now.accts p.addr).warm }, (absM m)) := by unfold MState.play; rw [hk]; rfl
  have hg : m.getA p.addr = findMA (absM m).now.accts p.addr := getA_face h p.addr
  refine plaw_rd h (by omega) (by rw [hv]) (fun _ => ?_) (by rw [hs])
  rw [hv, hs, hg]

theorem pl_8 {m : MV} {p : LOp} (h : ChkM m) (hk : p.kind = 8) : PLaw m p := by
  have hv : m.play p = ({ zA with ok := (m.getA p.addr).made }, m) := by unfold MV.play; rw [hk]; rfl
  have hs : (absM m).play p = ({ zA with ok := (findMA (absM m).now.accts p.addr).made }, (absM m)) := by unfold MState.play; rw [hk]; rfl
  have hg : m.getA p.addr = findMA (absM m).now.accts p.addr := getA_face h p.addr
  refine plaw_rd h (by omega) (by rw [hv]) (fun _ => ?_) (by rw [hs])
  rw [hv, hs, hg]

theorem pl_9 {m : MV} {p : LOp} (h : ChkM m) (hk : p.kind = 9) : PLaw m p := by
  have hv : m.play p = ({ zA with ok := (m.getA p.addr).gone }, m) := by unfold MV.play; rw [hk]; rfl
  have hs : (absM m).play p = ({ zA with ok := (findMA (absM m).now.accts p.addr).gone }, (absM m)) := by unfold MState.play; rw [hk]; rfl
  have hg : m.getA p.addr = findMA (absM m).now.accts p.addr := getA_face h p.addr
  refine plaw_rd h (by omega) (by rw [hv]) (fun _ => ?_) (by rw [hs])
  rw [hv, hs, hg]

theorem pl_4 {m : MV} {p : LOp} (h : ChkM m) (hk : p.kind = 4) : PLaw m p := by
  have hv : m.play p = ({ zA with val := (m.getS p.addr p.key).val, orig := (m.getS p.addr p.key).orig }, m) := by unfold MV.play; rw [hk]; rfl
  have hs : (absM m).play p = ({ zA with val := (findFS (absM m).now.slots p.addr p.key).val, orig := (findFS (absM m).now.slots p.addr p.key).orig }, (absM m)) := by unfold MState.play; rw [hk]; rfl
  obtain ⟨g1, g2, g3⟩ := getS_face h p.addr p.key
  have hn : (absM m).now.slots = slotsF m.accts m.slots := rfl
  refine plaw_rd h (by omega) (by rw [hv]) (fun _ => ?_) (by rw [hs])
  rw [hv, hs, hn, g1, g2]

theorem pl_6 {m : MV} {p : LOp} (h : ChkM m) (hk : p.kind = 6) : PLaw m p := by
  have hv : m.play p = ({ zA with ok := (m.getS p.addr p.key).warm }, m) := by unfold MV.play; rw [hk]; rfl
  have hs : (absM m).play p = ({ zA with ok := (findFS (absM m).now.slots p.addr p.key).warm }, (absM m)) := by unfold MState.play; rw [hk]; rfl
  obtain ⟨g1, g2, g3⟩ := getS_face h p.addr p.key
  have hn : (absM m).now.slots = slotsF m.accts m.slots := rfl
  refine plaw_rd h (by omega) (by rw [hv]) (fun _ => ?_) (by rw [hs])
  rw [hv, hs, hn, g3]

theorem pl_7 {m : MV} {p : LOp} (h : ChkM m) (hk : p.kind = 7) : PLaw m p := by
  have hv : m.play p = ({ zA with val := m.getT p.addr p.key }, m) := by unfold MV.play; rw [hk]; rfl
  have hs : (absM m).play p = ({ zA with val := findFT (absM m).now.temps p.addr p.key }, (absM m)) := by unfold MState.play; rw [hk]; rfl
  have hg : m.getT p.addr p.key = findFT (absM m).now.temps p.addr p.key := getT_face h p.addr p.key
  refine plaw_rd h (by omega) (by rw [hv]) (fun _ => ?_) (by rw [hs])
  rw [hv, hs, hg]

theorem pl_10 {m : MV} {p : LOp} (h : ChkM m) (hk : p.kind = 10) : PLaw m p := by
  have hv : m.play p = ({ zA with val := (m.getS p.addr p.key).val, orig := (m.getS p.addr p.key).orig, ok := (m.getS p.addr p.key).warm }, m) := by unfold MV.play; rw [hk]; rfl
  have hs : (absM m).play p = ({ zA with val := (findFS (absM m).now.slots p.addr p.key).val, orig := (findFS (absM m).now.slots p.addr p.key).orig, ok := (findFS (absM m).now.slots p.addr p.key).warm }, (absM m)) := by unfold MState.play; rw [hk]; rfl
  obtain ⟨g1, g2, g3⟩ := getS_face h p.addr p.key
  have hn : (absM m).now.slots = slotsF m.accts m.slots := rfl
  refine plaw_rd h (by omega) (by rw [hv]) (fun _ => ?_) (by rw [hs])
  rw [hv, hs, hn, g1, g2, g3]

theorem pl_11 {m : MV} {p : LOp} (h : ChkM m) (hk : p.kind = 11) : PLaw m p := by
  have hv : m.play p = ({ zA with n := m.ref }, m) := by unfold MV.play; rw [hk]; rfl
  have hs : (absM m).play p = ({ zA with n := (absM m).now.ref }, (absM m)) := by unfold MState.play; rw [hk]; rfl
  refine plaw_rd h (by omega) (by rw [hv]) (fun _ => ?_) (by rw [hs])
  rw [hv, hs]
  rfl

theorem pl_12 {m : MV} {p : LOp} (h : ChkM m) (hk : p.kind = 12) : PLaw m p := by
  have hv : m.play p = ({ zA with logs := m.logs }, m) := by unfold MV.play; rw [hk]; rfl
  have hs : (absM m).play p = ({ zA with logs := (absM m).now.logs }, (absM m)) := by unfold MState.play; rw [hk]; rfl
  refine plaw_rd h (by omega) (by rw [hv]) (fun _ => ?_) (by rw [hs])
  rw [hv, hs]
  rfl

theorem pl_13 {m : MV} {p : LOp} (h : ChkM m) (hk : p.kind = 13) : PLaw m p := by
  have hv : m.play p = ({ zA with tot := m.at p.id }, m) := by unfold MV.play; rw [hk]; rfl
  have hs : (absM m).play p = ({ zA with tot := (absM m).at p.id }, (absM m)) := by unfold MState.play; rw [hk]; rfl
  refine plaw_rd h (by omega) (by rw [hv]) (fun _ => ?_) (by rw [hs])
  rw [hv, hs, at_law h]

theorem pl_14 {m : MV} {p : LOp} (h : ChkM m) (hk : p.kind = 14) : PLaw m p := by
  have hv : m.play p = ({ zA with world := m.xport }, m) := by unfold MV.play; rw [hk]; rfl
  have hs : (absM m).play p = ({ zA with world := (absM m).now.xport }, (absM m)) := by unfold MState.play; rw [hk]; rfl
  refine plaw_rd h (by omega) (by rw [hv]) (fun _ => ?_) (by rw [hs])
  rw [hv, hs, xport_law h]
  rfl

theorem pl_15 {m : MV} {p : LOp} (h : ChkM m) (hk : p.kind = 15) : PLaw m p := by
  have hv : m.play p = ({ zA with sz := szF m }, m) := by unfold MV.play; rw [hk]; rfl
  have hs : (absM m).play p = (zA, absM m) := by unfold MState.play; rw [hk]; rfl
  exact plaw_rd h (by omega) (by rw [hv]) (fun hh => by omega) (by rw [hs])

theorem pl_16 {m : MV} {p : LOp} (h : ChkM m) (hk : p.kind = 16) : PLaw m p := by
  have hv : m.play p = ({ zA with ok := true }, m) := by unfold MV.play; rw [hk]; rfl
  have hs : (absM m).play p = (zA, absM m) := by unfold MState.play; rw [hk]; rfl
  exact plaw_rd h (by omega) (by rw [hv]) (fun hh => by omega) (by rw [hs])

theorem pl_17 {m : MV} {p : LOp} (h : ChkM m) (hk : p.kind = 17) : PLaw m p := by
  have hv : m.play p = ({ zA with ok := m.mid p.id (todoOf p) }, m) := by unfold MV.play; rw [hk]; rfl
  have hs : (absM m).play p = (zA, absM m) := by unfold MState.play; rw [hk]; rfl
  exact plaw_rd h (by omega) (by rw [hv]) (fun hh => by omega) (by rw [hs])

theorem pl_18 {m : MV} {p : LOp} (h : ChkM m) (hk : p.kind = 18) : PLaw m p := by
  have hv : m.play p = ({ zA with ok := true }, m) := by unfold MV.play; rw [hk]; rfl
  have hs : (absM m).play p = (zA, absM m) := by unfold MState.play; rw [hk]; rfl
  exact plaw_rd h (by omega) (by rw [hv]) (fun hh => by omega) (by rw [hs])

theorem pl_19 {m : MV} {p : LOp} (h : ChkM m) (hk : p.kind = 19) : PLaw m p := by
  have hv : m.play p = ({ zA with ok := (m.setA p.addr (fun k x => ⟨0, (k : Int), 0#64, x.bal, none, false⟩) (fun x => { x with bal := p.v })).1 }, (m.setA p.addr (fun k x => ⟨0, (k : Int), 0#64, x.bal, none, false⟩) (fun x => { x with bal := p.v })).2) := by unfold MV.play; rw [hk]; rfl
  have hs : (absM m).play p = ({ zA with ok := true }, (absM m).putA p.addr (fun x => { x with bal := p.v })) := by unfold MState.play; rw [hk]; rfl
  cases hf : fullB m p with
  | true =>
    have hfu := (full_acct h.sh (by omega)).1 hf
    refine plaw_full h hf ?_
    rw [hv, setA_full hfu, if_neg (by omega)]
    rfl
  | false =>
    have hfu := (bool_not (full_acct h.sh (by omega))).1 hf
    have hj := h.j
    obtain ⟨l1, l2, l3⟩ := setA_law h (a := p.addr) (by omega) (fun hh => hfu (.inr hh)) (fun k x => ⟨0, (k : Int), 0#64, x.bal, none, false⟩) (fun x => { x with bal := p.v }) (fun x z => { z with bal := x.bal }) (fun _ => rfl) (fun x hx => hx) (fun _ => rfl) (fun _ _ _ => rfl) (fun k x nA nS nT hkn hxc => ⟨(show (0 : Nat) ≤ 10 by decide), (show (0 : Int) ≤ (k : Int) by omega), (by simp only [sizeK]; simp; omega), fun hh => absurd rfl hh, fun hh => absurd hh (show ¬ (0 : Nat) = 6 by decide), fun _ => .inl rfl, fun hh => absurd rfl hh, rfl, fun hh => (by cases hh)⟩) (fun _ _ => (show (0 : Nat) ≠ 7 by decide))
    refine plaw_set h (by omega) hf ?_ (by rw [hv]; exact l2) (by rw [hv, hs]; exact l3) (.inr ⟨_, by rw [hs]; unfold MState.putA MState.remember; rw [show (absM m).now.norm = faceM m from norm_face h.ca]⟩)
    rw [hv, hs]
    exact congrArg (fun z => { zA with ok := z }) l1

theorem pl_20 {m : MV} {p : LOp} (h : ChkM m) (hk : p.kind = 20) : PLaw m p := by
  have hv : m.play p = ({ zA with ok := (m.setA p.addr (fun k x => ⟨1, (k : Int), x.nonce, 0#256, none, false⟩) (fun x => { x with nonce := p.n })).1 }, (m.setA p.addr (fun k x => ⟨1, (k : Int), x.nonce, 0#256, none, false⟩) (fun x => { x with nonce := p.n })).2) := by unfold MV.play; rw [hk]; rfl
  have hs : (absM m).play p = ({ zA with ok := true }, (absM m).putA p.addr (fun x => { x with nonce := p.n })) := by unfold MState.play; rw [hk]; rfl
  cases hf : fullB m p with
  | true =>
    have hfu := (full_acct h.sh (by omega)).1 hf
    refine plaw_full h hf ?_
    rw [hv, setA_full hfu, if_neg (by omega)]
    rfl
  | false =>
    have hfu := (bool_not (full_acct h.sh (by omega))).1 hf
    have hj := h.j
    obtain ⟨l1, l2, l3⟩ := setA_law h (a := p.addr) (by omega) (fun hh => hfu (.inr hh)) (fun k x => ⟨1, (k : Int), x.nonce, 0#256, none, false⟩) (fun x => { x with nonce := p.n }) (fun x z => { z with nonce := x.nonce }) (fun _ => rfl) (fun x hx => hx) (fun _ => rfl) (fun _ _ _ => rfl) (fun k x nA nS nT hkn hxc => ⟨(show (1 : Nat) ≤ 10 by decide), (show (0 : Int) ≤ (k : Int) by omega), (by simp only [sizeK]; simp; omega), fun _ => .inl rfl, fun hh => absurd hh (show ¬ (1 : Nat) = 6 by decide), fun hh => absurd rfl hh, fun hh => absurd rfl hh, rfl, fun hh => (by cases hh)⟩) (fun _ _ => (show (1 : Nat) ≠ 7 by decide))
    refine plaw_set h (by omega) hf ?_ (by rw [hv]; exact l2) (by rw [hv, hs]; exact l3) (.inr ⟨_, by rw [hs]; unfold MState.putA MState.remember; rw [show (absM m).now.norm = faceM m from norm_face h.ca]⟩)
    rw [hv, hs]
    exact congrArg (fun z => { zA with ok := z }) l1

theorem pl_23 {m : MV} {p : LOp} (h : ChkM m) (hk : p.kind = 23) : PLaw m p := by
  have hv : m.play p = ({ zA with ok := (m.setA p.addr (fun k x => ⟨4, (k : Int), 0#64, 0#256, none, x.warm⟩) (fun x => { x with warm := true })).1 }, (m.setA p.addr (fun k x => ⟨4, (k : Int), 0#64, 0#256, none, x.warm⟩) (fun x => { x with warm := true })).2) := by unfold MV.play; rw [hk]; rfl
  have hs : (absM m).play p = ({ zA with ok := true }, (absM m).putA p.addr (fun x => { x with warm := true })) := by unfold MState.play; rw [hk]; rfl
  cases hf : fullB m p with
  | true =>
    have hfu := (full_acct h.sh (by omega)).1 hf
    refine plaw_full h hf ?_
    rw [hv, setA_full hfu, if_neg (by omega)]
    rfl
  | false =>
    have hfu := (bool_not (full_acct h.sh (by omega))).1 hf
    have hj := h.j
    obtain ⟨l1, l2, l3⟩ := setA_law h (a := p.addr) (by omega) (fun hh => hfu (.inr hh)) (fun k x => ⟨4, (k : Int), 0#64, 0#256, none, x.warm⟩) (fun x => { x with warm := true }) (fun x z => { z with warm := x.warm }) (fun _ => rfl) (fun x hx => hx) (fun _ => rfl) (fun _ _ _ => rfl) (fun k x nA nS nT hkn hxc => ⟨(show (4 : Nat) ≤ 10 by decide), (show (0 : Int) ≤ (k : Int) by omega), (by simp only [sizeK]; simp; omega), fun hh => absurd rfl hh, fun hh => absurd hh (show ¬ (4 : Nat) = 6 by decide), fun hh => absurd rfl hh, fun hh => absurd rfl hh, rfl, fun _ => .inl rfl⟩) (fun _ _ => (show (4 : Nat) ≠ 7 by decide))
    refine plaw_set h (by omega) hf ?_ (by rw [hv]; exact l2) (by rw [hv, hs]; exact l3) (.inr ⟨_, by rw [hs]; unfold MState.putA MState.remember; rw [show (absM m).now.norm = faceM m from norm_face h.ca]⟩)
    rw [hv, hs]
    exact congrArg (fun z => { zA with ok := z }) l1

theorem pl_29 {m : MV} {p : LOp} (h : ChkM m) (hk : p.kind = 29) : PLaw m p := by
  have hv : m.play p = ({ zA with ok := (m.setA p.addr (fun k x => ⟨9, (k : Int), 0#64, 0#256, none, x.made⟩) (fun x => { x with made := true })).1 }, (m.setA p.addr (fun k x => ⟨9, (k : Int), 0#64, 0#256, none, x.made⟩) (fun x => { x with made := true })).2) := by unfold MV.play; rw [hk]; rfl
  have hs : (absM m).play p = ({ zA with ok := true }, (absM m).putA p.addr (fun x => { x with made := true })) := by unfold MState.play; rw [hk]; rfl
  cases hf : fullB m p with
  | true =>
    have hfu := (full_acct h.sh (by omega)).1 hf
    refine plaw_full h hf ?_
    rw [hv, setA_full hfu, if_neg (by omega)]
    rfl
  | false =>
    have hfu := (bool_not (full_acct h.sh (by omega))).1 hf
    have hj := h.j
    obtain ⟨l1, l2, l3⟩ := setA_law h (a := p.addr) (by omega) (fun hh => hfu (.inr hh)) (fun k x => ⟨9, (k : Int), 0#64, 0#256, none, x.made⟩) (fun x => { x with made := true }) (fun x z => { z with made := x.made }) (fun _ => rfl) (fun x hx => hx) (fun _ => rfl) (fun _ _ _ => rfl) (fun k x nA nS nT hkn hxc => ⟨(show (9 : Nat) ≤ 10 by decide), (show (0 : Int) ≤ (k : Int) by omega), (by simp only [sizeK]; simp; omega), fun hh => absurd rfl hh, fun hh => absurd hh (show ¬ (9 : Nat) = 6 by decide), fun hh => absurd rfl hh, fun hh => absurd rfl hh, rfl, fun _ => .inr (.inr (.inl rfl))⟩) (fun _ _ => (show (9 : Nat) ≠ 7 by decide))
    refine plaw_set h (by omega) hf ?_ (by rw [hv]; exact l2) (by rw [hv, hs]; exact l3) (.inr ⟨_, by rw [hs]; unfold MState.putA MState.remember; rw [show (absM m).now.norm = faceM m from norm_face h.ca]⟩)
    rw [hv, hs]
    exact congrArg (fun z => { zA with ok := z }) l1

theorem pl_30 {m : MV} {p : LOp} (h : ChkM m) (hk : p.kind = 30) : PLaw m p := by
  have hv : m.play p = ({ zA with ok := (m.setA p.addr (fun k x => ⟨10, (k : Int), 0#64, 0#256, none, x.gone⟩) (fun x => { x with gone := true })).1 }, (m.setA p.addr (fun k x => ⟨10, (k : Int), 0#64, 0#256, none, x.gone⟩) (fun x => { x with gone := true })).2) := by unfold MV.play; rw [hk]; rfl
  have hs : (absM m).play p = ({ zA with ok := true }, (absM m).putA p.addr (fun x => { x with gone := true })) := by unfold MState.play; rw [hk]; rfl
  cases hf : fullB m p with
  | true =>
    have hfu := (full_acct h.sh (by omega)).1 hf
    refine plaw_full h hf ?_
    rw [hv, setA_full hfu, if_neg (by omega)]
    rfl
  | false =>
    have hfu := (bool_not (full_acct h.sh (by omega))).1 hf
    have hj := h.j
    obtain ⟨l1, l2, l3⟩ := setA_law h (a := p.addr) (by omega) (fun hh => hfu (.inr hh)) (fun k x => ⟨10, (k : Int), 0#64, 0#256, none, x.gone⟩) (fun x => { x with gone := true }) (fun x z => { z with gone := x.gone }) (fun _ => rfl) (fun x hx => hx) (fun _ => rfl) (fun _ _ _ => rfl) (fun k x nA nS nT hkn hxc => ⟨(show (10 : Nat) ≤ 10 by decide), (show (0 : Int) ≤ (k : Int) by omega), (by simp only [sizeK]; simp; omega), fun hh => absurd rfl hh, fun hh => absurd hh (show ¬ (10 : Nat) = 6 by decide), fun hh => absurd rfl hh, fun hh => absurd rfl hh, rfl, fun _ => .inr (.inr (.inr rfl))⟩) (fun _ _ => (show (10 : Nat) ≠ 7 by decide))
    refine plaw_set h (by omega) hf ?_ (by rw [hv]; exact l2) (by rw [hv, hs]; exact l3) (.inr ⟨_, by rw [hs]; unfold MState.putA MState.remember; rw [show (absM m).now.norm = faceM m from norm_face h.ca]⟩)
    rw [hv, hs]
    exact congrArg (fun z => { zA with ok := z }) l1

theorem codeOK_oN {l : List UInt8} (h : l.length ≤ 256) : codeOKB (oN l) = true := by
  unfold oN codeOKB
  cases l with
  | nil => rfl
  | cons x l => simp [oB] at h ⊢; exact h

theorem pl_21 {m : MV} {p : LOp} (h : ChkM m) (hk : p.kind = 21) : PLaw m p := by
  have hv : m.play p = ({ zA with ok := (m.putCode p.addr p.b).1 }, (m.putCode p.addr p.b).2) := by unfold MV.play; rw [hk]; rfl
  have hs : (absM m).play p = if p.b.length ≤ 256 then ({ zA with ok := true }, (absM m).putA p.addr (fun x => { x with code := oN p.b })) else (zA, (absM m)) := by unfold MState.play; rw [hk]; rfl
  by_cases hl : p.b.length ≤ 256
  · have hv' : m.putCode p.addr p.b = m.setA p.addr (fun k x => ⟨2, (k : Int), 0#64, 0#256, x.code, false⟩) (fun x => { x with code := oN p.b }) := by unfold MV.putCode; rw [if_pos hl]
    rw [hv'] at hv
    rw [if_pos hl] at hs
    cases hf : fullB m p with
    | true =>
      have hfu := (full_acct h.sh (by omega)).1 hf
      refine plaw_full h hf ?_
      rw [hv, setA_full hfu, if_neg (by omega)]
      rfl
    | false =>
      have hfu := (bool_not (full_acct h.sh (by omega))).1 hf
      have hj := h.j
      obtain ⟨l1, l2, l3⟩ := setA_law h (a := p.addr) (by omega) (fun hh => hfu (.inr hh)) (fun k x => ⟨2, (k : Int), 0#64, 0#256, x.code, false⟩) (fun x => { x with code := oN p.b }) (fun x z => { z with code := x.code }) (fun _ => rfl) (fun _ _ => codeOK_oN hl) (fun _ => rfl) (fun _ _ _ => rfl) (fun k x nA nS nT hkn hxc => ⟨(show (2 : Nat) ≤ 10 by decide), (show (0 : Int) ≤ (k : Int) by omega), (by simp only [sizeK]; simp; omega), fun hh => absurd rfl hh, fun hh => absurd hh (show ¬ (2 : Nat) = 6 by decide), fun hh => absurd rfl hh, fun _ => rfl, hxc, fun hh => (by cases hh)⟩) (fun _ _ => (show (2 : Nat) ≠ 7 by decide))
      refine plaw_set h (by omega) hf ?_ (by rw [hv]; exact l2) (by rw [hv, hs]; exact l3) (.inr ⟨_, by rw [hs]; unfold MState.putA MState.remember; rw [show (absM m).now.norm = faceM m from norm_face h.ca]⟩)
      rw [hv, hs]
      exact congrArg (fun z => { zA with ok := z }) l1
  · have hv' : m.putCode p.addr p.b = (false, m) := by unfold MV.putCode; rw [if_neg hl]
    rw [hv'] at hv
    rw [if_neg hl] at hs
    cases hf : fullB m p with
    | true => exact plaw_full h hf (by rw [hv, if_neg (by omega)]; rfl)
    | false => exact plaw_set h (by omega) hf (by rw [hv, hs]; rfl) (by rw [hv]; exact h) (by rw [hv, hs]) (.inl (by rw [hv]))

theorem pl_22 {m : MV} {p : LOp} (h : ChkM m) (hk : p.kind = 22) : PLaw m p := by
  have hv : m.play p = ({ zA with ok := (m.setS p.addr p.key (fun k x => ⟨3, (k : Int), 0#64, x.val, none, false⟩) (fun x => { x with val := p.v })).1 }, (m.setS p.addr p.key (fun k x => ⟨3, (k : Int), 0#64, x.val, none, false⟩) (fun x => { x with val := p.v })).2) := by unfold MV.play; rw [hk]; rfl
  have hs : (absM m).play p = ({ zA with ok := true }, (absM m).putS p.addr p.key (fun x => { x with val := p.v })) := by unfold MState.play; rw [hk]; rfl
  cases hf : fullB m p with
  | true =>
    have hfu := (full_slot h.sh (by omega)).1 hf
    refine plaw_full h hf ?_
    rw [hv, setS_full h hfu, if_neg (by omega)]
    rfl
  | false =>
    have hfu := (bool_not (full_slot h.sh (by omega))).1 hf
    have hj := h.j
    have hsl := h.s
    obtain ⟨l1, l2, l3⟩ := setS_law h (a := p.addr) (key := p.key) (by omega) (fun hh => hfu (.inr (.inl hh))) (fun hle => not_all (fun hh => hfu (.inr (.inr ⟨by omega, hh⟩)))) (fun k x => ⟨3, (k : Int), 0#64, x.val, none, false⟩) (fun x => { x with val := p.v }) (fun x => { x with val := p.v }) (fun x z => { z with val := x.val }) (fun _ => ⟨rfl, rfl⟩) (fun _ _ => rfl) (fun _ => rfl) (fun _ _ _ => rfl) (fun k x nA nS nT hkn => ⟨(show (3 : Nat) ≤ 10 by decide), (show (0 : Int) ≤ (k : Int) by omega), (by simp only [sizeK]; simp; omega), fun hh => absurd rfl hh, fun hh => absurd hh (show ¬ (3 : Nat) = 6 by decide), fun _ => .inr (.inl rfl), fun hh => absurd rfl hh, rfl, fun hh => (by cases hh)⟩) (fun _ _ => (show (3 : Nat) ≠ 7 by decide))
    refine plaw_set h (by omega) hf ?_ (by rw [hv]; exact l2) (by rw [hv, hs]; exact l3) (.inr ⟨_, by rw [hs]; unfold MState.putS MState.remember; rw [show (absM m).now.norm = faceM m from norm_face h.ca]⟩)
    rw [hv, hs]
    exact congrArg (fun z => { zA with ok := z }) l1

theorem pl_24 {m : MV} {p : LOp} (h : ChkM m) (hk : p.kind = 24) : PLaw m p := by
  have hv : m.play p = ({ zA with ok := (m.setS p.addr p.key (fun k x => ⟨5, (k : Int), 0#64, 0#256, none, x.warm⟩) (fun x => { x with warm := true })).1 }, (m.setS p.addr p.key (fun k x => ⟨5, (k : Int), 0#64, 0#256, none, x.warm⟩) (fun x => { x with warm := true })).2) := by unfold MV.play; rw [hk]; rfl
  have hs : (absM m).play p = ({ zA with ok := true }, (absM m).putS p.addr p.key (fun x => { x with warm := true })) := by unfold MState.play; rw [hk]; rfl
  cases hf : fullB m p with
  | true =>
    have hfu := (full_slot h.sh (by omega)).1 hf
    refine plaw_full h hf ?_
    rw [hv, setS_full h hfu, if_neg (by omega)]
    rfl
  | false =>
    have hfu := (bool_not (full_slot h.sh (by omega))).1 hf
    have hj := h.j
    have hsl := h.s
    obtain ⟨l1, l2, l3⟩ := setS_law h (a := p.addr) (key := p.key) (by omega) (fun hh => hfu (.inr (.inl hh))) (fun hle => not_all (fun hh => hfu (.inr (.inr ⟨by omega, hh⟩)))) (fun k x => ⟨5, (k : Int), 0#64, 0#256, none, x.warm⟩) (fun x => { x with warm := true }) (fun x => { x with warm := true }) (fun x z => { z with warm := x.warm }) (fun _ => ⟨rfl, rfl⟩) (fun _ _ => rfl) (fun _ => rfl) (fun _ _ _ => rfl) (fun k x nA nS nT hkn => ⟨(show (5 : Nat) ≤ 10 by decide), (show (0 : Int) ≤ (k : Int) by omega), (by simp only [sizeK]; simp; omega), fun hh => absurd rfl hh, fun hh => absurd hh (show ¬ (5 : Nat) = 6 by decide), fun hh => absurd rfl hh, fun hh => absurd rfl hh, rfl, fun _ => .inr (.inl rfl)⟩) (fun _ _ => (show (5 : Nat) ≠ 7 by decide))
    refine plaw_set h (by omega) hf ?_ (by rw [hv]; exact l2) (by rw [hv, hs]; exact l3) (.inr ⟨_, by rw [hs]; unfold MState.putS MState.remember; rw [show (absM m).now.norm = faceM m from norm_face h.ca]⟩)
    rw [hv, hs]
    exact congrArg (fun z => { zA with ok := z }) l1

theorem pl_28 {m : MV} {p : LOp} (h : ChkM m) (hk : p.kind = 28) : PLaw m p := by
  have hv : m.play p = ({ zA with ok := (m.setT p.addr p.key (fun k x => ⟨8, (k : Int), 0#64, x.val, none, false⟩) (fun x => { x with val := p.v })).1 }, (m.setT p.addr p.key (fun k x => ⟨8, (k : Int), 0#64, x.val, none, false⟩) (fun x => { x with val := p.v })).2) := by unfold MV.play; rw [hk]; rfl
  have hs : (absM m).play p = ({ zA with ok := true }, (absM m).putT ⟨p.addr, p.key, p.v⟩) := by unfold MState.play; rw [hk]; rfl
  cases hf : fullB m p with
  | true =>
    have hfu := (full_temp h.sh hk).1 hf
    refine plaw_full h hf ?_
    rw [hv, setT_full h hfu, if_neg (by omega)]
    rfl
  | false =>
    have hfu := (bool_not (full_temp h.sh hk)).1 hf
    have hj := h.j
    have hsl := h.t
    obtain ⟨l1, l2, l3⟩ := setT_law h (a := p.addr) (key := p.key) (by omega) (fun hh => hfu (.inr (.inl hh))) (fun hle => not_all (fun hh => hfu (.inr (.inr ⟨by omega, hh⟩)))) (fun k x => ⟨8, (k : Int), 0#64, x.val, none, false⟩) p.v (fun x z => { z with val := x.val }) (fun _ => rfl) (fun _ _ _ => rfl) (fun k x nA nS nT hkn => ⟨(show (8 : Nat) ≤ 10 by decide), (show (0 : Int) ≤ (k : Int) by omega), (by simp only [sizeK]; simp; omega), fun hh => absurd rfl hh, fun hh => absurd hh (show ¬ (8 : Nat) = 6 by decide), fun _ => .inr (.inr rfl), fun hh => absurd rfl hh, rfl, fun hh => (by cases hh)⟩) (fun _ _ => (show (8 : Nat) ≠ 7 by decide))
    refine plaw_set h (by omega) hf ?_ (by rw [hv]; exact l2) (by rw [hv, hs]; exact l3) (.inr ⟨_, by rw [hs]; unfold MState.putT MState.remember; rw [show (absM m).now.norm = faceM m from norm_face h.ca]⟩)
    rw [hv, hs]
    exact congrArg (fun z => { zA with ok := z }) l1

theorem pl_25 {m : MV} {p : LOp} (h : ChkM m) (hk : p.kind = 25) : PLaw m p := by
  have hv : m.play p = ({ zA with ok := (m.refundUp p.n).1 }, (m.refundUp p.n).2) := by unfold MV.play; rw [hk]; rfl
  have hs : (absM m).play p = ({ zA with ok := ((absM m).refundUp p.n).1 }, ((absM m).refundUp p.n).2) := by unfold MState.play; rw [hk]; rfl
  cases hf : fullB m p with
  | true =>
    have hfu := (full_rest (by omega)).1 hf
    have e : m.refundUp p.n = (false, m) := by
      unfold MV.refundUp
      rw [if_neg (by omega)]
    refine plaw_full h hf ?_
    rw [hv, e, if_neg (by omega)]
    rfl
  | false =>
    have hfu := (bool_not (full_rest (by omega))).1 hf
    have hj := h.j
    have hl := h.l
    obtain ⟨l1, l2, l3, l4⟩ := refundUp_law h (by omega) p.n
    refine plaw_set h (by omega) hf ?_ (by rw [hv]; exact l2) (by rw [hv, hs]; exact l3) ?_
    · rw [hv, hs]
      exact congrArg (fun z => { zA with ok := z }) l1
    · rw [hv, hs]
      cases hb : (m.refundUp p.n).1 with
      | false => exact .inl (l4 hb)
      | true =>
        right
        rw [hb] at l1
        show ∃ F, ((absM m).refundUp p.n).2 = _
        unfold MState.refundUp at l1 ⊢
        split at l1
        · rename_i hc
          rw [if_pos hc]
          exact ⟨_, by unfold MState.remember; rw [show (absM m).now.norm = faceM m from norm_face h.ca]⟩
        · cases l1

theorem pl_26 {m : MV} {p : LOp} (h : ChkM m) (hk : p.kind = 26) : PLaw m p := by
  have hv : m.play p = ({ zA with ok := (m.refundDown p.n).1 }, (m.refundDown p.n).2) := by unfold MV.play; rw [hk]; rfl
  have hs : (absM m).play p = ({ zA with ok := ((absM m).refundDown p.n).1 }, ((absM m).refundDown p.n).2) := by unfold MState.play; rw [hk]; rfl
  cases hf : fullB m p with
  | true =>
    have hfu := (full_rest (by omega)).1 hf
    have e : m.refundDown p.n = (false, m) := by
      unfold MV.refundDown
      rw [if_neg (by omega)]
    refine plaw_full h hf ?_
    rw [hv, e, if_neg (by omega)]
    rfl
  | false =>
    have hfu := (bool_not (full_rest (by omega))).1 hf
    have hj := h.j
    have hl := h.l
    obtain ⟨l1, l2, l3, l4⟩ := refundDown_law h (by omega) p.n
    refine plaw_set h (by omega) hf ?_ (by rw [hv]; exact l2) (by rw [hv, hs]; exact l3) ?_
    · rw [hv, hs]
      exact congrArg (fun z => { zA with ok := z }) l1
    · rw [hv, hs]
      cases hb : (m.refundDown p.n).1 with
      | false => exact .inl (l4 hb)
      | true =>
        right
        rw [hb] at l1
        show ∃ F, ((absM m).refundDown p.n).2 = _
        unfold MState.refundDown at l1 ⊢
        split at l1
        · rename_i hc
          rw [if_pos hc]
          exact ⟨_, by unfold MState.remember; rw [show (absM m).now.norm = faceM m from norm_face h.ca]⟩
        · cases l1

theorem pl_27 {m : MV} {p : LOp} (h : ChkM m) (hk : p.kind = 27) : PLaw m p := by
  have hv : m.play p = ({ zA with ok := (m.putLog (logM p)).1 }, (m.putLog (logM p)).2) := by unfold MV.play; rw [hk]; rfl
  have hs : (absM m).play p = ({ zA with ok := ((absM m).putLog (logM p)).1 }, ((absM m).putLog (logM p)).2) := by unfold MState.play; rw [hk]; rfl
  cases hf : fullB m p with
  | true =>
    have hfu := (full_rest (by omega)).1 hf
    have e : m.putLog (logM p) = (false, m) := by
      unfold MV.putLog
      rw [if_neg (by omega)]
    refine plaw_full h hf ?_
    rw [hv, e, if_neg (by omega)]
    rfl
  | false =>
    have hfu := (bool_not (full_rest (by omega))).1 hf
    have hj := h.j
    have hl := h.l
    obtain ⟨l1, l2, l3, l4⟩ := putLog_law h (by omega) (by omega) (logM p)
    refine plaw_set h (by omega) hf ?_ (by rw [hv]; exact l2) (by rw [hv, hs]; exact l3) ?_
    · rw [hv, hs]
      exact congrArg (fun z => { zA with ok := z }) l1
    · rw [hv, hs]
      cases hb : (m.putLog (logM p)).1 with
      | false => exact .inl (l4 hb)
      | true =>
        right
        rw [hb] at l1
        show ∃ F, ((absM m).putLog (logM p)).2 = _
        unfold MState.putLog at l1 ⊢
        split at l1
        · rename_i hc
          rw [if_pos hc]
          exact ⟨_, by unfold MState.remember; rw [show (absM m).now.norm = faceM m from norm_face h.ca]⟩
        · cases l1

theorem pl_31 {m : MV} {p : LOp} (h : ChkM m) (hk : p.kind = 31) : PLaw m p := by
  have hv : m.play p = ({ zA with id := (m.snap).1 }, (m.snap).2) := by unfold MV.play; rw [hk]; rfl
  have hs : (absM m).play p = ({ zA with id := ((absM m).marks.length : Int) }, (absM m).snap) := by unfold MState.play; rw [hk]; rfl
  have h0 := h.n0
  have h1 := h.n1
  have hfu : fullB m p = decide (m.nm = 16384) := by unfold fullB; rw [if_pos hk]
  by_cases hn : m.nm = 16384
  · have e : m.snap = (-1, m) := by unfold MV.snap; rw [if_neg (by omega)]
    refine plaw_full h (by rw [hfu]; exact decide_eq_true hn) ?_
    rw [hv, e, if_pos hk]
  · have hf : fullB m p = false := by rw [hfu]; exact decide_eq_false hn
    obtain ⟨l1, l2, l3, l4⟩ := snap_law h hn
    refine ⟨fun hh => (by rw [hf] at hh; cases hh), fun _ _ => ?_, fun _ => (by rw [hv, hs]; exact congrArg MState.norm l3), fun hh => (by omega), by rw [hv]; exact l2, fun _ => ⟨m.nm.toNat, fun A hA => ?_⟩⟩
    · rw [hv, hs, l1]
      have : ((absM m).marks.length : Int) = m.nm := by simp [absM]; omega
      rw [this]
    · rw [hv] at hA ⊢
      have hAi : A.id = m.nm := by
        have := congrArg MAns.id hA
        rw [← l1]; exact this
      have hnm2 : m.snap.2.nm = m.nm + 1 := by rw [l4]
      have hat : ∀ i : Nat, (i : Int) < m.nm → m.snap.2.at (i : Int) = m.at (i : Int) := fun i hi => by
        have e1 : m.snap.2.marks i = m.marks i := by rw [l4]; show upT _ _ _ _ = _; unfold upT; rw [if_neg (by omega)]
        rw [at_fc l2 (by rw [hnm2]; omega), at_fc h hi, e1, l3]
        rfl
      have ew : m.snap.2.weigh = m.weigh := by rw [l4]; rfl
      have eo : m.weights[m.nm.toNat]? = some m.weigh := by
        rw [weights_get (Nat.le_refl _)]
        unfold MV.at
        rw [if_pos (by omega)]
      refine ⟨weights_len m, by omega, fun _ _ => ⟨by rw [hAi]; omega, ?_, ?_, rfl⟩, fun hh => (by omega), fun _ _ => rfl, fun _ => (by show _ ≤ m.snap.2.nm; omega), fun _ i hi => ?_⟩
      · rw [eo]
        congr 1
        show _ = m.snap.2.at _
        have e1 : m.snap.2.marks m.nm.toNat = (m.jr.length : Int) := by rw [l4]; show upT _ _ _ _ = _; unfold upT; rw [if_pos rfl]
        rw [at_fc l2 (by rw [hnm2]; omega), e1, l3, Int.toNat_natCast]
        show _ = (((absM m).past[m.jr.length]?).getD (absM m).now).weigh
        rw [List.getElem?_eq_none (by simp [absM])]
        exact (weigh_face m).symm
      · rw [eo]
        congr 1
        show _ = m.snap.2.at _
        unfold MV.at
        rw [if_pos (by rw [hnm2]; omega), ew]
      · rw [weights_get (by omega), ← hat i (by omega)]

theorem pl_32 {m : MV} {p : LOp} (h : ChkM m) (hk : p.kind = 32) : PLaw m p := by
  have hv : m.play p = ({ zA with ok := (m.revertTo p.id).1 }, (m.revertTo p.id).2) := by unfold MV.play; rw [hk]; rfl
  have hs : (absM m).play p = ({ zA with ok := ((absM m).revertTo p.id).1 }, ((absM m).revertTo p.id).2) := by unfold MState.play; rw [hk]; rfl
  have h0 := h.n0
  have h1 := h.n1
  have hf : fullB m p = false := fullB_no (by omega) (by rw [hk]; rfl)
  obtain ⟨l1, l2, l3, l4⟩ := revert_law h p.id
  refine ⟨fun hh => (by rw [hf] at hh; cases hh), fun _ _ => (by rw [hv, hs]; exact congrArg (fun z => { zA with ok := z }) l1), fun _ => (by rw [hv, hs]; exact congrArg MState.norm l3), fun hh => (by omega), by rw [hv]; exact l2, fun _ => ?_⟩
  rw [hv]
  by_cases hc : 0 ≤ p.id ∧ p.id < m.nm
  · have hid : ((p.id.toNat : Nat) : Int) < m.nm := by omega
    have hm := marks_rng h hid
    have hrb := revert_back h hc.1 hc.2
    refine ⟨p.id.toNat, fun A hA => ?_⟩
    rw [hrb] at hA ⊢
    have hAo : A.ok = true := congrArg MAns.ok hA
    have hmn : ∀ i : Nat, (i : Int) < p.id → m.marks i ≤ (((m.marks p.id.toNat).toNat : Nat) : Int) := fun i hi => by
      have := marks_mono h p.id.toNat i (by omega) hid
      omega
    refine ⟨weights_len m, by omega, fun hh => (by omega), fun _ _ => ⟨p.id.toNat, by omega, by omega, by show p.id = _; omega, ?_, rfl⟩, fun _ hh => absurd ⟨hk, hAo⟩ hh, fun _ => (by show _ ≤ p.id; omega), fun _ i hi => ?_⟩
    · rw [weights_get (by omega)]
      congr 1
      show _ = (m.backTo (m.marks p.id.toNat).toNat p.id).at _
      unfold MV.at
      rw [if_neg (by omega), if_pos (by omega), if_pos (show ((p.id.toNat : Nat) : Int) = (m.backTo (m.marks p.id.toNat).toNat p.id).nm by show ((p.id.toNat : Nat) : Int) = p.id; omega), Int.toNat_natCast]
      rfl
    · rw [weights_get (by omega), ← fc_back h (q := (m.marks p.id.toNat).toNat) (n := p.id) (by omega) hc.1 (by omega) hmn i (by omega)]
  · have e1 : m.revertTo p.id = (false, m) := by unfold MV.revertTo; rw [if_neg (fun hh => hc ⟨hh.1, hh.2.1⟩)]
    refine ⟨m.nm.toNat, fun A hA => ?_⟩
    rw [e1] at hA ⊢
    have hAo : A.ok = false := congrArg MAns.ok hA
    exact stdy_same h rfl (fun _ _ _ => rfl) (by omega) (by rw [hAo]; simp)

theorem pl_33 {m : MV} {p : LOp} (h : ChkM m) (hk : p.kind = 33) : PLaw m p := by
  have hv : m.play p = ({ zA with ok := (m.undoOne).1 }, (m.undoOne).2) := by unfold MV.play; rw [hk]; rfl
  have hs : (absM m).play p = ({ zA with ok := ((absM m).undoOne).1 }, ((absM m).undoOne).2) := by unfold MState.play; rw [hk]; rfl
  have h0 := h.n0
  have hf : fullB m p = false := fullB_no (by omega) (by rw [hk]; rfl)
  obtain ⟨l1, l2, l3, l4⟩ := undo_law h
  refine ⟨fun hh => (by rw [hf] at hh; cases hh), fun _ _ => (by rw [hv, hs]; exact congrArg (fun z => { zA with ok := z }) l1), fun _ => (by rw [hv, hs]; exact congrArg MState.norm l3), fun hh => (by omega), by rw [hv]; exact l2, fun _ => ⟨m.nm.toNat, fun A hA => ?_⟩⟩
  rw [hv]
  cases hu : m.undoOne.1 with
  | false =>
    show Stdy m.undoOne.2 _ _ _ _ _ _
    rw [l4 hu]
    exact stdy_same h rfl (fun _ _ _ => rfl) (by omega) (by omega)
  | true =>
    obtain ⟨e1, e2, e3⟩ := undo_back h hu
    show Stdy m.undoOne.2 _ _ _ _ _ _
    rw [e1]
    exact stdy_same h rfl (fun _ i hi => fc_back h (q := m.jr.length - 1) (n := m.nm) (by omega) h0 (Int.le_refl _) e3 i hi) (by omega) (by omega)

theorem pl_34 {m : MV} {p : LOp} (h : ChkM m) (hk : p.kind = 34) : PLaw m p := by
  have hv : m.play p = (zA, m.endTx) := by unfold MV.play; rw [hk]; rfl
  have hs : (absM m).play p = (zA, (absM m).endTx) := by unfold MState.play; rw [hk]; rfl
  have h0 := h.n0
  have h1 := h.n1
  have hf : fullB m p = false := fullB_no (by omega) (by rw [hk]; rfl)
  obtain ⟨l1, l2⟩ := endTx_law h
  refine ⟨fun hh => (by rw [hf] at hh; cases hh), fun _ _ => (by rw [hv, hs]), fun _ => (by rw [hv, hs]; exact congrArg MState.norm l2), fun hh => (by omega), by rw [hv]; exact l1, fun _ => ⟨m.nm.toNat, fun A hA => ?_⟩⟩
  rw [hv]
  exact ⟨weights_len m, by omega, fun hh => by omega, fun hh => (by omega), fun _ _ => rfl, fun hh => absurd hk hh, fun hh => absurd hk hh⟩

theorem plaw {m : MV} {p : LOp} (h : ChkM m) (hk : p.kind ≤ 34) : PLaw m p := by
  have hd : p.kind = 0 ∨ p.kind = 1 ∨ p.kind = 2 ∨ p.kind = 3 ∨ p.kind = 4 ∨ p.kind = 5 ∨ p.kind = 6 ∨ p.kind = 7 ∨ p.kind = 8 ∨ p.kind = 9 ∨ p.kind = 10 ∨ p.kind = 11 ∨ p.kind = 12 ∨ p.kind = 13 ∨ p.kind = 14 ∨ p.kind = 15 ∨ p.kind = 16 ∨ p.kind = 17 ∨ p.kind = 18 ∨ p.kind = 19 ∨ p.kind = 20 ∨ p.kind = 21 ∨ p.kind = 22 ∨ p.kind = 23 ∨ p.kind = 24 ∨ p.kind = 25 ∨ p.kind = 26 ∨ p.kind = 27 ∨ p.kind = 28 ∨ p.kind = 29 ∨ p.kind = 30 ∨ p.kind = 31 ∨ p.kind = 32 ∨ p.kind = 33 ∨ p.kind = 34 := by omega
  rcases hd with e | e | e | e | e | e | e | e | e | e | e | e | e | e | e | e | e | e | e | e | e | e | e | e | e | e | e | e | e | e | e | e | e | e | e
  · exact pl_0 h e
  · exact pl_1 h e
  · exact pl_2 h e
  · exact pl_3 h e
  · exact pl_4 h e
  · exact pl_5 h e
  · exact pl_6 h e
  · exact pl_7 h e
  · exact pl_8 h e
  · exact pl_9 h e
  · exact pl_10 h e
  · exact pl_11 h e
  · exact pl_12 h e
  · exact pl_13 h e
  · exact pl_14 h e
  · exact pl_15 h e
  · exact pl_16 h e
  · exact pl_17 h e
  · exact pl_18 h e
  · exact pl_19 h e
  · exact pl_20 h e
  · exact pl_21 h e
  · exact pl_22 h e
  · exact pl_23 h e
  · exact pl_24 h e
  · exact pl_25 h e
  · exact pl_26 h e
  · exact pl_27 h e
  · exact pl_28 h e
  · exact pl_29 h e
  · exact pl_30 h e
  · exact pl_31 h e
  · exact pl_32 h e
  · exact pl_33 h e
  · exact pl_34 h e
end Go.Proofs.YgvatwGreat
