/-
  PLAIN LAWS P7: refunds, logs, snaps, undoing.
-/
import Derived.Test.YgvatwGreatP6
namespace Go.Proofs.YgvatwGreat
open Go Go.RowKit
set_option linter.unusedVariables false
set_option linter.unusedSimpArgs false

theorem refundUp_law {m : MV} (h : ChkM m) (hj : m.jr.length < 65536) (n : U64) : (m.refundUp n).1 = ((absM m).refundUp n).1 ∧ ChkM (m.refundUp n).2 ∧ absM (m.refundUp n).2 = ((absM m).refundUp n).2 ∧ ((m.refundUp n).1 = false → (m.refundUp n).2 = m) := by
  unfold MV.refundUp MState.refundUp
  have hr := h.r
  by_cases hc : m.ref.toNat ≤ 209715200 ∧ n.toNat ≤ 209715200 - m.ref.toNat
  · have hc' : (absM m).now.ref.toNat ≤ 209715200 ∧ n.toNat ≤ 209715200 - (absM m).now.ref.toNat := hc
    rw [if_pos ⟨hj, hc⟩, if_pos hc']
    refine ⟨rfl, step_chk h hj ⟨rfl, rfl, rfl, rfl, rfl, rfl⟩ rfl rfl rfl ⟨(show (6 : Nat) ≤ 10 by decide), (show (0 : Int) ≤ 0 by decide), by simp [sizeK], fun _ => .inr rfl, fun _ => hr, fun hh => absurd rfl hh, fun hh => absurd rfl hh, rfl, fun hh => (by cases hh)⟩ h.ca ?_ (.inl ⟨(show (6 : Nat) ≠ 7 by decide), rfl⟩), ?_, fun hh => by cases hh⟩
    · show (m.ref + n).toNat ≤ 209715200
      rw [BitVec.toNat_add, Nat.mod_eq_of_lt (by omega)]; omega
    · refine (step_abs (m' := { m with jr := m.jr ++ [⟨6, 0, m.ref, 0#256, none, false⟩], ref := m.ref + n }) (e := ⟨6, 0, m.ref, 0#256, none, false⟩) h rfl rfl rfl (Ext.same rfl rfl rfl rfl rfl)).trans ?_
      unfold MState.remember
      show MState.mk _ _ _ = MState.mk { faceM m with ref := m.ref + n } ((absM m).past ++ [(faceM m).norm]) (absM m).marks
      rw [norm_face h.ca]; rfl
  · have hc' : ¬ ((absM m).now.ref.toNat ≤ 209715200 ∧ n.toNat ≤ 209715200 - (absM m).now.ref.toNat) := hc
    rw [if_neg (fun hh => hc hh.2), if_neg hc']
    exact ⟨rfl, h, rfl, fun _ => rfl⟩
theorem refundDown_law {m : MV} (h : ChkM m) (hj : m.jr.length < 65536) (n : U64) : (m.refundDown n).1 = ((absM m).refundDown n).1 ∧ ChkM (m.refundDown n).2 ∧ absM (m.refundDown n).2 = ((absM m).refundDown n).2 ∧ ((m.refundDown n).1 = false → (m.refundDown n).2 = m) := by
  unfold MV.refundDown MState.refundDown
  have hr := h.r
  by_cases hc : n.toNat ≤ m.ref.toNat
  · have hc' : n.toNat ≤ (absM m).now.ref.toNat := hc
    rw [if_pos ⟨hj, hc⟩, if_pos hc']
    refine ⟨rfl, step_chk h hj ⟨rfl, rfl, rfl, rfl, rfl, rfl⟩ rfl rfl rfl ⟨(show (6 : Nat) ≤ 10 by decide), (show (0 : Int) ≤ 0 by decide), by simp [sizeK], fun _ => .inr rfl, fun _ => hr, fun hh => absurd rfl hh, fun hh => absurd rfl hh, rfl, fun hh => (by cases hh)⟩ h.ca ?_ (.inl ⟨(show (6 : Nat) ≠ 7 by decide), rfl⟩), ?_, fun hh => by cases hh⟩
    · show (m.ref - n).toNat ≤ 209715200
      rw [BitVec.toNat_sub_of_le (by rw [BitVec.le_def]; exact hc)]; omega
    · refine (step_abs (m' := { m with jr := m.jr ++ [⟨6, 0, m.ref, 0#256, none, false⟩], ref := m.ref - n }) (e := ⟨6, 0, m.ref, 0#256, none, false⟩) h rfl rfl rfl (Ext.same rfl rfl rfl rfl rfl)).trans ?_
      unfold MState.remember
      show MState.mk _ _ _ = MState.mk { faceM m with ref := m.ref - n } ((absM m).past ++ [(faceM m).norm]) (absM m).marks
      rw [norm_face h.ca]; rfl
  · have hc' : ¬ n.toNat ≤ (absM m).now.ref.toNat := hc
    rw [if_neg (fun hh => hc hh.2), if_neg hc']
    exact ⟨rfl, h, rfl, fun _ => rfl⟩
theorem putLog_law {m : MV} (h : ChkM m) (hj : m.jr.length < 65536) (hl : m.logs.length < 2800) (x : Log) : (m.putLog x).1 = ((absM m).putLog x).1 ∧ ChkM (m.putLog x).2 ∧ absM (m.putLog x).2 = ((absM m).putLog x).2 ∧ ((m.putLog x).1 = false → (m.putLog x).2 = m) := by
  unfold MV.putLog MState.putLog
  by_cases hc : x.topics.length ≤ 4 ∧ x.data.length ≤ 717280
  · rw [if_pos ⟨hj, hl, hc⟩, if_pos hc]
    refine ⟨rfl, step_chk h hj ⟨rfl, rfl, rfl, rfl, rfl, rfl⟩ rfl rfl rfl ⟨(show (7 : Nat) ≤ 10 by decide), (show (0 : Int) ≤ 0 by decide), by simp [sizeK], fun hh => absurd rfl hh, fun hh => absurd hh (show ¬ (7 : Nat) = 6 by decide), fun hh => absurd rfl hh, fun hh => absurd rfl hh, rfl, fun hh => (by cases hh)⟩ h.ca h.r (.inr ⟨rfl, hl, x, rfl, hc.1, hc.2⟩), ?_, fun hh => by cases hh⟩
    refine (step_abs (m' := { m with jr := m.jr ++ [⟨7, 0, 0#64, 0#256, none, false⟩], logs := m.logs ++ [x] }) (e := ⟨7, 0, 0#64, 0#256, none, false⟩) h rfl rfl rfl (Ext.same rfl rfl rfl rfl (by show (m.logs ++ [x]).take ((m.logs ++ [x]).length - 1) = m.logs; simp))).trans ?_
    unfold MState.remember
    show MState.mk _ _ _ = MState.mk { faceM m with logs := m.logs ++ [x] } ((absM m).past ++ [(faceM m).norm]) (absM m).marks
    rw [norm_face h.ca]; rfl
  · rw [if_neg (fun hh => hc hh.2.2), if_neg hc]
    exact ⟨rfl, h, rfl, fun _ => rfl⟩
/-! ### Marks -/
theorem marks_mono {m : MV} (h : ChkM m) : ∀ (j i : Nat), i ≤ j → (j : Int) < m.nm → m.marks i ≤ m.marks j
  | 0, i, hi, _ => by rw [show i = 0 by omega]; exact Int.le_refl _
  | j + 1, i, hi, hj => by
    by_cases e : i = j + 1
    · rw [e]; exact Int.le_refl _
    · have h1 := marks_mono h j i (by omega) (by omega)
      have h2 := (h.mks (j + 1) hj).1
      simp only [lastM] at h2
      omega
theorem marks_rng {m : MV} (h : ChkM m) {i : Nat} (hi : (i : Int) < m.nm) : 0 ≤ m.marks i ∧ m.marks i ≤ (m.jr.length : Int) := by
  have h0 := (h.mks 0 (by omega)).1
  have h1 := marks_mono h i 0 (by omega) hi
  simp only [lastM] at h0
  exact ⟨by omega, (h.mks i hi).2⟩
theorem snap_law {m : MV} (h : ChkM m) (hn : m.nm ≠ 16384) : m.snap.1 = m.nm ∧ ChkM m.snap.2 ∧ absM m.snap.2 = (absM m).snap ∧ m.snap.2 = { m with marks := upT m.marks m.nm.toNat m.jr.length, nm := m.nm + 1 } := by
  have h0 := h.n0
  have h1 := h.n1
  have hs : m.snap = (m.nm, { m with marks := upT m.marks m.nm.toNat m.jr.length, nm := m.nm + 1 }) := by
    unfold MV.snap
    rw [if_pos ⟨h0, by omega⟩]
  rw [hs]
  refine ⟨rfl, chk_of (h.sh.shp ⟨rfl, rfl, rfl, rfl, rfl, rfl⟩) ⟨h.j, h.l, by simp only; omega, by simp only; omega, h.r, h.ca, ?_, h.e, h.c, h.lg⟩, ?_, rfl⟩
  · intro i hi
    simp only at hi ⊢
    unfold upT
    by_cases e : i = m.nm.toNat
    · rw [if_pos e]
      refine ⟨?_, Int.le_refl _⟩
      cases i with
      | zero => simp [lastM]
      | succ j =>
        simp only [lastM]
        rw [if_neg (by omega)]
        exact (h.mks j (by omega)).2
    · rw [if_neg e]
      have := h.mks i (by omega)
      refine ⟨?_, this.2⟩
      cases i with
      | zero => exact this.1
      | succ j =>
        simp only [lastM] at this ⊢
        rw [if_neg (by omega)]
        exact this.1
  · unfold absM MState.snap
    simp only
    have e1 : ∀ l : List Ent, (∀ e ∈ l, EntOK m.accts.length m.slots.length m.temps.length e) → faceM (lays l { m with marks := upT m.marks m.nm.toNat m.jr.length, nm := m.nm + 1 }) = faceM (lays l m) :=
      fun l hl => face_lays h.sh.val (Ext.same rfl rfl rfl rfl rfl) hl
    congr 1
    · refine List.map_congr_left fun k hk => ?_
      exact e1 _ (fun e he => h.e e (List.mem_of_mem_drop he))
    · rw [show (m.nm + 1).toNat = m.nm.toNat + 1 by omega, List.range_succ, List.map_append]
      congr 1
      · refine List.map_congr_left fun k hk => ?_
        have := List.mem_range.1 hk
        unfold upT
        rw [if_neg (by omega)]
      · simp [upT]
/-! ### Faces of the past -/
def MState.fc (S : MState) (q : Nat) : MFace := (S.past[q]?).getD S.now
theorem at_law {m : MV} (h : ChkM m) (id : Int) : m.at id = (absM m).at id := by
  have h0 := h.n0
  unfold MV.at MState.at
  have el : ((absM m).marks.length : Int) = m.nm := by simp [absM]; omega
  rw [el]
  by_cases h1 : id = m.nm
  · rw [if_pos h1, if_pos h1]
    exact (weigh_face m).symm
  · rw [if_neg h1, if_neg h1]
    by_cases h2 : 0 ≤ id ∧ id < m.nm ∧ id < 16384
    · rw [if_pos h2]
      have hg : (absM m).marks.getD id.toNat 0 = m.marks id.toNat := by
        rw [List.getD_eq_getElem?_getD]
        simp only [absM, List.getElem?_map]
        rw [List.getElem?_range (by omega)]
        rfl
      have hm := marks_rng h (i := id.toNat) (by omega)
      unfold MState.faceAt
      rw [if_neg (by omega), hg]
      have ep : (absM m).past.length = m.jr.length := by simp [absM]
      rw [ep]
      by_cases h3 : 0 ≤ m.marks id.toNat ∧ m.marks id.toNat < (m.jr.length : Int)
      · rw [if_pos h3]
        have : (absM m).past[(m.marks id.toNat).toNat]? = some (faceM (m.layTo (m.marks id.toNat).toNat)) := by
          simp only [absM, List.getElem?_map]
          rw [List.getElem?_range (by omega)]
          rfl
        rw [this]
        exact (weigh_face _).symm
      · rw [if_neg h3]
        have : m.layTo (m.marks id.toNat).toNat = m := by
          rw [layTo_lays, List.drop_of_length_le (by omega)]; rfl
        rw [this]
        exact (weigh_face _).symm
    · rw [if_neg h2]
      unfold MState.faceAt
      have := h.n1
      rw [if_pos (by omega)]
theorem at_fc {m : MV} (h : ChkM m) {i : Nat} (hi : (i : Int) < m.nm) : m.at (i : Int) = ((absM m).fc (m.marks i).toNat).weigh := by
  have hm := marks_rng h hi
  have := h.n1
  unfold MV.at
  rw [if_neg (by omega), if_pos ⟨by omega, hi, by omega⟩, Int.toNat_natCast]
  unfold MState.fc
  by_cases h3 : m.marks i < (m.jr.length : Int)
  · have : (absM m).past[(m.marks i).toNat]? = some (faceM (m.layTo (m.marks i).toNat)) := by
      simp only [absM, List.getElem?_map]
      rw [List.getElem?_range (by omega)]
      rfl
    rw [this]
    exact (weigh_face _).symm
  · have e1 : m.layTo (m.marks i).toNat = m := by
      rw [layTo_lays, List.drop_of_length_le (by omega)]; rfl
    have : (absM m).past[(m.marks i).toNat]? = none := List.getElem?_eq_none (by simp [absM]; omega)
    rw [e1, this]
    exact (weigh_face _).symm
theorem fc_lay {m : MV} {q : Nat} (hq : q ≤ m.jr.length) : (absM m).fc q = faceM (m.layTo q) := by
  unfold MState.fc
  by_cases h3 : q < m.jr.length
  · have : (absM m).past[q]? = some (faceM (m.layTo q)) := by
      simp only [absM, List.getElem?_map]
      rw [List.getElem?_range h3]
      rfl
    rw [this]; rfl
  · have e1 : m.layTo q = m := by
      rw [layTo_lays, List.drop_of_length_le (by omega)]; rfl
    have : (absM m).past[q]? = none := List.getElem?_eq_none (by simp [absM]; omega)
    rw [e1, this]; rfl
/-! ### Undoing -/
theorem layJr (m : MV) (J : List Ent) (e : Ent) : ({ m with jr := J } : MV).lay e = { m.lay e with jr := J } := by
  unfold MV.lay
  simp only
  split <;> rfl
theorem layNm (m : MV) (n : Int) (e : Ent) : ({ m with nm := n } : MV).lay e = { m.lay e with nm := n } := by
  unfold MV.lay
  simp only
  split <;> rfl
theorem lays_nm (m : MV) (n : Int) : ∀ l, lays l ({ m with nm := n } : MV) = { lays l m with nm := n }
  | [] => rfl
  | e :: l => by
    show (lays l ({ m with nm := n } : MV)).lay e = _
    rw [lays_nm m n l, layNm]; rfl
theorem cnt7_lays {m : MV} : ∀ l, (lays l m).logs = m.logs.take (m.logs.length - cnt7 l)
  | [] => by simp [lays, cnt7]
  | e :: l => by
    have ih := cnt7_lays (m := m) l
    show ((lays l m).lay e).logs = _
    by_cases hk : e.kind = 7
    · have : ((lays l m).lay e).logs = (lays l m).logs.take ((lays l m).logs.length - 1) := by unfold MV.lay; rw [hk]; rfl
      rw [this, ih, List.take_take, List.length_take]
      simp only [cnt7, hk, if_true]
      congr 1
      omega
    · have : ((lays l m).lay e).logs = (lays l m).logs := by
        unfold MV.lay
        split <;> first | rfl | (rename_i h7; exact absurd h7 hk)
      rw [this, ih]
      simp [cnt7, hk]
theorem ref_lays {m : MV} (hr : m.ref.toNat ≤ 209715200) : ∀ l, (∀ e ∈ l, e.kind = 6 → e.n.toNat ≤ 209715200) → (lays l m).ref.toNat ≤ 209715200
  | [], _ => hr
  | e :: l, he => by
    have ih := ref_lays hr l (fun x hx => he x (.tail _ hx))
    show ((lays l m).lay e).ref.toNat ≤ _
    by_cases hk : e.kind = 6
    · have : ((lays l m).lay e).ref = e.n := by unfold MV.lay; rw [hk]; rfl
      rw [this]; exact he e (.head _) hk
    · have : ((lays l m).lay e).ref = (lays l m).ref := by
        unfold MV.lay
        split <;> first | rfl | (rename_i h7; exact absurd h7 hk)
      rw [this]; exact ih
/-- The vault laid back to place q. -/
def MV.backTo (m : MV) (q : Nat) (n : Int) : MV := { m.layTo q with jr := m.jr.take q, nm := n }
theorem back_chk {m : MV} (h : ChkM m) {q : Nat} {n : Int} (hq : q ≤ m.jr.length) (hn0 : 0 ≤ n) (hn : n ≤ m.nm) (hm : ∀ i : Nat, (i : Int) < n → m.marks i ≤ (q : Int)) : ChkM (m.backTo q n) := by
  have s : Shp m (m.backTo q n) := by
    have := shp_lays m (m.jr.drop q)
    exact ⟨this.a, this.s, this.t, this.atab, this.stab, this.ttab⟩
  have hd : ∀ e ∈ m.jr.drop q, EntOK m.accts.length m.slots.length m.temps.length e := fun e he => h.e e (List.mem_of_mem_drop he)
  have hlg : (m.backTo q n).logs = m.logs.take (m.logs.length - cnt7 (m.jr.drop q)) := cnt7_lays (m := m) (m.jr.drop q)
  have hct : cnt7 (m.jr.take q) + cnt7 (m.jr.drop q) = m.logs.length := by rw [← cnt7_app, List.take_append_drop]; exact h.c
  have hj := h.j
  have hl := h.l
  have hn1 := h.n1
  have hmk : (m.backTo q n).marks = m.marks := (lays_rest m (m.jr.drop q)).2.1
  refine chk_of (h.sh.shp s) ⟨?_, ?_, hn0, by show n ≤ 16384; omega, ?_, ?_, ?_, ?_, ?_, ?_⟩
  · show (m.jr.take q).length ≤ 65536
    rw [List.length_take]; omega
  · rw [hlg, List.length_take]; omega
  · exact ref_lays h.r _ (fun e he => (hd e he).r)
  · exact codes_lays h.ca _ (fun e he => (hd e he).c)
  · rw [hmk]
    intro i hi
    have hi' : (i : Int) < n := hi
    refine ⟨(h.mks i (by omega)).1, ?_⟩
    show m.marks i ≤ ((m.jr.take q).length : Int)
    rw [List.length_take]
    have := hm i hi'
    omega
  · rw [s.nA, s.nS, s.nT]
    intro e he
    exact h.e e (List.mem_of_mem_take he)
  · rw [hlg, List.length_take]
    show cnt7 (m.jr.take q) = _
    omega
  · rw [hlg]
    exact fun x hx => h.lg x (List.mem_of_mem_take hx)
theorem back_abs {m : MV} (h : ChkM m) {q : Nat} {n : Int} (hq : q ≤ m.jr.length) (hn0 : 0 ≤ n) (hn : n ≤ m.nm) : absM (m.backTo q n) = ⟨(absM m).fc q, (absM m).past.take q, (absM m).marks.take n.toNat⟩ := by
  have hmk : (m.backTo q n).marks = m.marks := (lays_rest m (m.jr.drop q)).2.1
  have hd : ∀ e ∈ m.jr, EntOK m.accts.length m.slots.length m.temps.length e := h.e
  have s := shp_lays m (m.jr.drop q)
  have hx : Ext (m.layTo q) (m.backTo q n) := Ext.same rfl rfl rfl rfl rfl
  have hv : Val (m.layTo q) := h.sh.val.shp s
  rw [fc_lay hq]
  unfold absM
  rw [hmk]
  have e0 : faceM (m.backTo q n) = faceM (m.layTo q) := face_ext hv hx
  rw [e0]
  have hjr : (m.backTo q n).jr = m.jr.take q := rfl
  have hnm : (m.backTo q n).nm = n := rfl
  rw [hjr, hnm]
  congr 1
  · rw [List.length_take, Nat.min_eq_left hq, ← List.map_take, List.take_range, Nat.min_eq_left hq]
    refine List.map_congr_left fun k hk => ?_
    have hk' := List.mem_range.1 hk
    rw [layTo_lays, hjr]
    rw [face_lays hv hx (fun e he => by
      have e1 : (m.layTo q).accts.length = m.accts.length := s.nA
      have e2 : (m.layTo q).slots.length = m.slots.length := s.nS
      have e3 : (m.layTo q).temps.length = m.temps.length := s.nT
      rw [e1, e2, e3]
      exact hd e (List.mem_of_mem_take (List.mem_of_mem_drop he)))]
    have : lays ((m.jr.take q).drop k) (m.layTo q) = m.layTo k := by
      rw [layTo_lays, layTo_lays]
      have : m.jr.drop k = (m.jr.take q).drop k ++ m.jr.drop q := by
        conv => lhs; rw [← List.take_append_drop q m.jr]
        rw [List.drop_append_of_le_length (by rw [List.length_take]; omega)]
      rw [this]
      unfold lays
      rw [List.foldr_append]
    rw [this]
  · rw [← List.map_take, List.take_range, Nat.min_eq_left (by omega)]
theorem undo_back {m : MV} (h : ChkM m) (hu : m.undoOne.1 = true) : m.undoOne.2 = m.backTo (m.jr.length - 1) m.nm ∧ 1 ≤ m.jr.length ∧ ∀ i : Nat, (i : Int) < m.nm → m.marks i ≤ ((m.jr.length - 1 : Nat) : Int) := by
  unfold MV.undoOne at hu ⊢
  cases hl : m.jr.getLast? with
  | none => rw [hl] at hu; cases hu
  | some e =>
    rw [hl] at hu
    simp only at hu ⊢
    by_cases hc : 1 ≤ m.nm ∧ (m.jr.length : Int) ≤ m.marks (m.nm - 1).toNat
    · rw [if_pos hc] at hu; cases hu
    · rw [if_neg hc]
      have hne : m.jr ≠ [] := fun h0 => by rw [h0] at hl; cases hl
      have h1 : 1 ≤ m.jr.length := List.length_pos_iff.2 hne
      have hd : m.jr.drop (m.jr.length - 1) = [e] := by
        have hk : m.jr.length - 1 < m.jr.length := by omega
        rw [List.getLast?_eq_getElem?, List.getElem?_eq_getElem hk] at hl
        rw [List.drop_eq_getElem_cons hk, Option.some.inj hl, show m.jr.length - 1 + 1 = m.jr.length by omega, List.drop_length]
      refine ⟨?_, h1, fun i hi => ?_⟩
      · unfold MV.backTo
        rw [layTo_lays, hd]
        show ({ m.lay e with jr := m.jr.take (m.jr.length - 1) } : MV) = { m.lay e with jr := m.jr.take (m.jr.length - 1), nm := m.nm }
        rw [← (lay_rest m e).2.2]
      · have := marks_mono h (m.nm - 1).toNat i (by omega) (by have := h.n0; omega)
        omega
theorem undo_law {m : MV} (h : ChkM m) : m.undoOne.1 = ((absM m).undoOne).1 ∧ ChkM m.undoOne.2 ∧ absM m.undoOne.2 = ((absM m).undoOne).2 ∧ (m.undoOne.1 = false → m.undoOne.2 = m) := by
  have h0 := h.n0
  have ep : (absM m).past.length = m.jr.length := by simp [absM]
  have em : (absM m).marks.length = m.nm.toNat := by simp [absM]
  have hg : 1 ≤ m.nm → (absM m).marks.getD (m.nm.toNat - 1) 0 = m.marks (m.nm - 1).toNat := fun h1 => by
    rw [List.getD_eq_getElem?_getD]
    simp only [absM, List.getElem?_map]
    rw [List.getElem?_range (by omega)]
    show m.marks (m.nm.toNat - 1) = _
    congr 1; omega
  have hiff : m.undoOne.1 = false ↔ (absM m).past.length = 0 ∨ (0 < (absM m).marks.length ∧ ((absM m).past.length : Int) ≤ (absM m).marks.getD ((absM m).marks.length - 1) 0) := by
    rw [ep, em]
    unfold MV.undoOne
    cases hl : m.jr.getLast? with
    | none =>
      have : m.jr = [] := List.getLast?_eq_none_iff.1 hl
      simp [this]
    | some e =>
      have hne : m.jr ≠ [] := fun h0 => by rw [h0] at hl; cases hl
      have h1 : 1 ≤ m.jr.length := List.length_pos_iff.2 hne
      simp only
      by_cases hc : 1 ≤ m.nm ∧ (m.jr.length : Int) ≤ m.marks (m.nm - 1).toNat
      · rw [if_pos hc]
        refine ⟨fun _ => .inr ⟨by omega, by rw [hg hc.1]; exact hc.2⟩, fun _ => rfl⟩
      · rw [if_neg hc]
        refine ⟨fun hh => (by cases hh), fun hh => ?_⟩
        rcases hh with hh | ⟨h2, h3⟩
        · omega
        · exact absurd ⟨by omega, by rw [hg (by omega)] at h3; exact h3⟩ hc
  unfold MState.undoOne
  cases hu : m.undoOne.1 with
  | false =>
    rw [if_pos (hiff.1 hu)]
    have e2 : m.undoOne.2 = m := by
      unfold MV.undoOne at hu ⊢
      cases hl : m.jr.getLast? with
      | none => rfl
      | some e =>
        rw [hl] at hu
        simp only at hu ⊢
        split at hu
        · rename_i hc; rw [if_pos hc]
        · cases hu
    rw [e2]
    exact ⟨rfl, h, rfl, fun _ => rfl⟩
  | true =>
    rw [if_neg (fun hh => by rw [hiff.2 hh] at hu; cases hu)]
    obtain ⟨e1, e2, e3⟩ := undo_back h hu
    rw [e1]
    refine ⟨rfl, back_chk h (by omega) h0 (Int.le_refl _) e3, ?_, fun hh => by cases hh⟩
    rw [back_abs h (by omega) h0 (Int.le_refl _), ep]
    have : (absM m).marks.take m.nm.toNat = (absM m).marks := List.take_of_length_le (by omega)
    rw [this]; rfl
/-! ### Reverting -/
theorem back_undo {m : MV} (h : ChkM m) {id : Nat} (hid : (id : Int) < m.nm) {j : Nat} (hj : j ≤ m.jr.length) :
    (((m.marks id).toNat < j → (m.backTo j (id + 1)).undoOne = (true, m.backTo (j - 1) (id + 1))) ∧ (j = (m.marks id).toNat → (m.backTo j (id + 1)).undoOne.1 = false)) := by
  have hm := marks_rng h hid
  have hjr : (m.backTo j (id + 1)).jr = m.jr.take j := rfl
  have hnm : (m.backTo j (id + 1)).nm = (id : Int) + 1 := rfl
  have hmk : (m.backTo j (id + 1)).marks = m.marks := (lays_rest m (m.jr.drop j)).2.1
  constructor
  · intro hlt
    have hj1 : j - 1 < m.jr.length := by omega
    have hgl : (m.jr.take j).getLast? = some m.jr[j - 1] := by
      rw [List.getLast?_eq_getElem?, List.length_take, Nat.min_eq_left hj, List.getElem?_take, if_pos (by omega), List.getElem?_eq_getElem hj1]
    unfold MV.undoOne
    rw [hjr, hgl, hnm, hmk]
    simp only
    rw [if_neg (by
      intro hc
      have := hc.2
      rw [List.length_take, Nat.min_eq_left hj, show ((id : Int) + 1 - 1).toNat = id by omega] at this
      omega)]
    congr 1
    have hd : m.jr.drop (j - 1) = m.jr[j - 1] :: m.jr.drop j := by
      rw [List.drop_eq_getElem_cons hj1, show j - 1 + 1 = j by omega]
    have e1 : (m.backTo j (id + 1)).lay m.jr[j - 1] = { (m.layTo j).lay m.jr[j - 1] with jr := m.jr.take j, nm := (id : Int) + 1 } := by
      unfold MV.backTo
      rw [show ({ m.layTo j with jr := m.jr.take j, nm := (id : Int) + 1 } : MV) = { ({ m.layTo j with nm := (id : Int) + 1 } : MV) with jr := m.jr.take j } from rfl, layJr, layNm]
    rw [e1]
    have e2 : m.layTo (j - 1) = (m.layTo j).lay m.jr[j - 1] := by
      rw [layTo_lays, hd]; rfl
    unfold MV.backTo
    rw [e2, List.length_take, Nat.min_eq_left hj, List.take_take, Nat.min_eq_left (by omega)]
  · intro he
    unfold MV.undoOne
    rw [hjr, hnm, hmk]
    cases hl : (m.jr.take j).getLast? with
    | none => rfl
    | some e =>
      simp only
      rw [if_pos ⟨by omega, by rw [List.length_take, show ((id : Int) + 1 - 1).toNat = id by omega]; omega⟩]
theorem undoN_back {m : MV} (h : ChkM m) {id : Nat} (hid : (id : Int) < m.nm) : ∀ (n j : Nat), (m.marks id).toNat ≤ j → j ≤ m.jr.length → j ≤ n + (m.marks id).toNat → undoN n (m.backTo j (id + 1)) = m.backTo (m.marks id).toNat (id + 1)
  | 0, j, h1, h2, h3 => by
    have : j = (m.marks id).toNat := by omega
    rw [this]; rfl
  | n + 1, j, h1, h2, h3 => by
    unfold undoN
    by_cases e : j = (m.marks id).toNat
    · rw [if_neg (by rw [(back_undo h hid h2).2 e]; simp), e]
    · have hu := (back_undo h hid h2).1 (by omega)
      rw [hu]
      simp only [if_true]
      exact undoN_back h hid n (j - 1) (by omega) (by omega) (by omega)
theorem revert_back {m : MV} (h : ChkM m) {id : Int} (h0 : 0 ≤ id) (h1 : id < m.nm) : m.revertTo id = (true, m.backTo (m.marks id.toNat).toNat id) := by
  have hn := h.n1
  unfold MV.revertTo
  rw [if_pos ⟨h0, h1, by omega⟩]
  congr 1
  have hid : ((id.toNat : Nat) : Int) < m.nm := by omega
  have hm := marks_rng h hid
  have e1 : ({ m with nm := id + 1 } : MV) = m.backTo m.jr.length ((id.toNat : Int) + 1) := by
    unfold MV.backTo
    rw [layTo_lays, List.drop_length, List.take_length, show ((id.toNat : Nat) : Int) = id by omega]; rfl
  unfold MV.undoAll
  rw [show ({ m with nm := id + 1 } : MV).jr.length = m.jr.length from rfl, e1, undoN_back h hid m.jr.length m.jr.length (by omega) (Nat.le_refl _) (by omega)]
  rfl
theorem revert_law {m : MV} (h : ChkM m) (id : Int) : (m.revertTo id).1 = ((absM m).revertTo id).1 ∧ ChkM (m.revertTo id).2 ∧ absM (m.revertTo id).2 = ((absM m).revertTo id).2 ∧ ((m.revertTo id).1 = false → (m.revertTo id).2 = m) := by
  have hn0 := h.n0
  have hn1 := h.n1
  have ep : (absM m).past.length = m.jr.length := by simp [absM]
  have em : (absM m).marks.length = m.nm.toNat := by simp [absM]
  by_cases hc : 0 ≤ id ∧ id < m.nm
  · have hid : ((id.toNat : Nat) : Int) < m.nm := by omega
    have hm := marks_rng h hid
    have hg : (absM m).marks.getD id.toNat 0 = m.marks id.toNat := by
      rw [List.getD_eq_getElem?_getD]
      simp only [absM, List.getElem?_map]
      rw [List.getElem?_range (by omega)]
      rfl
    rw [revert_back h hc.1 hc.2]
    have hf : (absM m).faceAt id = some ((absM m).fc (m.marks id.toNat).toNat) := by
      unfold MState.faceAt MState.fc
      rw [if_neg (by omega), hg, ep]
      by_cases h3 : 0 ≤ m.marks id.toNat ∧ m.marks id.toNat < (m.jr.length : Int)
      · rw [if_pos h3]
      · rw [if_neg h3, List.getElem?_eq_none (by omega)]; rfl
    unfold MState.revertTo
    rw [hf]
    simp only
    refine ⟨trivial, back_chk h (by omega) hc.1 (by omega) (fun i hi => ?_), ?_, fun hh => by cases hh⟩
    · have := marks_mono h id.toNat i (by omega) hid
      omega
    · rw [back_abs h (by omega) hc.1 (by omega), hg, ep]
      congr 1
      by_cases h3 : 0 ≤ m.marks id.toNat ∧ m.marks id.toNat < (m.jr.length : Int)
      · rw [if_pos h3]
      · rw [if_neg h3, List.take_of_length_le (by omega)]
  · have e1 : m.revertTo id = (false, m) := by unfold MV.revertTo; rw [if_neg (fun hh => hc ⟨hh.1, hh.2.1⟩)]
    rw [e1]
    unfold MState.revertTo MState.faceAt
    rw [if_pos (by omega)]
    exact ⟨rfl, h, rfl, fun _ => rfl⟩
end Go.Proofs.YgvatwGreat
