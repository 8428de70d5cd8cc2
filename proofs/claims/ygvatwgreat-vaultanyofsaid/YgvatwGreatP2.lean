/-
  PLAIN LAWS P2: probes and tables.
-/
import Derived.Test.YgvatwGreatP1
namespace Go.Proofs.YgvatwGreat
open Go Go.RowKit
set_option linter.unusedVariables false
set_option linter.unusedSimpArgs false

theorem probe_keep {size : Nat} {tab tab' : Nat → Int} {hit hit' : Nat → Bool} (hs : 0 < size) (ht : ∀ p, p < size → 0 ≤ tab p → tab' p = tab p) (hh : ∀ p, p < size → 0 ≤ tab p → hit' (tab p).toNat = hit (tab p).toNat) :
    ∀ n p, p < size → 0 ≤ (probe size tab hit n p).1 → probe size tab' hit' n p = probe size tab hit n p
  | 0, _, _, h => rfl
  | n + 1, p, hp, h => by
    unfold probe at h ⊢
    by_cases h0 : tab p < 0
    · rw [if_pos h0] at h; simp at h
    · rw [if_neg h0] at h ⊢
      have e := ht p hp (by omega)
      have e2 := hh p hp (by omega)
      rw [e, if_neg h0, e2]
      by_cases h1 : hit (tab p).toNat = true
      · rw [if_pos h1, if_pos h1]
      · rw [if_neg h1] at h ⊢
        rw [if_neg h1]
        exact probe_keep hs ht hh n _ (Nat.mod_lt _ hs) h
theorem probe_new {size : Nat} {tab tab' : Nat → Int} {hit hit' : Nat → Bool} {k : Int} (hs : 0 < size) (ht : ∀ p, p < size → 0 ≤ tab p → tab' p = tab p) (hh : ∀ p, p < size → 0 ≤ tab p → hit' (tab p).toNat = hit (tab p).toNat) (hk : 0 ≤ k) (hitk : hit' k.toNat = true) :
    ∀ n p, p < size → (probe size tab hit n p).1 < 0 → 0 ≤ (probe size tab hit n p).2 → tab' (probe size tab hit n p).2.toNat = k → probe size tab' hit' n p = (k, -1)
  | 0, _, _, h, h2, _ => by simp [probe] at h2
  | n + 1, p, hp, h, h2, h3 => by
    unfold probe at h h2 h3 ⊢
    by_cases h0 : tab p < 0
    · rw [if_pos h0] at h3
      simp only [Int.toNat_natCast] at h3
      rw [h3, if_neg (by omega), if_pos hitk]
    · rw [if_neg h0] at h h2 h3
      have e := ht p hp (by omega)
      have e2 := hh p hp (by omega)
      rw [e, if_neg h0, e2]
      by_cases h1 : hit (tab p).toNat = true
      · rw [if_pos h1] at h; simp only at h; omega
      · rw [if_neg h1] at h h2 h3 ⊢
        exact probe_new hs ht hh hk hitk n _ (Nat.mod_lt _ hs) h h2 h3
theorem probe_place {size : Nat} {tab : Nat → Int} {hit : Nat → Bool} (hs : 0 < size) : ∀ n p, p < size → 0 ≤ (probe size tab hit n p).2 → tab (probe size tab hit n p).2.toNat < 0 ∧ (probe size tab hit n p).2.toNat < size
  | 0, _, _, h => by simp [probe] at h
  | n + 1, p, hp, h => by
    unfold probe at h ⊢
    by_cases h0 : tab p < 0
    · rw [if_pos h0]; simp; exact ⟨h0, hp⟩
    · rw [if_neg h0] at h ⊢
      by_cases h1 : hit (tab p).toNat = true
      · rw [if_pos h1] at h; simp at h
      · rw [if_neg h1] at h ⊢
        exact probe_place hs n _ (Nat.mod_lt _ hs) h
theorem probe_hit {size : Nat} {tab : Nat → Int} {hit : Nat → Bool} (hs : 0 < size) : ∀ n p, p < size → 0 ≤ (probe size tab hit n p).1 → hit (probe size tab hit n p).1.toNat = true ∧ ∃ q, q < size ∧ tab q = (probe size tab hit n p).1
  | 0, _, _, h => by simp [probe] at h
  | n + 1, p, hp, h => by
    unfold probe at h ⊢
    by_cases h0 : tab p < 0
    · rw [if_pos h0] at h; simp at h
    · rw [if_neg h0] at h ⊢
      by_cases h1 : hit (tab p).toNat = true
      · rw [if_pos h1]; exact ⟨h1, p, hp, rfl⟩
      · rw [if_neg h1] at h ⊢
        exact probe_hit hs n _ (Nat.mod_lt _ hs) h
theorem probe_none {size : Nat} {tab : Nat → Int} {hit : Nat → Bool} : ∀ n p, p < size → (probe size tab hit n p).1 < 0 → (probe size tab hit n p).2 < 0 → ∀ j, j < n → 0 ≤ tab ((p + j) % size)
  | 0, _, _, _, _, j, hj => by omega
  | n + 1, p, hp, h, h2, j, hj => by
    unfold probe at h h2
    by_cases h0 : tab p < 0
    · rw [if_pos h0] at h2; simp at h2; omega
    · rw [if_neg h0] at h h2
      by_cases h1 : hit (tab p).toNat = true
      · rw [if_pos h1] at h; simp only at h; omega
      · rw [if_neg h1] at h h2
        cases j with
        | zero => rw [Nat.add_zero, Nat.mod_eq_of_lt hp]; omega
        | succ j =>
          have := probe_none n _ (Nat.mod_lt _ (by omega)) h h2 j (by omega)
          rw [Nat.mod_add_mod] at this
          rw [show p + (j + 1) = p + 1 + j by omega]; exact this
theorem probe_room {size : Nat} {tab : Nat → Int} {hit : Nat → Bool} {p q : Nat} (hp : p < size) (hq : q < size) (h0 : tab q < 0) (h : (probe size tab hit size p).1 < 0) : 0 ≤ (probe size tab hit size p).2 := by
  by_cases h2 : 0 ≤ (probe size tab hit size p).2
  · exact h2
  · exfalso
    have := probe_none size p hp h (by omega) ((q + size - p) % size) (Nat.mod_lt _ (by omega))
    rw [Nat.add_mod_mod, show p + (q + size - p) = q + size by omega, Nat.add_mod_right, Nat.mod_eq_of_lt hq] at this
    omega
/-! ### Counts -/
theorem cnt_succ' (f : Nat → Int) (k : Nat) : cnt f (k + 1) = cnt f k + if 0 ≤ f k then 1 else 0 := by
  unfold cnt
  rw [List.range_succ, List.filter_append, List.length_append]
  congr 1
  simp only [List.filter_cons, List.filter_nil, decide_eq_true_eq]
  split <;> rfl
theorem cnt_up (f : Nat → Int) (q : Nat) (x : Int) (hx : 0 ≤ x) (hq : f q < 0) : ∀ k, cnt (upT f q x) k = cnt f k + if q < k then 1 else 0
  | 0 => rfl
  | k + 1 => by
    rw [cnt_succ', cnt_succ', cnt_up f q x hx hq k]
    unfold upT
    by_cases e : k = q
    · subst e
      rw [if_pos rfl, if_pos hx, if_neg (by omega), if_neg (by omega), if_pos (by omega)]
    · rw [if_neg e]
      by_cases h : q < k
      · rw [if_pos h, if_pos (by omega : q < k + 1)]; omega
      · rw [if_neg h, if_neg (by omega : ¬ q < k + 1)]; omega
theorem cnt_all (f : Nat → Int) : ∀ k, (∀ q, q < k → 0 ≤ f q) → cnt f k = k
  | 0, _ => rfl
  | k + 1, h => by rw [cnt_succ', cnt_all f k (fun q hq => h q (by omega)), if_pos (h k (by omega))]
theorem tab_room {f : Nat → Int} {n : Nat} (h : TabOK f n) (hn : n < 4096) : ∃ q, q < 4096 ∧ f q < 0 := by
  by_cases he : ∃ q, q < 4096 ∧ f q < 0
  · exact he
  · have := cnt_all f 4096 (fun q hq => by
      by_cases h0 : 0 ≤ f q
      · exact h0
      · exact absurd ⟨q, hq, by omega⟩ he)
    rw [h.c] at this; omega
theorem tab_up {f : Nat → Int} {n q : Nat} (h : TabOK f n) (hq : q < 4096) (h0 : f q < 0) (hn : n < 2560) : TabOK (upT f q n) (n + 1) := by
  refine ⟨⟨fun p hp => ?_, fun p1 p2 h1 h2 h3 h4 => ?_⟩, ?_⟩
  · unfold upT
    by_cases e : p = q
    · rw [if_pos e]; right; exact ⟨by omega, by omega, by omega⟩
    · rw [if_neg e]
      rcases h.to.v p hp with h1 | ⟨h1, h2, h3⟩
      · exact .inl h1
      · right; exact ⟨h1, by omega, h3⟩
  · unfold upT at h3 h4
    by_cases e1 : p1 = q <;> by_cases e2 : p2 = q
    · omega
    · rw [if_pos e1, if_neg e2] at h4
      rcases h.to.v p2 h2 with h5 | ⟨h5, h6, h7⟩ <;> omega
    · rw [if_neg e1, if_pos e2] at h4
      rcases h.to.v p1 h1 with h5 | ⟨h5, h6, h7⟩ <;> omega
    · rw [if_neg e1] at h3 h4
      rw [if_neg e2] at h4
      exact h.to.inj p1 p2 h1 h2 h3 h4
  · rw [cnt_up f q n (by omega) h0, if_pos hq, h.c]
theorem cntL_cons (x : Int) (l : List Int) : cntL (x :: l) = cntL l + if 0 ≤ x then 1 else 0 := by
  unfold cntL
  simp only [List.filter_cons, decide_eq_true_eq]
  split <;> simp
theorem cntL_set : ∀ (l : List Int) (q : Nat) (x y : Int), l[q]? = some y → y < 0 → 0 ≤ x → cntL (l.set q x) = cntL l + 1
  | [], q, x, y, h, _, _ => by simp at h
  | z :: l, 0, x, y, h, h1, h2 => by
    simp only [List.getElem?_cons_zero, Option.some.injEq] at h
    subst h
    rw [List.set_cons_zero, cntL_cons, cntL_cons, if_pos h2, if_neg (by omega)]
  | z :: l, q + 1, x, y, h, h1, h2 => by
    rw [List.getElem?_cons_succ] at h
    rw [List.set_cons_succ, cntL_cons, cntL_cons, cntL_set l q x y h h1 h2]; omega
theorem cntL_all : ∀ (l : List Int), (∀ x ∈ l, 0 ≤ x) → cntL l = l.length
  | [], _ => rfl
  | z :: l, h => by rw [cntL_cons, cntL_all l (fun x hx => h x (.tail _ hx)), if_pos (h z (.head _))]; rfl
theorem cntL_room {l : List Int} (h : cntL l < l.length) : ∃ q, q < l.length ∧ l.getD q 0 < 0 := by
  by_cases he : ∃ q, q < l.length ∧ l.getD q 0 < 0
  · exact he
  · have := cntL_all l (fun x hx => by
      obtain ⟨q, hq, e⟩ := List.getElem_of_mem hx
      by_cases h0 : 0 ≤ x
      · exact h0
      · refine absurd ⟨q, hq, ?_⟩ he
        rw [List.getD_eq_getElem?_getD, List.getElem?_eq_getElem hq, e]; simp; omega)
    omega
theorem cntL_rep (n : Nat) : cntL (List.replicate n (-1)) = 0 := by
  induction n with
  | zero => rfl
  | succ n ih => rw [List.replicate_succ, cntL_cons, ih]; rfl

/-! ### The part of Check that looks at the shape alone -/
structure ChkT (m : MV) : Prop where
  a : m.accts.length ≤ 2560
  s : m.slots.length ≤ 2560
  t : m.temps.length ≤ 12288
  sa : ∀ x ∈ m.slots, 0 ≤ x.acct ∧ x.acct < (m.accts.length : Int)
  ta : ∀ x ∈ m.temps, 0 ≤ x.acct ∧ x.acct < (m.accts.length : Int)
  tabA : TabOK m.atab m.accts.length
  tabS : TabOK m.stab m.slots.length
  fa : ∀ (i : Nat) x, m.accts[i]? = some x → (m.findA x.addr).1 = (i : Int)
  fs : ∀ (i : Nat) x, m.slots[i]? = some x → (m.findS x.acct.toNat x.key).1 = (i : Int)
  tn : (optL m.ttab).length ≠ 16384 → m.ttab = none ∧ m.temps.length = 0
  tv : (optL m.ttab).length = 16384 → ∀ x ∈ optL m.ttab, -1 ≤ x ∧ x < (m.temps.length : Int)
  tf : (optL m.ttab).length = 16384 → ∀ (i : Nat) x, m.temps[i]? = some x → (m.findT x.acct.toNat x.key).1 = (i : Int)
  tc : (optL m.ttab).length = 16384 → cntL (optL m.ttab) = m.temps.length
/-- The rest of Check. -/
structure ChkD (m : MV) : Prop where
  j : m.jr.length ≤ 65536
  l : m.logs.length ≤ 2800
  n0 : 0 ≤ m.nm
  n1 : m.nm ≤ 16384
  r : m.ref.toNat ≤ 209715200
  ca : ∀ x ∈ m.accts, codeOKB x.code = true
  mks : ∀ i : Nat, (i : Int) < m.nm → lastM m.marks i ≤ m.marks i ∧ m.marks i ≤ (m.jr.length : Int)
  e : ∀ x ∈ m.jr, EntOK m.accts.length m.slots.length m.temps.length x
  c : cnt7 m.jr = m.logs.length
  lg : ∀ x ∈ m.logs, x.topics.length ≤ 4 ∧ x.data.length ≤ 717280
theorem ChkM.sh {m : MV} (h : ChkM m) : ChkT m := ⟨h.a, h.s, h.t, h.sa, h.ta, h.tabA, h.tabS, h.fa, h.fs, h.tn, h.tv, h.tf, h.tc⟩
theorem ChkM.dy {m : MV} (h : ChkM m) : ChkD m := ⟨h.j, h.l, h.n0, h.n1, h.r, h.ca, h.mks, h.e, h.c, h.lg⟩
theorem chk_of {m : MV} (h : ChkT m) (d : ChkD m) : ChkM m := ⟨h.a, h.s, d.j, d.l, h.t, d.n0, d.n1, d.r, h.sa, h.ta, d.ca, h.tabA, h.tabS, h.fa, h.fs, h.tn, h.tv, h.tf, h.tc, d.mks, d.e, d.c, d.lg⟩
/-- Two vaults of one shape. -/
structure Shp (m m' : MV) : Prop where
  a : m'.accts.map (·.addr) = m.accts.map (·.addr)
  s : m'.slots.map (fun x => (x.acct, x.key)) = m.slots.map (fun x => (x.acct, x.key))
  t : m'.temps.map (fun x => (x.acct, x.key)) = m.temps.map (fun x => (x.acct, x.key))
  atab : m'.atab = m.atab
  stab : m'.stab = m.stab
  ttab : m'.ttab = m.ttab
theorem Shp.refl (m : MV) : Shp m m := ⟨rfl, rfl, rfl, rfl, rfl, rfl⟩
theorem Shp.trans {m m' m'' : MV} (h : Shp m m') (h' : Shp m' m'') : Shp m m'' := ⟨h'.a.trans h.a, h'.s.trans h.s, h'.t.trans h.t, h'.atab.trans h.atab, h'.stab.trans h.stab, h'.ttab.trans h.ttab⟩
theorem Shp.nA {m m' : MV} (h : Shp m m') : m'.accts.length = m.accts.length := by have := congrArg List.length h.a; simpa using this
theorem Shp.nS {m m' : MV} (h : Shp m m') : m'.slots.length = m.slots.length := by have := congrArg List.length h.s; simpa using this
theorem Shp.nT {m m' : MV} (h : Shp m m') : m'.temps.length = m.temps.length := by have := congrArg List.length h.t; simpa using this
theorem map_eq_get {α β : Type} {f : α → β} {l l' : List α} (h : l'.map f = l.map f) (i : Nat) : (l'[i]?).map f = (l[i]?).map f := by
  have := congrArg (fun z => z[i]?) h
  simpa using this
theorem map_eq_some {α β : Type} {f : α → β} {l l' : List α} (h : l'.map f = l.map f) {i : Nat} {x : α} (hx : l'[i]? = some x) : ∃ y, l[i]? = some y ∧ f y = f x := by
  have := map_eq_get h i
  rw [hx] at this
  cases hl : l[i]? with
  | none => rw [hl] at this; simp at this
  | some y => rw [hl] at this; simp at this; exact ⟨y, rfl, this.symm⟩
theorem hitA_eq (m : MV) (a : A160) (k : Nat) : m.hitA a k = decide ((m.accts[k]?).map (·.addr) = some a) := by
  unfold MV.hitA
  cases m.accts[k]? <;> simp
theorem hitS_eq (m : MV) (c : Nat) (key : W256) (k : Nat) : m.hitS c key k = decide ((m.slots[k]?).map (fun x => (x.acct, x.key)) = some ((c : Int), key)) := by
  unfold MV.hitS
  cases m.slots[k]? <;> simp
theorem hitT_eq (m : MV) (c : Nat) (key : W256) (k : Nat) : m.hitT c key k = decide ((m.temps[k]?).map (fun x => (x.acct, x.key)) = some ((c : Int), key)) := by
  unfold MV.hitT
  cases m.temps[k]? <;> simp
theorem Shp.fA {m m' : MV} (h : Shp m m') (a : A160) : m'.findA a = m.findA a := by
  have e : m'.hitA a = m.hitA a := funext fun k => by rw [hitA_eq, hitA_eq, map_eq_get h.a]
  unfold MV.findA
  rw [h.atab, e]
theorem Shp.fS {m m' : MV} (h : Shp m m') (c : Nat) (key : W256) : m'.findS c key = m.findS c key := by
  have e : m'.hitS c key = m.hitS c key := funext fun k => by rw [hitS_eq, hitS_eq, map_eq_get h.s]
  unfold MV.findS
  rw [h.stab, e]
theorem Shp.fT {m m' : MV} (h : Shp m m') (c : Nat) (key : W256) : m'.findT c key = m.findT c key := by
  have e : m'.hitT c key = m.hitT c key := funext fun k => by rw [hitT_eq, hitT_eq, map_eq_get h.t]
  have e2 : m'.tabT = m.tabT := by unfold MV.tabT; rw [h.ttab]
  unfold MV.findT
  rw [h.ttab, e, e2]
theorem Shp.mS {m m' : MV} (h : Shp m m') {x : Slot} (hx : x ∈ m'.slots) : ∃ y ∈ m.slots, y.acct = x.acct ∧ y.key = x.key := by
  obtain ⟨i, hi⟩ := List.mem_iff_getElem?.1 hx
  obtain ⟨y, hy, e⟩ := map_eq_some h.s hi
  exact ⟨y, List.mem_of_getElem? hy, (Prod.mk.inj e).1, (Prod.mk.inj e).2⟩
theorem Shp.mT {m m' : MV} (h : Shp m m') {x : Temp} (hx : x ∈ m'.temps) : ∃ y ∈ m.temps, y.acct = x.acct ∧ y.key = x.key := by
  obtain ⟨i, hi⟩ := List.mem_iff_getElem?.1 hx
  obtain ⟨y, hy, e⟩ := map_eq_some h.t hi
  exact ⟨y, List.mem_of_getElem? hy, (Prod.mk.inj e).1, (Prod.mk.inj e).2⟩
theorem ChkT.shp {m m' : MV} (h : ChkT m) (s : Shp m m') : ChkT m' := by
  refine ⟨by rw [s.nA]; exact h.a, by rw [s.nS]; exact h.s, by rw [s.nT]; exact h.t, fun x hx => ?_, fun x hx => ?_, by rw [s.nA, s.atab]; exact h.tabA, by rw [s.nS, s.stab]; exact h.tabS, fun i x hx => ?_, fun i x hx => ?_, ?_, ?_, ?_, ?_⟩
  · obtain ⟨y, hy, e, _⟩ := s.mS hx
    rw [s.nA, ← e]; exact h.sa y hy
  · obtain ⟨y, hy, e, _⟩ := s.mT hx
    rw [s.nA, ← e]; exact h.ta y hy
  · obtain ⟨y, hy, e⟩ := map_eq_some s.a hx
    rw [s.fA, ← e]; exact h.fa i y hy
  · obtain ⟨y, hy, e⟩ := map_eq_some s.s hx
    rw [s.fS, ← (Prod.mk.inj e).1, ← (Prod.mk.inj e).2]; exact h.fs i y hy
  · rw [s.ttab, s.nT]; exact h.tn
  · rw [s.ttab, s.nT]; exact h.tv
  · rw [s.ttab]
    intro hl i x hx
    obtain ⟨y, hy, e⟩ := map_eq_some s.t hx
    rw [s.fT, ← (Prod.mk.inj e).1, ← (Prod.mk.inj e).2]; exact h.tf hl i y hy
  · rw [s.ttab, s.nT]; exact h.tc
/-! ### What a search finds -/
theorem ChkT.gA {m : MV} (h : ChkT m) {a : A160} (hf : 0 ≤ (m.findA a).1) : ∃ x, m.accts[(m.findA a).1.toNat]? = some x ∧ x.addr = a := by
  have hh := (probe_hit (by decide) 4096 _ (acctHome_lt a) hf).1
  have hh' : m.hitA a (m.findA a).1.toNat = true := hh
  rw [hitA_eq] at hh'
  cases hx : m.accts[(m.findA a).1.toNat]? with
  | none => rw [hx] at hh'; simp at hh'
  | some x => rw [hx] at hh'; simp at hh'; exact ⟨x, rfl, hh'⟩
theorem ChkT.gS {m : MV} (h : ChkT m) {c : Nat} {key : W256} (hf : 0 ≤ (m.findS c key).1) : ∃ x, m.slots[(m.findS c key).1.toNat]? = some x ∧ x.acct = (c : Int) ∧ x.key = key := by
  have hh := (probe_hit (by decide) 4096 _ (slotHome_lt c key) hf).1
  have hh' : m.hitS c key (m.findS c key).1.toNat = true := hh
  rw [hitS_eq] at hh'
  cases hx : m.slots[(m.findS c key).1.toNat]? with
  | none => rw [hx] at hh'; simp at hh'
  | some x => rw [hx] at hh'; simp at hh'; exact ⟨x, rfl, hh'⟩
theorem ChkT.gT {m : MV} (h : ChkT m) {c : Nat} {key : W256} (hf : 0 ≤ (m.findT c key).1) : (optL m.ttab).length = 16384 ∧ ∃ x, m.temps[(m.findT c key).1.toNat]? = some x ∧ x.acct = (c : Int) ∧ x.key = key := by
  unfold MV.findT at hf ⊢
  by_cases hl : (optL m.ttab).length = 16384
  · rw [if_pos hl] at hf ⊢
    refine ⟨hl, ?_⟩
    have hh' := (probe_hit (by decide) 16384 _ (Nat.mod_lt _ (by decide)) hf).1
    rw [hitT_eq] at hh'
    revert hh'
    generalize (probe 16384 m.tabT (m.hitT c key) 16384 ((mixM c key).toNat % 16384)).1.toNat = i
    intro hh'
    cases hx : m.temps[i]? with
    | none => rw [hx] at hh'; simp at hh'
    | some x => rw [hx] at hh'; simp at hh'; exact ⟨x, rfl, hh'⟩
  · rw [if_neg hl] at hf; simp at hf
end Go.Proofs.YgvatwGreat
