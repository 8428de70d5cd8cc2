/-
  PLAIN LAWS P6: the setters of accounts, slots and temps.
-/
import Derived.Test.YgvatwGreatP5
namespace Go.Proofs.YgvatwGreat
open Go Go.RowKit
set_option linter.unusedVariables false
set_option linter.unusedSimpArgs false

theorem idle_newA (a : A160) : idleA (newAcct a) = true := by simp [idleA, emptyM, newAcct, oB]
theorem idle_newS (c : Nat) (key : W256) : idleS (newSlot c key) = true := by simp [idleS, newSlot]
theorem idle_newT (c : Nat) (key : W256) : idleT (newTemp c key) = true := by simp [idleT, newTemp]
theorem acct_cases {m : MV} (h : ChkM m) (a : A160) :
    (∃ (k : Nat) (x : Acct) (m1 : MV), Grow m m1 ∧ m1.accts[k]? = some x ∧ x.addr = a ∧ m.acct a = (((k : Int), true), m1) ∧ m1.slots = m.slots ∧ m1.temps = m.temps ∧ m1.ttab = m.ttab ∧ m1.stab = m.stab ∧ ((m1 = m ∧ (m.findA a).1 = (k : Int)) ∨ ((m.findA a).1 < 0 ∧ k = m.accts.length))) ∨
    ((m.findA a).1 < 0 ∧ m.accts.length = 2560 ∧ m.acct a = ((-1, false), m)) := by
  unfold MV.acct
  by_cases hf : 0 ≤ (m.findA a).1
  · obtain ⟨x, hx, e⟩ := h.sh.gA hf
    refine .inl ⟨(m.findA a).1.toNat, x, m, Grow.refl h, hx, e, ?_, rfl, rfl, rfl, rfl, .inl ⟨rfl, by omega⟩⟩
    rw [if_pos hf, show (((m.findA a).1.toNat : Nat) : Int) = (m.findA a).1 by omega]
  · rw [if_neg hf]
    have hn : (m.findA a).1 < 0 := by omega
    by_cases hl : m.accts.length = 2560
    · exact .inr ⟨hn, hl, by rw [if_pos (.inr (by omega))]⟩
    · have := h.a
      obtain ⟨hp, ht⟩ := chkT_addA h.sh hn (by omega)
      rw [if_neg (by omega)]
      refine .inl ⟨m.accts.length, newAcct a, { m with accts := m.accts ++ [newAcct a], atab := upT m.atab (m.findA a).2.toNat m.accts.length }, ⟨⟨⟨[newAcct a], rfl, fun x hx => ?_⟩, ⟨[], by simp, fun x hx => by cases hx⟩, ⟨[], by simp, fun x hx => by cases hx⟩, rfl, rfl⟩, ht, fun y hy => ?_, rfl, rfl, rfl⟩, ?_, rfl, rfl, rfl, rfl, rfl, rfl, .inr ⟨hn, rfl⟩⟩
      · simp at hx; subst hx; exact idle_newA a
      · rcases List.mem_append.1 hy with hy | hy
        · exact h.ca y hy
        · simp at hy; subst hy; rfl
      · simp
theorem slot_cases {m : MV} (h : ChkM m) {c : Nat} (hc : c < m.accts.length) (key : W256) :
    (∃ (k : Nat) (x : Slot) (m1 : MV), Grow m m1 ∧ m1.slots[k]? = some x ∧ x.acct = (c : Int) ∧ x.key = key ∧ m.slot c key = (((k : Int), true), m1) ∧ m1.accts = m.accts) ∨
    ((m.findS c key).1 < 0 ∧ m.slots.length = 2560 ∧ m.slot c key = ((-1, false), m)) := by
  unfold MV.slot
  by_cases hf : 0 ≤ (m.findS c key).1
  · obtain ⟨x, hx, e1, e2⟩ := h.sh.gS hf
    refine .inl ⟨(m.findS c key).1.toNat, x, m, Grow.refl h, hx, e1, e2, ?_, rfl⟩
    rw [if_pos hf, show (((m.findS c key).1.toNat : Nat) : Int) = (m.findS c key).1 by omega]
  · rw [if_neg hf]
    have hn : (m.findS c key).1 < 0 := by omega
    by_cases hl : m.slots.length = 2560
    · exact .inr ⟨hn, hl, by rw [if_pos (.inr (by omega))]⟩
    · have := h.s
      obtain ⟨hp, ht⟩ := chkT_addS h.sh hc hn (by omega)
      rw [if_neg (by omega)]
      refine .inl ⟨m.slots.length, newSlot c key, { m with slots := m.slots ++ [newSlot c key], stab := upT m.stab (m.findS c key).2.toNat m.slots.length }, ⟨⟨⟨[], by simp, fun x hx => by cases hx⟩, ⟨[newSlot c key], rfl, fun x hx => ?_⟩, ⟨[], by simp, fun x hx => by cases hx⟩, rfl, rfl⟩, ht, h.ca, rfl, rfl, rfl⟩, ?_, rfl, rfl, rfl, rfl⟩
      · simp at hx; subst hx; exact idle_newS c key
      · simp
theorem Grow.trans {m m1 m2 : MV} (h : Grow m m1) (h' : Grow m1 m2) : Grow m m2 := ⟨h.x.trans h'.x, h'.t, h'.c, h'.jr.trans h.jr, h'.mks.trans h.mks, h'.nm.trans h.nm⟩
theorem addrAt_get {ac : List Acct} {k : Nat} {x : Acct} (h : ac[k]? = some x) : addrAt ac (k : Int) = x.addr := by
  unfold addrAt
  rw [Int.toNat_natCast, h]
theorem slotOf_ok {m : MV} (h : ChkM m) {a : A160} {key : W256} (hr1 : ¬ ((m.findA a).1 < 0 ∧ m.accts.length = 2560)) (hr2 : 2560 ≤ m.slots.length → ∃ t ∈ m.slots, t.acct = (m.findA a).1 ∧ t.key = key) :
    ∃ (k : Nat) (x : Slot) (m1 : MV), Grow m m1 ∧ m1.slots[k]? = some x ∧ addrAt m1.accts x.acct = a ∧ x.key = key ∧ m.slotOf a key = (((k : Int), true), m1) := by
  unfold MV.slotOf
  rw [if_neg (fun hh => by
    obtain ⟨t, ht, e1, _⟩ := hr2 hh.2
    have := h.sa t ht
    omega)]
  rcases acct_cases h a with ⟨k, x, m1, g, hx, e, ha, hs1, ht1, _, hst, hor⟩ | ⟨h1, h2, _⟩
  · rw [ha]
    simp only [Int.toNat_natCast, if_true]
    have hk := (List.getElem?_eq_some_iff.1 hx).1
    rcases slot_cases (g.chk h) hk key with ⟨k2, x2, m2, g2, hx2, e1, e2, hs2, ha2⟩ | ⟨h3, h4, _⟩
    · refine ⟨k2, x2, m2, g.trans g2, hx2, ?_, e2, hs2⟩
      rw [ha2, e1, addrAt_get hx, e]
    · exfalso
      obtain ⟨t, ht, e1, e2⟩ := hr2 (by rw [hs1] at h4; omega)
      have htv := h.sa t ht
      rcases hor with ⟨rfl, e3⟩ | ⟨h5, _⟩
      · exact g.t.nS h3 t ht ⟨by omega, e2⟩
      · omega
  · exact absurd ⟨h1, h2⟩ hr1
theorem temp_new {m : MV} (h : ChkM m) {c : Nat} (hc : c < m.accts.length) (key : W256) (hn : ∀ x ∈ m.temps, ¬ (x.acct = (c : Int) ∧ x.key = key)) (hl : m.temps.length < 12288) :
    ∃ (k : Nat) (x : Temp) (m1 : MV), Grow m m1 ∧ m1.temps[k]? = some x ∧ x.acct = (c : Int) ∧ x.key = key ∧ m.ensureT.addTemp c key = (((k : Int), true), m1) ∧ m1.accts = m.accts := by
  obtain ⟨he, hel⟩ := chkT_ensure h.sh
  have e1 : m.ensureT.accts = m.accts ∧ m.ensureT.slots = m.slots ∧ m.ensureT.temps = m.temps ∧ m.ensureT.jr = m.jr ∧ m.ensureT.marks = m.marks ∧ m.ensureT.nm = m.nm ∧ m.ensureT.ref = m.ref ∧ m.ensureT.logs = m.logs := by
    unfold MV.ensureT
    split <;> exact ⟨rfl, rfl, rfl, rfl, rfl, rfl, rfl, rfl⟩
  obtain ⟨ea, es, et, ej, emk, enm, er, elg⟩ := e1
  have hf : (m.ensureT.findT c key).1 < 0 := by
    by_cases h0 : 0 ≤ (m.ensureT.findT c key).1
    · exfalso
      obtain ⟨_, x, hx, e3, e4⟩ := he.gT h0
      rw [et] at hx
      exact hn x (List.mem_of_getElem? hx) ⟨e3, e4⟩
    · omega
  obtain ⟨hp, ht⟩ := chkT_addT he hel (by rw [ea]; exact hc) hf (by rw [et]; exact hl)
  unfold MV.addTemp
  rw [if_neg (by omega)]
  refine ⟨m.ensureT.temps.length, newTemp c key, { m.ensureT with temps := m.ensureT.temps ++ [newTemp c key], ttab := some ((optL m.ensureT.ttab).set (m.ensureT.findT c key).2.toNat m.ensureT.temps.length) }, ⟨⟨⟨[], by simp [ea], fun x hx => by cases hx⟩, ⟨[], by simp [es], fun x hx => by cases hx⟩, ⟨[newTemp c key], by simp only [et], fun x hx => ?_⟩, er, elg⟩, ht, by simp only [ea]; exact h.ca, ej, emk, enm⟩, ?_, rfl, rfl, rfl, ea⟩
  · simp at hx; subst hx; exact idle_newT c key
  · simp
theorem tempOf_ok {m : MV} (h : ChkM m) {a : A160} {key : W256} (hr1 : ¬ ((m.findA a).1 < 0 ∧ m.accts.length = 2560)) (hr2 : 12288 ≤ m.temps.length → ∃ t ∈ m.temps, t.acct = (m.findA a).1 ∧ t.key = key) :
    ∃ (k : Nat) (x : Temp) (m1 : MV), Grow m m1 ∧ m1.temps[k]? = some x ∧ addrAt m1.accts x.acct = a ∧ x.key = key ∧ m.tempOf a key = (((k : Int), true), m1) := by
  unfold MV.tempOf
  by_cases hf : 0 ≤ m.placeT a key
  · rw [if_pos hf]
    unfold MV.placeT at hf ⊢
    by_cases hA : (m.findA a).1 < 0
    · rw [if_pos hA] at hf; omega
    · rw [if_neg hA] at hf ⊢
      obtain ⟨_, x, hx, e1, e2⟩ := h.sh.gT hf
      refine ⟨(m.findT (m.findA a).1.toNat key).1.toNat, x, m, Grow.refl h, hx, ?_, e2, ?_⟩
      · rw [e1, show (((m.findA a).1.toNat : Nat) : Int) = (m.findA a).1 by omega]
        exact (h.sh.atA (by omega)).1
      · rw [show (((m.findT (m.findA a).1.toNat key).1.toNat : Nat) : Int) = (m.findT (m.findA a).1.toNat key).1 by omega]
  · rw [if_neg hf]
    unfold MV.placeT at hf
    have hnt : ∀ t ∈ m.temps, ¬ (t.acct = (m.findA a).1 ∧ t.key = key) := by
      rintro t ht ⟨e1, e2⟩
      have htv := h.ta t ht
      rw [if_neg (by omega)] at hf
      exact h.sh.nT (c := (m.findA a).1.toNat) (key := key) (by omega) t ht ⟨by omega, e2⟩
    rw [if_neg (fun hh => by
      obtain ⟨t, ht, e1⟩ := hr2 hh
      exact hnt t ht e1)]
    rcases acct_cases h a with ⟨k, x, m1, g, hx, e, ha, hs1, ht1, _, hst, hor⟩ | ⟨h1, h2, _⟩
    · rw [ha]
      simp only [Int.toNat_natCast, if_true]
      have hk := (List.getElem?_eq_some_iff.1 hx).1
      have hlen : m1.temps.length < 12288 := by
        rw [ht1]
        by_cases h0 : 12288 ≤ m.temps.length
        · obtain ⟨t, ht, e1⟩ := hr2 h0
          exact absurd e1 (hnt t ht)
        · omega
      obtain ⟨k2, x2, m2, g2, hx2, e1, e2, hs2, ha2⟩ := temp_new (g.chk h) hk key (fun t ht ⟨e1, e2⟩ => by
        rw [ht1] at ht
        rcases hor with ⟨_, e3⟩ | ⟨h5, e6⟩
        · exact hnt t ht ⟨by omega, e2⟩
        · have := h.ta t ht
          omega) hlen
      refine ⟨k2, x2, m2, g.trans g2, hx2, ?_, e2, hs2⟩
      rw [ha2, e1, addrAt_get hx, e]
    · exact absurd ⟨h1, h2⟩ hr1
theorem addrAt_map {ac ac' : List Acct} (h : ac'.map (·.addr) = ac.map (·.addr)) (p : Int) : addrAt ac' p = addrAt ac p := by
  have := map_eq_get h p.toNat
  unfold addrAt
  cases h1 : ac'[p.toNat]? <;> cases h2 : ac[p.toNat]? <;> rw [h1, h2] at this <;> simp at this <;> simp [this]
/-! ### Accounts -/
theorem setA_law {m : MV} (h : ChkM m) {a : A160} (hj : m.jr.length < 65536) (hr : ¬ ((m.findA a).1 < 0 ∧ m.accts.length = 2560)) (mk : Nat → Acct → Ent) (f : Acct → Acct) (g : Acct → Acct → Acct)
    (hf : ∀ x, (f x).addr = x.addr) (hc : ∀ x, codeOKB x.code = true → codeOKB (f x).code = true) (hg : ∀ x, g x (f x) = x)
    (hlay : ∀ (k : Nat) x (M : MV), M.lay (mk k x) = { M with accts := updL M.accts k (g x) })
    (hent : ∀ (k : Nat) x nA nS nT, k < nA → codeOKB x.code = true → EntOK nA nS nT (mk k x)) (hk7 : ∀ k x, (mk k x).kind ≠ 7) :
    (m.setA a mk f).1 = true ∧ ChkM (m.setA a mk f).2 ∧ absM (m.setA a mk f).2 = (absM m).putA a f := by
  rcases acct_cases h a with ⟨k, x, m1, gr, hx, e, ha, hs1, ht1, _, hst, hor⟩ | ⟨h1, h2, _⟩
  · have heq : m.setA a mk f = (true, { m1 with jr := m1.jr ++ [mk k x], accts := m1.accts.set k (f x) }) := by
      unfold MV.setA
      rw [if_pos hj, ha]
      simp only [if_true, Int.toNat_natCast]
      rw [hx]
    rw [heq]
    have h1 := gr.chk h
    have hk := (List.getElem?_eq_some_iff.1 hx).1
    have hxc := gr.c x (List.mem_of_getElem? hx)
    have hmap : (m1.accts.set k (f x)).map (·.addr) = m1.accts.map (·.addr) := map_set_same hx (hf x)
    refine ⟨rfl, step_chk h1 (by rw [gr.jr]; exact hj) ⟨hmap, rfl, rfl, rfl, rfl, rfl⟩ rfl rfl rfl (hent k x _ _ _ hk hxc) ?_ (by have := h1.r; exact this) (.inl ⟨hk7 k x, rfl⟩), ?_⟩
    · intro y hy
      rcases List.mem_or_eq_of_mem_set hy with hy | hy
      · exact gr.c y hy
      · rw [hy]; exact hc x hxc
    · refine (step_abs (m' := { m1 with jr := m1.jr ++ [mk k x], accts := m1.accts.set k (f x) }) (e := mk k x) h (by simp only [gr.jr]) gr.mks gr.nm (gr.x.trans (by
        rw [hlay]
        exact Ext.same (updL_set hx (hg x)) rfl rfl rfl rfl))).trans ?_
      have hfm := face_ext h.sh.val gr.x
      have hfa : findMA (faceM m).accts a = x := by
        rw [← hfm, ← e]
        exact findMA_in h1.sh.dis.a (List.mem_of_getElem? hx) hxc
      unfold MState.putA MState.remember
      show MState.mk _ _ _ = MState.mk ((faceM m).setA (f (findMA (faceM m).accts a))) ((absM m).past ++ [(faceM m).norm]) (absM m).marks
      rw [norm_face h.ca, hfa]
      congr 1
      rw [← hfm]
      unfold faceM MFace.setA
      simp only
      rw [acctsF_set h1.sh.dis.a hx (hf x), slotsF_congr (fun y hy => addrAt_map hmap _), tempsF_congr (fun y hy => addrAt_map hmap _)]
  · exact absurd ⟨h1, h2⟩ hr
theorem setS_law {m : MV} (h : ChkM m) {a : A160} {key : W256} (hj : m.jr.length < 65536) (hr1 : ¬ ((m.findA a).1 < 0 ∧ m.accts.length = 2560)) (hr2 : 2560 ≤ m.slots.length → ∃ t ∈ m.slots, t.acct = (m.findA a).1 ∧ t.key = key)
    (mk : Nat → Slot → Ent) (f : Slot → Slot) (fF : FSlot → FSlot) (g : Slot → Slot → Slot)
    (hf : ∀ x, (f x).acct = x.acct ∧ (f x).key = x.key) (hfF : ∀ ac x, gS ac (f x) = fF (gS ac x)) (hg : ∀ x, g x (f x) = x)
    (hlay : ∀ (k : Nat) x (M : MV), M.lay (mk k x) = { M with slots := updL M.slots k (g x) })
    (hent : ∀ (k : Nat) x nA nS nT, k < nS → EntOK nA nS nT (mk k x)) (hk7 : ∀ k x, (mk k x).kind ≠ 7) :
    (m.setS a key mk f).1 = true ∧ ChkM (m.setS a key mk f).2 ∧ absM (m.setS a key mk f).2 = (absM m).putS a key fF := by
  obtain ⟨k, x, m1, gr, hx, e1, e2, ho⟩ := slotOf_ok h hr1 hr2
  have heq : m.setS a key mk f = (true, { m1 with jr := m1.jr ++ [mk k x], slots := m1.slots.set k (f x) }) := by
    unfold MV.setS
    rw [if_pos hj, ho]
    simp only [if_true, Int.toNat_natCast]
    rw [hx]
  rw [heq]
  have h1 := gr.chk h
  have d := h1.sh.dis
  have hk := (List.getElem?_eq_some_iff.1 hx).1
  have hmap : (m1.slots.set k (f x)).map (fun x => (x.acct, x.key)) = m1.slots.map (fun x => (x.acct, x.key)) := map_set_same hx (by simp [hf x])
  refine ⟨rfl, step_chk h1 (by rw [gr.jr]; exact hj) ⟨rfl, hmap, rfl, rfl, rfl, rfl⟩ rfl rfl rfl (hent k x _ _ _ hk) gr.c (by have := h1.r; exact this) (.inl ⟨hk7 k x, rfl⟩), ?_⟩
  refine (step_abs (m' := { m1 with jr := m1.jr ++ [mk k x], slots := m1.slots.set k (f x) }) (e := mk k x) h (by simp only [gr.jr]) gr.mks gr.nm (gr.x.trans (by
    rw [hlay]
    exact Ext.same rfl (updL_set hx (hg x)) rfl rfl rfl))).trans ?_
  have hfm := face_ext h.sh.val gr.x
  have hfa : findFS (faceM m).slots a key = gS m1.accts x := by
    rw [← hfm, ← e1, ← e2]
    exact findFS_in d.a d.s d.sa (List.mem_of_getElem? hx)
  unfold MState.putS MState.remember
  show MState.mk _ _ _ = MState.mk { faceM m with slots := putL fsLt fsEq true (idleFS (fF (findFS (faceM m).slots a key))) (fF (findFS (faceM m).slots a key)) (faceM m).slots } ((absM m).past ++ [(faceM m).norm]) (absM m).marks
  rw [norm_face h.ca, hfa, ← hfF]
  congr 1
  rw [← hfm]
  unfold faceM
  simp only
  rw [slotsF_set d.a d.s d.sa hx (hf x).1 (hf x).2]
theorem setT_law {m : MV} (h : ChkM m) {a : A160} {key : W256} (hj : m.jr.length < 65536) (hr1 : ¬ ((m.findA a).1 < 0 ∧ m.accts.length = 2560)) (hr2 : 12288 ≤ m.temps.length → ∃ t ∈ m.temps, t.acct = (m.findA a).1 ∧ t.key = key)
    (mk : Nat → Temp → Ent) (v : W256) (g : Temp → Temp → Temp) (hg : ∀ x : Temp, g x { x with val := v } = x)
    (hlay : ∀ (k : Nat) x (M : MV), M.lay (mk k x) = { M with temps := updL M.temps k (g x) })
    (hent : ∀ (k : Nat) x nA nS nT, k < nT → EntOK nA nS nT (mk k x)) (hk7 : ∀ k x, (mk k x).kind ≠ 7) :
    (m.setT a key mk (fun x => { x with val := v })).1 = true ∧ ChkM (m.setT a key mk (fun x => { x with val := v })).2 ∧ absM (m.setT a key mk (fun x => { x with val := v })).2 = (absM m).putT ⟨a, key, v⟩ := by
  obtain ⟨k, x, m1, gr, hx, e1, e2, ho⟩ := tempOf_ok h hr1 hr2
  have heq : m.setT a key mk (fun x => { x with val := v }) = (true, { m1 with jr := m1.jr ++ [mk k x], temps := m1.temps.set k { x with val := v } }) := by
    unfold MV.setT
    rw [if_pos hj, ho]
    simp only [if_true, Int.toNat_natCast]
    rw [hx]
  rw [heq]
  have h1 := gr.chk h
  have d := h1.sh.dis
  have hk := (List.getElem?_eq_some_iff.1 hx).1
  have hmap : (m1.temps.set k { x with val := v }).map (fun x => (x.acct, x.key)) = m1.temps.map (fun x => (x.acct, x.key)) := map_set_same hx rfl
  refine ⟨rfl, step_chk h1 (by rw [gr.jr]; exact hj) ⟨rfl, rfl, hmap, rfl, rfl, rfl⟩ rfl rfl rfl (hent k x _ _ _ hk) gr.c (by have := h1.r; exact this) (.inl ⟨hk7 k x, rfl⟩), ?_⟩
  refine (step_abs (m' := { m1 with jr := m1.jr ++ [mk k x], temps := m1.temps.set k { x with val := v } }) (e := mk k x) h (by simp only [gr.jr]) gr.mks gr.nm (gr.x.trans (by
    rw [hlay]
    exact Ext.same rfl rfl (updL_set hx (hg x)) rfl rfl))).trans ?_
  have hfm := face_ext h.sh.val gr.x
  unfold MState.putT MState.remember
  show MState.mk _ _ _ = MState.mk { faceM m with temps := putL ftLt ftEq false (decide (v = 0#256)) ⟨a, key, v⟩ (faceM m).temps } ((absM m).past ++ [(faceM m).norm]) (absM m).marks
  rw [norm_face h.ca]
  congr 1
  rw [← hfm]
  unfold faceM
  simp only
  rw [tempsF_set (y := { x with val := v }) d.a d.t d.ta hx rfl rfl]
  have : gT m1.accts { x with val := v } = ⟨a, key, v⟩ := by unfold gT; simp only [e1, e2]
  rw [this]
/-! ### What is refused -/
theorem acct_full {m : MV} {a : A160} (h : (m.findA a).1 < 0) (hl : m.accts.length = 2560) : m.acct a = ((-1, false), m) := by
  unfold MV.acct
  rw [if_neg (by omega), if_pos (.inr (by omega))]
theorem setA_full {m : MV} {a : A160} {mk : Nat → Acct → Ent} {f : Acct → Acct} (h : m.jr.length = 65536 ∨ ((m.findA a).1 < 0 ∧ m.accts.length = 2560)) : m.setA a mk f = (false, m) := by
  unfold MV.setA
  by_cases hj : m.jr.length < 65536
  · rw [if_pos hj]
    rcases h with h | ⟨h1, h2⟩
    · omega
    · rw [acct_full h1 h2]; simp
  · rw [if_neg hj]
theorem slotOf_full {m : MV} (hc : ChkM m) {a : A160} {key : W256} (h : ((m.findA a).1 < 0 ∧ m.accts.length = 2560) ∨ (m.slots.length = 2560 ∧ ∀ t ∈ m.slots, ¬ (t.acct = (m.findA a).1 ∧ t.key = key))) : m.slotOf a key = ((-1, false), m) := by
  unfold MV.slotOf
  by_cases h0 : (m.findA a).1 < 0 ∧ 2560 ≤ m.slots.length
  · rw [if_pos h0]
  · rw [if_neg h0]
    rcases h with ⟨h1, h2⟩ | ⟨h1, h2⟩
    · rw [acct_full h1 h2]; simp
    · have hA : 0 ≤ (m.findA a).1 := by omega
      have : m.acct a = (((m.findA a).1, true), m) := by unfold MV.acct; rw [if_pos hA]
      rw [this]
      simp only [if_true]
      unfold MV.slot
      have hS : ¬ 0 ≤ (m.findS (m.findA a).1.toNat key).1 := fun hS => by
        obtain ⟨x, hx, e1, e2⟩ := hc.sh.gS hS
        exact h2 x (List.mem_of_getElem? hx) ⟨by omega, e2⟩
      rw [if_neg hS, if_pos (.inr (by omega))]
theorem setS_full {m : MV} (hc : ChkM m) {a : A160} {key : W256} {mk : Nat → Slot → Ent} {f : Slot → Slot} (h : m.jr.length = 65536 ∨ ((m.findA a).1 < 0 ∧ m.accts.length = 2560) ∨ (m.slots.length = 2560 ∧ ∀ t ∈ m.slots, ¬ (t.acct = (m.findA a).1 ∧ t.key = key))) : m.setS a key mk f = (false, m) := by
  unfold MV.setS
  by_cases hj : m.jr.length < 65536
  · rw [if_pos hj]
    rcases h with h | h
    · omega
    · rw [slotOf_full hc h]; simp
  · rw [if_neg hj]
theorem tempOf_full {m : MV} (hc : ChkM m) {a : A160} {key : W256} (h : ((m.findA a).1 < 0 ∧ m.accts.length = 2560) ∨ (m.temps.length = 12288 ∧ ∀ t ∈ m.temps, ¬ (t.acct = (m.findA a).1 ∧ t.key = key))) : m.tempOf a key = ((-1, false), m) := by
  unfold MV.tempOf
  have hp : ¬ 0 ≤ m.placeT a key := by
    unfold MV.placeT
    by_cases hA : (m.findA a).1 < 0
    · rw [if_pos hA]; omega
    · rw [if_neg hA]
      rcases h with ⟨h1, _⟩ | ⟨_, h2⟩
      · omega
      · intro hT
        obtain ⟨_, x, hx, e1, e2⟩ := hc.sh.gT hT
        exact h2 x (List.mem_of_getElem? hx) ⟨by omega, e2⟩
  rw [if_neg hp]
  by_cases ht : 12288 ≤ m.temps.length
  · rw [if_pos ht]
  · rw [if_neg ht]
    rcases h with ⟨h1, h2⟩ | ⟨h1, _⟩
    · rw [acct_full h1 h2]; simp
    · omega
theorem setT_full {m : MV} (hc : ChkM m) {a : A160} {key : W256} {mk : Nat → Temp → Ent} {f : Temp → Temp} (h : m.jr.length = 65536 ∨ ((m.findA a).1 < 0 ∧ m.accts.length = 2560) ∨ (m.temps.length = 12288 ∧ ∀ t ∈ m.temps, ¬ (t.acct = (m.findA a).1 ∧ t.key = key))) : m.setT a key mk f = (false, m) := by
  unfold MV.setT
  by_cases hj : m.jr.length < 65536
  · rw [if_pos hj]
    rcases h with h | h
    · omega
    · rw [tempOf_full hc h]; simp
  · rw [if_neg hj]
end Go.Proofs.YgvatwGreat
