/-
  PLAIN LAWS P5: idle entries do not show; laying back; one step of a setter.
-/
import Derived.Test.YgvatwGreatP4
namespace Go.Proofs.YgvatwGreat
open Go Go.RowKit
set_option linter.unusedVariables false
set_option linter.unusedSimpArgs false

/-- m1 is m with idle entries behind its own. -/
structure Ext (m m1 : MV) : Prop where
  a : ∃ A, m1.accts = m.accts ++ A ∧ ∀ x ∈ A, idleA x = true
  s : ∃ S, m1.slots = m.slots ++ S ∧ ∀ x ∈ S, idleS x = true
  t : ∃ T, m1.temps = m.temps ++ T ∧ ∀ x ∈ T, idleT x = true
  ref : m1.ref = m.ref
  logs : m1.logs = m.logs
theorem Ext.same {m m1 : MV} (ha : m1.accts = m.accts) (hs : m1.slots = m.slots) (ht : m1.temps = m.temps) (hr : m1.ref = m.ref) (hl : m1.logs = m.logs) : Ext m m1 :=
  ⟨⟨[], by simp [ha], fun x hx => by cases hx⟩, ⟨[], by simp [hs], fun x hx => by cases hx⟩, ⟨[], by simp [ht], fun x hx => by cases hx⟩, hr, hl⟩
theorem Ext.refl (m : MV) : Ext m m := Ext.same rfl rfl rfl rfl rfl
theorem Ext.trans {m m1 m2 : MV} (h : Ext m m1) (h' : Ext m1 m2) : Ext m m2 := by
  obtain ⟨A, a1, a2⟩ := h.a
  obtain ⟨S, s1, s2⟩ := h.s
  obtain ⟨T, t1, t2⟩ := h.t
  obtain ⟨A', a1', a2'⟩ := h'.a
  obtain ⟨S', s1', s2'⟩ := h'.s
  obtain ⟨T', t1', t2'⟩ := h'.t
  refine ⟨⟨A ++ A', by rw [a1', a1, List.append_assoc], fun x hx => ?_⟩, ⟨S ++ S', by rw [s1', s1, List.append_assoc], fun x hx => ?_⟩, ⟨T ++ T', by rw [t1', t1, List.append_assoc], fun x hx => ?_⟩, h'.ref.trans h.ref, h'.logs.trans h.logs⟩
  · rcases List.mem_append.1 hx with hx | hx
    · exact a2 x hx
    · exact a2' x hx
  · rcases List.mem_append.1 hx with hx | hx
    · exact s2 x hx
    · exact s2' x hx
  · rcases List.mem_append.1 hx with hx | hx
    · exact t2 x hx
    · exact t2' x hx
theorem insF_idle {α β : Type} (lt : α → α → Bool) (idle : β → Bool) (g : β → α) : ∀ (l : List β) (o : List α), (∀ x ∈ l, idle x = true) → insF lt idle g o l = o
  | [], o, _ => rfl
  | x :: l, o, h => by
    show insF lt idle g (if idle x then o else ins lt (g x) o) l = o
    rw [if_pos (h x (.head _))]
    exact insF_idle lt idle g l o (fun y hy => h y (.tail _ hy))
theorem insF_app {α β : Type} (lt : α → α → Bool) (idle : β → Bool) (g : β → α) (l l' : List β) (o : List α) : insF lt idle g o (l ++ l') = insF lt idle g (insF lt idle g o l) l' := List.foldl_append ..
theorem insF_congr {α β : Type} (lt : α → α → Bool) (idle : β → Bool) {g g' : β → α} : ∀ (l : List β) (o : List α), (∀ x ∈ l, g x = g' x) → insF lt idle g o l = insF lt idle g' o l
  | [], o, _ => rfl
  | x :: l, o, h => by
    show insF lt idle g (if idle x then o else ins lt (g x) o) l = insF lt idle g' (if idle x then o else ins lt (g' x) o) l
    rw [h x (.head _)]
    exact insF_congr lt idle l _ (fun y hy => h y (.tail _ hy))
theorem addrAt_app {ac A : List Acct} {p : Int} (h0 : 0 ≤ p) (h1 : p < (ac.length : Int)) : addrAt (ac ++ A) p = addrAt ac p := by
  unfold addrAt
  rw [List.getElem?_append_left (by omega)]
structure Val (m : MV) : Prop where
  sa : ∀ x ∈ m.slots, 0 ≤ x.acct ∧ x.acct < (m.accts.length : Int)
  ta : ∀ x ∈ m.temps, 0 ≤ x.acct ∧ x.acct < (m.accts.length : Int)
theorem ChkT.val {m : MV} (h : ChkT m) : Val m := ⟨h.sa, h.ta⟩
theorem Val.shp {m m' : MV} (h : Val m) (s : Shp m m') : Val m' :=
  ⟨fun x hx => by obtain ⟨y, hy, e, _⟩ := s.mS hx; rw [s.nA, ← e]; exact h.sa y hy, fun x hx => by obtain ⟨y, hy, e, _⟩ := s.mT hx; rw [s.nA, ← e]; exact h.ta y hy⟩
theorem slotsF_congr {ac ac' : List Acct} {sl : List Slot} (h : ∀ x ∈ sl, addrAt ac' x.acct = addrAt ac x.acct) : slotsF ac' sl = slotsF ac sl := by
  rw [slotsF_eq, slotsF_eq]
  exact insF_congr _ _ _ _ (fun x hx => by unfold gS; rw [h x hx])
theorem tempsF_congr {ac ac' : List Acct} {ts : List Temp} (h : ∀ x ∈ ts, addrAt ac' x.acct = addrAt ac x.acct) : tempsF ac' ts = tempsF ac ts := by
  rw [tempsF_eq, tempsF_eq]
  exact insF_congr _ _ _ _ (fun x hx => by unfold gT; rw [h x hx])
theorem face_ext {m m1 : MV} (v : Val m) (h : Ext m m1) : faceM m1 = faceM m := by
  obtain ⟨A, a1, a2⟩ := h.a
  obtain ⟨S, s1, s2⟩ := h.s
  obtain ⟨T, t1, t2⟩ := h.t
  unfold faceM
  have e1 : acctsF m1.accts = acctsF m.accts := by rw [acctsF_eq, acctsF_eq, a1, insF_app, insF_idle _ _ _ _ _ a2]
  have e2 : slotsF m1.accts m1.slots = slotsF m.accts m.slots := by
    rw [slotsF_eq, s1, insF_app, insF_idle _ _ _ _ _ s2, ← slotsF_eq, a1]
    exact slotsF_congr fun x hx => addrAt_app (v.sa x hx).1 (v.sa x hx).2
  have e3 : tempsF m1.accts m1.temps = tempsF m.accts m.temps := by
    rw [tempsF_eq, t1, insF_app, insF_idle _ _ _ _ _ t2, ← tempsF_eq, a1]
    exact tempsF_congr fun x hx => addrAt_app (v.ta x hx).1 (v.ta x hx).2
  rw [e1, e2, e3, h.ref, h.logs]
/-! ### Laying back -/
theorem updL_app {α : Type} {l A : List α} {k : Nat} {f : α → α} (hk : k < l.length) : updL (l ++ A) k f = updL l k f ++ A := by
  unfold updL
  rw [List.getElem?_append_left hk, List.getElem?_eq_getElem hk]
  simp only
  rw [List.set_append_left _ _ hk]
theorem updL_mapg {α β : Type} {l : List α} {k : Nat} {f : α → α} {g : α → β} (h : ∀ x, g (f x) = g x) : (updL l k f).map g = l.map g := by
  unfold updL
  cases hx : l[k]? with
  | none => rfl
  | some x => exact map_set_same hx (h x)
theorem updL_set {α : Type} {l : List α} {k : Nat} {x y : α} {g : α → α} (hx : l[k]? = some x) (h : g y = x) : updL (l.set k y) k g = l := by
  have hk := (List.getElem?_eq_some_iff.1 hx).1
  unfold updL
  rw [List.getElem?_set]
  simp only [hk, if_true]
  rw [h, List.set_set]
  refine List.ext_getElem? fun i => ?_
  rw [List.getElem?_set]
  by_cases e : k = i
  · subst e; simp [hk]; exact (List.getElem?_eq_some_iff.1 hx).2.symm
  · rw [if_neg e]
theorem kind11 {k : Nat} (h : k ≤ 10) : k = 0 ∨ k = 1 ∨ k = 2 ∨ k = 3 ∨ k = 4 ∨ k = 5 ∨ k = 6 ∨ k = 7 ∨ k = 8 ∨ k = 9 ∨ k = 10 := by omega
theorem shp_lay (m : MV) (e : Ent) : Shp m (m.lay e) := by
  unfold MV.lay
  split <;> first
    | exact ⟨updL_mapg (fun _ => rfl), rfl, rfl, rfl, rfl, rfl⟩
    | exact ⟨rfl, updL_mapg (fun _ => rfl), rfl, rfl, rfl, rfl⟩
    | exact ⟨rfl, rfl, updL_mapg (fun _ => rfl), rfl, rfl, rfl⟩
    | exact Shp.refl m
    | exact ⟨rfl, rfl, rfl, rfl, rfl, rfl⟩
theorem lay_rest (m : MV) (e : Ent) : (m.lay e).jr = m.jr ∧ (m.lay e).marks = m.marks ∧ (m.lay e).nm = m.nm := by
  unfold MV.lay
  split <;> exact ⟨rfl, rfl, rfl⟩
def lays (l : List Ent) (m : MV) : MV := l.foldr (fun e m => m.lay e) m
theorem layTo_lays (m : MV) (k : Nat) : m.layTo k = lays (m.jr.drop k) m := rfl
theorem shp_lays (m : MV) : ∀ l, Shp m (lays l m)
  | [] => Shp.refl m
  | e :: l => (shp_lays m l).trans (shp_lay _ e)
theorem lays_rest (m : MV) : ∀ l, (lays l m).jr = m.jr ∧ (lays l m).marks = m.marks ∧ (lays l m).nm = m.nm
  | [] => ⟨rfl, rfl, rfl⟩
  | e :: l => by
    obtain ⟨h1, h2, h3⟩ := lays_rest m l
    obtain ⟨g1, g2, g3⟩ := lay_rest (lays l m) e
    exact ⟨g1.trans h1, g2.trans h2, g3.trans h3⟩
theorem Ext.lay {m m1 : MV} {e : Ent} (h : Ext m m1) (he : EntOK m.accts.length m.slots.length m.temps.length e) : Ext (m.lay e) (m1.lay e) := by
  obtain ⟨A, a1, a2⟩ := h.a
  obtain ⟨S, s1, s2⟩ := h.s
  obtain ⟨T, t1, t2⟩ := h.t
  have hp := he.p1
  have hp0 := he.p0
  rcases kind11 he.k with hk | hk | hk | hk | hk | hk | hk | hk | hk | hk | hk <;> rw [hk] at hp <;> simp [sizeK] at hp <;> unfold MV.lay <;> rw [hk] <;> simp only <;> first
    | exact ⟨⟨A, by simp only [a1]; exact updL_app (by omega), a2⟩, ⟨S, s1, s2⟩, ⟨T, t1, t2⟩, h.ref, h.logs⟩
    | exact ⟨⟨A, a1, a2⟩, ⟨S, by simp only [s1]; exact updL_app (by omega), s2⟩, ⟨T, t1, t2⟩, h.ref, h.logs⟩
    | exact ⟨⟨A, a1, a2⟩, ⟨S, s1, s2⟩, ⟨T, by simp only [t1]; exact updL_app (by omega), t2⟩, h.ref, h.logs⟩
    | exact ⟨⟨A, a1, a2⟩, ⟨S, s1, s2⟩, ⟨T, t1, t2⟩, rfl, h.logs⟩
    | exact ⟨⟨A, a1, a2⟩, ⟨S, s1, s2⟩, ⟨T, t1, t2⟩, h.ref, by simp only [h.logs]⟩
theorem Ext.lays {m m1 : MV} : ∀ {l : List Ent}, Ext m m1 → (∀ e ∈ l, EntOK m.accts.length m.slots.length m.temps.length e) → Ext (lays l m) (lays l m1)
  | [], h, _ => h
  | e :: l, h, he => by
    have s := shp_lays m l
    refine Ext.lay (Ext.lays h (fun x hx => he x (.tail _ hx))) ?_
    show EntOK (YgvatwGreat.lays l m).accts.length (YgvatwGreat.lays l m).slots.length (YgvatwGreat.lays l m).temps.length e
    rw [s.nA, s.nS, s.nT]
    exact he e (.head _)
theorem face_lays {m m1 : MV} {l : List Ent} (v : Val m) (h : Ext m m1) (he : ∀ e ∈ l, EntOK m.accts.length m.slots.length m.temps.length e) : faceM (lays l m1) = faceM (lays l m) :=
  face_ext (v.shp (shp_lays m l)) (h.lays he)
/-! ### Codes -/
theorem nCode_ok {x : Acct} (h : codeOKB x.code = true) : nCode x = x := by
  obtain ⟨a, n, b, c, w, md, g⟩ := x
  unfold nCode
  have : oN (oB c) = c := by
    unfold codeOKB at h
    cases c with
    | none => rfl
    | some l =>
      simp [oB] at h
      cases l with
      | nil => simp at h
      | cons z l => rfl
  simp only [this]
theorem norm_face {m : MV} (h : ∀ x ∈ m.accts, codeOKB x.code = true) : (faceM m).norm = faceM m := by
  unfold MFace.norm faceM
  simp only
  congr 1
  conv => rhs; rw [← List.map_id (acctsF m.accts)]
  exact List.map_congr_left fun x hx => nCode_ok (h x ((mem_acctsF _ _).1 hx).1)
theorem updL_mem {α : Type} {l : List α} {k : Nat} {f : α → α} {y : α} (h : y ∈ updL l k f) : y ∈ l ∨ ∃ x ∈ l, y = f x := by
  unfold updL at h
  cases hx : l[k]? with
  | none => rw [hx] at h; exact .inl h
  | some x =>
    rw [hx] at h
    rcases List.mem_or_eq_of_mem_set h with h | h
    · exact .inl h
    · exact .inr ⟨x, List.mem_of_getElem? hx, h⟩
theorem codes_lay {m : MV} {e : Ent} (h : ∀ x ∈ m.accts, codeOKB x.code = true) (he : codeOKB e.b = true) : ∀ x ∈ (m.lay e).accts, codeOKB x.code = true := by
  unfold MV.lay
  split <;> first
    | exact h
    | (intro x hx
       rcases updL_mem hx with hx | ⟨y, hy, rfl⟩
       · exact h x hx
       · first | exact h y hy | exact he)
theorem codes_lays {m : MV} (h : ∀ x ∈ m.accts, codeOKB x.code = true) : ∀ (l : List Ent), (∀ e ∈ l, codeOKB e.b = true) → ∀ x ∈ (lays l m).accts, codeOKB x.code = true
  | [], _ => h
  | e :: l, he => codes_lay (codes_lays h l (fun x hx => he x (.tail _ hx))) (he e (.head _))
theorem norm_abs {m : MV} (h : ChkM m) : (absM m).norm = absM m := by
  unfold MState.norm absM
  simp only
  rw [norm_face h.ca]
  congr 1
  rw [List.map_map]
  refine List.map_congr_left fun k hk => ?_
  exact norm_face (codes_lays h.ca _ (fun e he => (h.e e (List.mem_of_mem_drop he)).c))
/-! ### One step -/
theorem step_abs {m m' : MV} {e : Ent} (h : ChkM m) (hj : m'.jr = m.jr ++ [e]) (hmk : m'.marks = m.marks) (hnm : m'.nm = m.nm) (hx : Ext m (m'.lay e)) :
    absM m' = ⟨faceM m', (absM m).past ++ [faceM m], (absM m).marks⟩ := by
  have hf : ∀ k, k ≤ m.jr.length → faceM (m'.layTo k) = faceM (m.layTo k) := by
    intro k hk
    rw [layTo_lays, layTo_lays, hj, List.drop_append_of_le_length hk]
    have : lays (m.jr.drop k ++ [e]) m' = lays (m.jr.drop k) (m'.lay e) := by unfold lays; rw [List.foldr_append]; rfl
    rw [this]
    exact face_lays h.sh.val hx (fun e he => h.e e (List.mem_of_mem_drop he))
  unfold absM
  rw [hmk, hnm, hj]
  simp only [List.length_append, List.length_singleton, List.range_succ, List.map_append, List.map_cons, List.map_nil]
  congr 1
  congr 1
  · refine List.map_congr_left fun k hk => hf k ?_
    have := List.mem_range.1 hk
    omega
  · have := hf m.jr.length (Nat.le_refl _)
    rw [this, layTo_lays, List.drop_length]
    rfl
structure Grow (m m1 : MV) : Prop where
  x : Ext m m1
  t : ChkT m1
  c : ∀ y ∈ m1.accts, codeOKB y.code = true
  jr : m1.jr = m.jr
  mks : m1.marks = m.marks
  nm : m1.nm = m.nm
theorem EntOK.mono {a s t a' s' t' : Nat} {e : Ent} (h : EntOK a s t e) (ha : a ≤ a') (hs : s ≤ s') (ht : t ≤ t') : EntOK a' s' t' e := by
  refine ⟨h.k, h.p0, ?_, h.n, h.r, h.w, h.b, h.c, h.f⟩
  have := h.p1
  unfold sizeK at this ⊢
  split <;> rename_i h1
  · rw [if_pos h1] at this; omega
  · rw [if_neg h1] at this
    split <;> rename_i h2
    · rw [if_pos h2] at this; omega
    · rw [if_neg h2] at this
      split <;> rename_i h3
      · rw [if_pos h3] at this; omega
      · rw [if_neg h3] at this; omega
theorem Ext.len {m m1 : MV} (h : Ext m m1) : m.accts.length ≤ m1.accts.length ∧ m.slots.length ≤ m1.slots.length ∧ m.temps.length ≤ m1.temps.length := by
  obtain ⟨A, a1, a2⟩ := h.a
  obtain ⟨S, s1, s2⟩ := h.s
  obtain ⟨T, t1, t2⟩ := h.t
  rw [a1, s1, t1]
  simp
theorem Grow.chk {m m1 : MV} (h : ChkM m) (g : Grow m m1) : ChkM m1 := by
  obtain ⟨l1, l2, l3⟩ := g.x.len
  refine chk_of g.t ⟨by rw [g.jr]; exact h.j, by rw [g.x.logs]; exact h.l, by rw [g.nm]; exact h.n0, by rw [g.nm]; exact h.n1, by rw [g.x.ref]; exact h.r, g.c, by rw [g.nm, g.mks, g.jr]; exact h.mks, ?_, by rw [g.jr, g.x.logs]; exact h.c, by rw [g.x.logs]; exact h.lg⟩
  rw [g.jr]
  exact fun e he => (h.e e he).mono l1 l2 l3
theorem Grow.refl {m : MV} (h : ChkM m) : Grow m m := ⟨Ext.refl m, h.sh, h.ca, rfl, rfl, rfl⟩
theorem cnt7_app : ∀ (l l' : List Ent), cnt7 (l ++ l') = cnt7 l + cnt7 l'
  | [], l' => by simp [cnt7]
  | e :: l, l' => by
    have := cnt7_app l l'
    simp only [List.cons_append, cnt7, this]; omega
theorem step_chk {m1 m' : MV} {e : Ent} (h : ChkM m1) (hj : m1.jr.length < 65536) (hs : Shp m1 m') (hjr : m'.jr = m1.jr ++ [e]) (hmk : m'.marks = m1.marks) (hnm : m'.nm = m1.nm)
    (he : EntOK m1.accts.length m1.slots.length m1.temps.length e) (hc : ∀ x ∈ m'.accts, codeOKB x.code = true) (hr : m'.ref.toNat ≤ 209715200)
    (hl : (e.kind ≠ 7 ∧ m'.logs = m1.logs) ∨ (e.kind = 7 ∧ m1.logs.length < 2800 ∧ ∃ x : Log, m'.logs = m1.logs ++ [x] ∧ x.topics.length ≤ 4 ∧ x.data.length ≤ 717280)) : ChkM m' := by
  refine chk_of (h.sh.shp hs) ⟨by rw [hjr]; simp; omega, ?_, by rw [hnm]; exact h.n0, by rw [hnm]; exact h.n1, hr, hc, ?_, ?_, ?_, ?_⟩
  · rcases hl with ⟨_, e1⟩ | ⟨_, h1, x, e1, _⟩ <;> rw [e1]
    · exact h.l
    · simp; omega
  · rw [hnm, hmk, hjr]
    intro i hi
    have := h.mks i hi
    simp; omega
  · rw [hjr, hs.nA, hs.nS, hs.nT]
    intro x hx
    rcases List.mem_append.1 hx with hx | hx
    · exact h.e x hx
    · simp at hx; subst hx; exact he
  · rw [hjr, cnt7_app, h.c]
    rcases hl with ⟨h0, e1⟩ | ⟨h0, h1, x, e1, _⟩ <;> rw [e1] <;> simp [cnt7, h0]
  · rcases hl with ⟨_, e1⟩ | ⟨_, h1, x, e1, h2, h3⟩ <;> rw [e1]
    · exact h.lg
    · intro y hy
      rcases List.mem_append.1 hy with hy | hy
      · exact h.lg y hy
      · simp at hy; subst hy; exact ⟨h2, h3⟩
end Go.Proofs.YgvatwGreat
