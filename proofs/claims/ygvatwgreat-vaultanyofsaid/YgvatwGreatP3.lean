/-
  PLAIN LAWS P3: what a face holds.
-/
import Derived.Test.YgvatwGreatP2
namespace Go.Proofs.YgvatwGreat
open Go Go.RowKit
set_option linter.unusedVariables false
set_option linter.unusedSimpArgs false

def kA (x : Acct) : Nat := x.addr.toNat
def akN (a : A160) (k : W256) : Nat := a.toNat * 2 ^ 256 + k.toNat
def kS (x : FSlot) : Nat := akN x.addr x.key
def kT (x : FTemp) : Nat := akN x.addr x.key
theorem akN_inj {a a' : A160} {k k' : W256} : akN a k = akN a' k' ↔ a = a' ∧ k = k' := by
  have h1 := k.isLt
  have h2 := k'.isLt
  unfold akN
  constructor
  · intro h
    exact ⟨BitVec.eq_of_toNat_eq (by omega), BitVec.eq_of_toNat_eq (by omega)⟩
  · rintro ⟨rfl, rfl⟩; rfl
theorem akLt_eq (a : A160) (k : W256) (a' : A160) (k' : W256) : akLt a k a' k' = decide (akN a k < akN a' k') := by
  have h1 := k.isLt
  have h2 := k'.isLt
  unfold akLt akN
  by_cases e : a = a'
  · rw [if_pos e, e]
    exact decide_eq_decide.2 (by omega)
  · rw [if_neg e]
    have : a.toNat ≠ a'.toNat := fun h => e (BitVec.eq_of_toNat_eq h)
    exact decide_eq_decide.2 (by omega)
theorem aLt_eq : aLt = ltK kA := rfl
theorem aEq_eq : aEq = eqK kA := by
  funext x y
  exact decide_eq_decide.2 ⟨fun h => by unfold kA; rw [h], fun h => BitVec.eq_of_toNat_eq h⟩
theorem fsLt_eq : fsLt = ltK kS := by funext x y; exact akLt_eq _ _ _ _
theorem ftLt_eq : ftLt = ltK kT := by funext x y; exact akLt_eq _ _ _ _
theorem fsEq_eq : fsEq = eqK kS := by
  funext x y
  unfold fsEq eqK kS
  rw [← Bool.decide_and]
  exact decide_eq_decide.2 akN_inj.symm
theorem ftEq_eq : ftEq = eqK kT := by
  funext x y
  unfold ftEq eqK kT
  rw [← Bool.decide_and]
  exact decide_eq_decide.2 akN_inj.symm
def gS (ac : List Acct) (x : Slot) : FSlot := ⟨addrAt ac x.acct, x.key, x.val, x.orig, x.warm⟩
def gT (ac : List Acct) (x : Temp) : FTemp := ⟨addrAt ac x.acct, x.key, x.val⟩
def idleT (x : Temp) : Bool := decide (x.val = 0#256)
theorem acctsF_eq (ac : List Acct) : acctsF ac = insF (ltK kA) idleA id [] ac := rfl
theorem slotsF_eq (ac : List Acct) (sl : List Slot) : slotsF ac sl = insF (ltK kS) idleS (gS ac) [] sl := by
  rw [← fsLt_eq]; rfl
theorem tempsF_eq (ac : List Acct) (ts : List Temp) : tempsF ac ts = insF (ltK kT) idleT (gT ac) [] ts := by
  rw [← ftLt_eq]
  unfold tempsF insF
  have e : addT ac = fun o x => if idleT x then o else ins ftLt (gT ac x) o := by
    funext o x
    unfold addT idleT
    by_cases h : x.val = 0#256 <;> simp [h, gT]
  rw [e]
/-- All names differ; every slot and every temp names an account. -/
structure Dis (m : MV) : Prop where
  a : (m.accts.map (·.addr)).Nodup
  s : (m.slots.map (fun x => (x.acct, x.key))).Nodup
  t : (m.temps.map (fun x => (x.acct, x.key))).Nodup
  sa : ∀ x ∈ m.slots, 0 ≤ x.acct ∧ x.acct < (m.accts.length : Int)
  ta : ∀ x ∈ m.temps, 0 ≤ x.acct ∧ x.acct < (m.accts.length : Int)
theorem nodup_of {α β : Type} {f : α → β} {l : List α} (h : ∀ (i j : Nat) x y, l[i]? = some x → l[j]? = some y → f x = f y → i = j) : (l.map f).Nodup := by
  refine List.pairwise_map.2 (List.pairwise_iff_getElem.2 fun i j hi hj hij e => ?_)
  have := h i j _ _ (List.getElem?_eq_getElem hi) (List.getElem?_eq_getElem hj) e
  omega
theorem nodup_get {α β : Type} {f : α → β} {l : List α} (h : (l.map f).Nodup) {i j : Nat} {x y : α} (hi : l[i]? = some x) (hj : l[j]? = some y) (e : f x = f y) : i = j := by
  obtain ⟨li, ei⟩ := List.getElem?_eq_some_iff.1 hi
  obtain ⟨lj, ej⟩ := List.getElem?_eq_some_iff.1 hj
  have hp := List.pairwise_iff_getElem.1 (List.pairwise_map.1 h)
  rcases Nat.lt_trichotomy i j with h1 | h1 | h1
  · exact absurd (by rw [ei, ej]; exact e) (hp i j li lj h1)
  · exact h1
  · exact absurd (by rw [ei, ej]; exact e.symm) (hp j i lj li h1)
theorem nodup_eq {α β : Type} {f : α → β} {l : List α} (h : (l.map f).Nodup) {x y : α} (hx : x ∈ l) (hy : y ∈ l) (e : f x = f y) : x = y := by
  obtain ⟨i, hi⟩ := List.mem_iff_getElem?.1 hx
  obtain ⟨j, hj⟩ := List.mem_iff_getElem?.1 hy
  have := nodup_get h hi hj e
  subst this
  rw [hi] at hj; exact Option.some.inj hj
theorem ChkT.dis {m : MV} (h : ChkT m) : Dis m := by
  refine ⟨nodup_of fun i j x y hi hj e => ?_, nodup_of fun i j x y hi hj e => ?_, nodup_of fun i j x y hi hj e => ?_, h.sa, h.ta⟩
  · have h1 := h.fa i x hi
    have h2 := h.fa j y hj
    rw [e] at h1; omega
  · have h1 := h.fs i x hi
    have h2 := h.fs j y hj
    obtain ⟨e1, e2⟩ := Prod.mk.inj e
    rw [e1, e2] at h1; omega
  · have hl : (optL m.ttab).length = 16384 := by
      by_cases h0 : (optL m.ttab).length = 16384
      · exact h0
      · have := (h.tn h0).2
        rw [List.eq_nil_of_length_eq_zero this] at hi
        simp at hi
    have h1 := h.tf hl i x hi
    have h2 := h.tf hl j y hj
    obtain ⟨e1, e2⟩ := Prod.mk.inj e
    rw [e1, e2] at h1; omega
theorem addrAt_some {ac : List Acct} {p : Int} (h0 : 0 ≤ p) (h1 : p < (ac.length : Int)) : ∃ x, ac[p.toNat]? = some x ∧ addrAt ac p = x.addr := by
  have h : p.toNat < ac.length := by omega
  refine ⟨ac[p.toNat], List.getElem?_eq_getElem h, ?_⟩
  unfold addrAt
  rw [List.getElem?_eq_getElem h]
theorem addrAt_inj {ac : List Acct} (hn : (ac.map (·.addr)).Nodup) {p q : Int} (h0 : 0 ≤ p) (h1 : p < (ac.length : Int)) (h2 : 0 ≤ q) (h3 : q < (ac.length : Int)) (e : addrAt ac p = addrAt ac q) : p = q := by
  obtain ⟨x, hx, ex⟩ := addrAt_some h0 h1
  obtain ⟨y, hy, ey⟩ := addrAt_some h2 h3
  have := nodup_get hn hx hy (by rw [← ex, ← ey, e])
  omega
theorem mem_acctsF (ac : List Acct) (y : Acct) : y ∈ acctsF ac ↔ y ∈ ac ∧ idleA y = false := by
  rw [acctsF_eq, insF_mem]
  constructor
  · rintro ⟨x, h1, h2, rfl⟩; exact ⟨h1, h2⟩
  · rintro ⟨h1, h2⟩; exact ⟨y, h1, h2, rfl⟩
theorem mem_slotsF (ac : List Acct) (sl : List Slot) (y : FSlot) : y ∈ slotsF ac sl ↔ ∃ x ∈ sl, idleS x = false ∧ gS ac x = y := by
  rw [slotsF_eq, insF_mem]
theorem mem_tempsF (ac : List Acct) (ts : List Temp) (y : FTemp) : y ∈ tempsF ac ts ↔ ∃ x ∈ ts, idleT x = false ∧ gT ac x = y := by
  rw [tempsF_eq, insF_mem]
theorem pw_mem {α : Type} {R S : α → α → Prop} {l : List α} (h : l.Pairwise R) (hi : ∀ x ∈ l, ∀ y ∈ l, R x y → S x y) : l.Pairwise S := by
  refine List.pairwise_iff_getElem.2 fun i j hi' hj hij => hi _ (List.getElem_mem _) _ (List.getElem_mem _) (List.pairwise_iff_getElem.1 h i j hi' hj hij)
theorem srt_acctsF {ac : List Acct} (h : (ac.map (·.addr)).Nodup) : SrtK kA (acctsF ac) := by
  rw [acctsF_eq]
  refine insF_srt idleA id ac [] List.Pairwise.nil (pw_mem (List.pairwise_map.1 h) fun x _ y _ hne e => hne (BitVec.eq_of_toNat_eq e)) (fun x hx y hy => by cases hy)
theorem kS_inj {ac : List Acct} (hn : (ac.map (·.addr)).Nodup) {x y : Slot} (hx : 0 ≤ x.acct ∧ x.acct < (ac.length : Int)) (hy : 0 ≤ y.acct ∧ y.acct < (ac.length : Int)) : kS (gS ac x) = kS (gS ac y) ↔ x.acct = y.acct ∧ x.key = y.key := by
  unfold kS gS
  rw [akN_inj]
  exact ⟨fun h => ⟨addrAt_inj hn hx.1 hx.2 hy.1 hy.2 h.1, h.2⟩, fun h => ⟨by rw [h.1], h.2⟩⟩
theorem kT_inj {ac : List Acct} (hn : (ac.map (·.addr)).Nodup) {x y : Temp} (hx : 0 ≤ x.acct ∧ x.acct < (ac.length : Int)) (hy : 0 ≤ y.acct ∧ y.acct < (ac.length : Int)) : kT (gT ac x) = kT (gT ac y) ↔ x.acct = y.acct ∧ x.key = y.key := by
  unfold kT gT
  rw [akN_inj]
  exact ⟨fun h => ⟨addrAt_inj hn hx.1 hx.2 hy.1 hy.2 h.1, h.2⟩, fun h => ⟨by rw [h.1], h.2⟩⟩
theorem srt_slotsF {ac : List Acct} {sl : List Slot} (hn : (ac.map (·.addr)).Nodup) (h : (sl.map (fun x => (x.acct, x.key))).Nodup) (hs : ∀ x ∈ sl, 0 ≤ x.acct ∧ x.acct < (ac.length : Int)) : SrtK kS (slotsF ac sl) := by
  rw [slotsF_eq]
  refine insF_srt idleS (gS ac) sl [] List.Pairwise.nil (pw_mem (List.pairwise_map.1 h) fun x hx y hy hne e => hne ?_) (fun x hx y hy => by cases hy)
  obtain ⟨e1, e2⟩ := (kS_inj hn (hs x hx) (hs y hy)).1 e
  rw [e1, e2]
theorem srt_tempsF {ac : List Acct} {ts : List Temp} (hn : (ac.map (·.addr)).Nodup) (h : (ts.map (fun x => (x.acct, x.key))).Nodup) (hs : ∀ x ∈ ts, 0 ≤ x.acct ∧ x.acct < (ac.length : Int)) : SrtK kT (tempsF ac ts) := by
  rw [tempsF_eq]
  refine insF_srt idleT (gT ac) ts [] List.Pairwise.nil (pw_mem (List.pairwise_map.1 h) fun x hx y hy hne e => hne ?_) (fun x hx y hy => by cases hy)
  obtain ⟨e1, e2⟩ := (kT_inj hn (hs x hx) (hs y hy)).1 e
  rw [e1, e2]
/-! ### A change of one entry -/
theorem mem_set_iff {α β : Type} {f : α → β} {l : List α} {k : Nat} {x y z : α} (hn : (l.map f).Nodup) (hx : l[k]? = some x) (hf : f y = f x) : z ∈ l.set k y ↔ z = y ∨ (z ∈ l ∧ f z ≠ f y) := by
  have hk := (List.getElem?_eq_some_iff.1 hx).1
  constructor
  · intro h
    obtain ⟨i, hi⟩ := List.mem_iff_getElem?.1 h
    rw [List.getElem?_set] at hi
    by_cases e : k = i
    · subst e
      simp [hk] at hi
      exact .inl hi.symm
    · rw [if_neg e] at hi
      refine .inr ⟨List.mem_of_getElem? hi, fun e2 => e ?_⟩
      exact nodup_get hn hx hi (by rw [e2, hf])
  · rintro (rfl | ⟨h1, h2⟩)
    · exact List.mem_iff_getElem?.2 ⟨k, by rw [List.getElem?_set]; simp [hk]⟩
    · obtain ⟨i, hi⟩ := List.mem_iff_getElem?.1 h1
      refine List.mem_iff_getElem?.2 ⟨i, ?_⟩
      rw [List.getElem?_set, if_neg]
      · exact hi
      · intro e
        subst e
        rw [hx] at hi
        cases hi
        exact h2 hf.symm
theorem map_set_same {α β : Type} {f : α → β} {l : List α} {k : Nat} {x y : α} (hx : l[k]? = some x) (hf : f y = f x) : (l.set k y).map f = l.map f := by
  have hk := (List.getElem?_eq_some_iff.1 hx).1
  refine List.ext_getElem? fun i => ?_
  rw [List.map_set, List.getElem?_set]
  by_cases e : k = i
  · subst e
    simp [hk, hx, hf]
    have := (List.getElem?_eq_some_iff.1 hx).2
    rw [this]
  · rw [if_neg e]
theorem acctsF_set {ac : List Acct} {k : Nat} {x y : Acct} (hn : (ac.map (·.addr)).Nodup) (hx : ac[k]? = some x) (hf : y.addr = x.addr) : acctsF (ac.set k y) = putL aLt aEq true (idleA y) y (acctsF ac) := by
  rw [aLt_eq, aEq_eq]
  refine srt_uniq (srt_acctsF (by rw [map_set_same hx hf]; exact hn)) (putL_srtK _ _ _ _ (srt_acctsF hn)) fun z => ?_
  rw [mem_acctsF, putL_memK _ _ _ _ (srt_acctsF hn), mem_acctsF, mem_set_iff hn hx hf]
  have e : kA z ≠ kA y ↔ z.addr ≠ y.addr := ⟨fun h e => h (by unfold kA; rw [e]), fun h e => h (BitVec.eq_of_toNat_eq e)⟩
  constructor
  · rintro ⟨rfl | ⟨h1, h2⟩, h3⟩
    · exact .inr ⟨h3, rfl⟩
    · exact .inl ⟨⟨h1, h3⟩, e.2 h2⟩
  · rintro (⟨⟨h1, h3⟩, h2⟩ | ⟨h3, rfl⟩)
    · exact ⟨.inr ⟨h1, e.1 h2⟩, h3⟩
    · exact ⟨.inl rfl, h3⟩
theorem idleFS_g (ac : List Acct) (x : Slot) : idleFS (gS ac x) = idleS x := rfl
theorem slotsF_set {ac : List Acct} {sl : List Slot} {k : Nat} {x y : Slot} (hn : (ac.map (·.addr)).Nodup) (h : (sl.map (fun x => (x.acct, x.key))).Nodup) (hs : ∀ x ∈ sl, 0 ≤ x.acct ∧ x.acct < (ac.length : Int)) (hx : sl[k]? = some x) (ha : y.acct = x.acct) (hk : y.key = x.key) :
    slotsF ac (sl.set k y) = putL fsLt fsEq true (idleFS (gS ac y)) (gS ac y) (slotsF ac sl) := by
  have hf : (fun x : Slot => (x.acct, x.key)) y = (fun x : Slot => (x.acct, x.key)) x := by simp [ha, hk]
  have hxs := hs x (List.mem_of_getElem? hx)
  have hys : 0 ≤ y.acct ∧ y.acct < (ac.length : Int) := by rw [ha]; exact hxs
  have hs' : ∀ z ∈ sl.set k y, 0 ≤ z.acct ∧ z.acct < (ac.length : Int) := fun z hz => by
    rcases (mem_set_iff h hx hf).1 hz with rfl | ⟨h1, _⟩
    · exact hys
    · exact hs z h1
  rw [fsLt_eq, fsEq_eq]
  have s0 := srt_slotsF hn h hs
  refine srt_uniq (srt_slotsF hn (by rw [map_set_same hx hf]; exact h) hs') (putL_srtK _ _ _ _ s0) fun z => ?_
  rw [mem_slotsF, putL_memK _ _ _ _ s0, mem_slotsF, idleFS_g]
  constructor
  · rintro ⟨u, hu, hi, rfl⟩
    rcases (mem_set_iff h hx hf).1 hu with rfl | ⟨h1, h2⟩
    · exact .inr ⟨hi, rfl⟩
    · refine .inl ⟨⟨u, h1, hi, rfl⟩, fun e => h2 ?_⟩
      obtain ⟨e1, e2⟩ := (kS_inj hn (hs u h1) hys).1 e
      simp [e1, e2]
  · rintro (⟨⟨u, h1, hi, rfl⟩, h2⟩ | ⟨hi, rfl⟩)
    · refine ⟨u, (mem_set_iff h hx hf).2 (.inr ⟨h1, fun e => h2 ?_⟩), hi, rfl⟩
      obtain ⟨e1, e2⟩ := Prod.mk.inj e
      exact (kS_inj hn (hs u h1) hys).2 ⟨e1, e2⟩
    · exact ⟨y, (mem_set_iff h hx hf).2 (.inl rfl), hi, rfl⟩
theorem tempsF_set {ac : List Acct} {ts : List Temp} {k : Nat} {x y : Temp} (hn : (ac.map (·.addr)).Nodup) (h : (ts.map (fun x => (x.acct, x.key))).Nodup) (hs : ∀ x ∈ ts, 0 ≤ x.acct ∧ x.acct < (ac.length : Int)) (hx : ts[k]? = some x) (ha : y.acct = x.acct) (hk : y.key = x.key) :
    tempsF ac (ts.set k y) = putL ftLt ftEq false (decide ((gT ac y).val = 0#256)) (gT ac y) (tempsF ac ts) := by
  have hf : (fun x : Temp => (x.acct, x.key)) y = (fun x : Temp => (x.acct, x.key)) x := by simp [ha, hk]
  have hxs := hs x (List.mem_of_getElem? hx)
  have hys : 0 ≤ y.acct ∧ y.acct < (ac.length : Int) := by rw [ha]; exact hxs
  have hs' : ∀ z ∈ ts.set k y, 0 ≤ z.acct ∧ z.acct < (ac.length : Int) := fun z hz => by
    rcases (mem_set_iff h hx hf).1 hz with rfl | ⟨h1, _⟩
    · exact hys
    · exact hs z h1
  rw [ftLt_eq, ftEq_eq]
  have s0 := srt_tempsF hn h hs
  refine srt_uniq (srt_tempsF hn (by rw [map_set_same hx hf]; exact h) hs') (putL_srtK _ _ _ _ s0) fun z => ?_
  rw [mem_tempsF, putL_memK _ _ _ _ s0, mem_tempsF, show decide ((gT ac y).val = 0#256) = idleT y from rfl]
  constructor
  · rintro ⟨u, hu, hi, rfl⟩
    rcases (mem_set_iff h hx hf).1 hu with rfl | ⟨h1, h2⟩
    · exact .inr ⟨hi, rfl⟩
    · refine .inl ⟨⟨u, h1, hi, rfl⟩, fun e => h2 ?_⟩
      obtain ⟨e1, e2⟩ := (kT_inj hn (hs u h1) hys).1 e
      simp [e1, e2]
  · rintro (⟨⟨u, h1, hi, rfl⟩, h2⟩ | ⟨hi, rfl⟩)
    · refine ⟨u, (mem_set_iff h hx hf).2 (.inr ⟨h1, fun e => h2 ?_⟩), hi, rfl⟩
      obtain ⟨e1, e2⟩ := Prod.mk.inj e
      exact (kT_inj hn (hs u h1) hys).2 ⟨e1, e2⟩
    · exact ⟨y, (mem_set_iff h hx hf).2 (.inl rfl), hi, rfl⟩
/-! ### Searches in a face -/
theorem idle_new {x : Acct} (h : idleA x = true) (hc : codeOKB x.code = true) : x = newAcct x.addr := by
  obtain ⟨a, n, b, c, w, md, g⟩ := x
  unfold idleA emptyM at h
  unfold codeOKB at hc
  simp at h hc
  obtain ⟨⟨h1, h2, h3⟩, h4, h5, h6⟩ := h
  have : c = none := by
    rcases hc.2 with h7 | h7
    · rw [h3] at h7; simp at h7
    · exact h7
  subst h1 h2 h4 h5 h6 this
  rfl
theorem findMA_in {ac : List Acct} (hn : (ac.map (·.addr)).Nodup) {x : Acct} (hx : x ∈ ac) (hc : codeOKB x.code = true) : findMA (acctsF ac) x.addr = x := by
  unfold findMA
  cases hf : (acctsF ac).find? (fun z => decide (z.addr = x.addr)) with
  | some y =>
    have h1 := List.mem_of_find?_eq_some hf
    have h2 := List.find?_some hf
    simp only [decide_eq_true_eq] at h2
    exact nodup_eq hn ((mem_acctsF _ _).1 h1).1 hx h2
  | none =>
    have h1 := List.find?_eq_none.1 hf x
    cases hi : idleA x with
    | true => exact (idle_new hi hc).symm
    | false => exact absurd (by simp) (h1 ((mem_acctsF _ _).2 ⟨hx, hi⟩))
theorem findMA_out {ac : List Acct} {a : A160} (h : ∀ x ∈ ac, x.addr ≠ a) : findMA (acctsF ac) a = newAcct a := by
  unfold findMA
  cases hf : (acctsF ac).find? (fun z => decide (z.addr = a)) with
  | some y =>
    have h1 := List.mem_of_find?_eq_some hf
    have h2 := List.find?_some hf
    simp only [decide_eq_true_eq] at h2
    exact absurd h2 (h y ((mem_acctsF _ _).1 h1).1)
  | none => rfl
theorem findFS_in {ac : List Acct} {sl : List Slot} (hn : (ac.map (·.addr)).Nodup) (h : (sl.map (fun x => (x.acct, x.key))).Nodup) (hs : ∀ x ∈ sl, 0 ≤ x.acct ∧ x.acct < (ac.length : Int)) {x : Slot} (hx : x ∈ sl) :
    findFS (slotsF ac sl) (addrAt ac x.acct) x.key = gS ac x := by
  unfold findFS
  cases hf : (slotsF ac sl).find? (fun z => decide (z.addr = addrAt ac x.acct) && decide (z.key = x.key)) with
  | some y =>
    have h1 := List.mem_of_find?_eq_some hf
    have h2 := List.find?_some hf
    simp only [Bool.and_eq_true, decide_eq_true_eq] at h2
    obtain ⟨u, hu, hi, rfl⟩ := (mem_slotsF _ _ _).1 h1
    have e : kS (gS ac u) = kS (gS ac x) := akN_inj.2 h2
    obtain ⟨e1, e2⟩ := (kS_inj hn (hs u hu) (hs x hx)).1 e
    have : u = x := nodup_eq h hu hx (by simp [e1, e2])
    rw [this]
  | none =>
    have h1 := List.find?_eq_none.1 hf (gS ac x)
    cases hi : idleS x with
    | true =>
      obtain ⟨c, k, v, o, wm⟩ := x
      unfold idleS at hi
      simp at hi
      obtain ⟨rfl, rfl, rfl⟩ := hi
      rfl
    | false => exact absurd (by simp [gS]) (h1 ((mem_slotsF _ _ _).2 ⟨x, hx, hi, rfl⟩))
theorem findFS_out {ac : List Acct} {sl : List Slot} {a : A160} {key : W256} (h : ∀ x ∈ sl, ¬ (addrAt ac x.acct = a ∧ x.key = key)) : findFS (slotsF ac sl) a key = ⟨a, key, 0#256, 0#256, false⟩ := by
  unfold findFS
  cases hf : (slotsF ac sl).find? (fun z => decide (z.addr = a) && decide (z.key = key)) with
  | some y =>
    have h1 := List.mem_of_find?_eq_some hf
    have h2 := List.find?_some hf
    simp only [Bool.and_eq_true, decide_eq_true_eq] at h2
    obtain ⟨u, hu, hi, rfl⟩ := (mem_slotsF _ _ _).1 h1
    exact absurd h2 (h u hu)
  | none => rfl
theorem findFT_in {ac : List Acct} {ts : List Temp} (hn : (ac.map (·.addr)).Nodup) (h : (ts.map (fun x => (x.acct, x.key))).Nodup) (hs : ∀ x ∈ ts, 0 ≤ x.acct ∧ x.acct < (ac.length : Int)) {x : Temp} (hx : x ∈ ts) :
    findFT (tempsF ac ts) (addrAt ac x.acct) x.key = x.val := by
  unfold findFT
  cases hf : (tempsF ac ts).find? (fun z => decide (z.addr = addrAt ac x.acct) && decide (z.key = x.key)) with
  | some y =>
    have h1 := List.mem_of_find?_eq_some hf
    have h2 := List.find?_some hf
    simp only [Bool.and_eq_true, decide_eq_true_eq] at h2
    obtain ⟨u, hu, hi, rfl⟩ := (mem_tempsF _ _ _).1 h1
    have e : kT (gT ac u) = kT (gT ac x) := akN_inj.2 h2
    obtain ⟨e1, e2⟩ := (kT_inj hn (hs u hu) (hs x hx)).1 e
    have : u = x := nodup_eq h hu hx (by simp [e1, e2])
    rw [this]; rfl
  | none =>
    have h1 := List.find?_eq_none.1 hf (gT ac x)
    cases hi : idleT x with
    | true =>
      unfold idleT at hi
      simp at hi
      exact hi.symm
    | false => exact absurd (by simp [gT]) (h1 ((mem_tempsF _ _ _).2 ⟨x, hx, hi, rfl⟩))
theorem findFT_out {ac : List Acct} {ts : List Temp} {a : A160} {key : W256} (h : ∀ x ∈ ts, ¬ (addrAt ac x.acct = a ∧ x.key = key)) : findFT (tempsF ac ts) a key = 0#256 := by
  unfold findFT
  cases hf : (tempsF ac ts).find? (fun z => decide (z.addr = a) && decide (z.key = key)) with
  | some y =>
    have h1 := List.mem_of_find?_eq_some hf
    have h2 := List.find?_some hf
    simp only [Bool.and_eq_true, decide_eq_true_eq] at h2
    obtain ⟨u, hu, hi, rfl⟩ := (mem_tempsF _ _ _).1 h1
    exact absurd h2 (h u hu)
  | none => rfl
/-! ### Weights -/
theorem sumN_perm {l l' : List W256} (h : l.Perm l') : sumN l = sumN l' := by
  induction h with
  | nil => rfl
  | cons x _ ih => simp only [sumN, ih]
  | swap x y l => simp only [sumN]; omega
  | trans _ _ ih1 ih2 => rw [ih1, ih2]
theorem cntF_perm {l l' : List FSlot} (h : l.Perm l') : cntF l = cntF l' := by
  induction h with
  | nil => rfl
  | cons x _ ih => simp only [cntF, ih]
  | swap x y l => simp only [cntF]; omega
  | trans _ _ ih1 ih2 => rw [ih1, ih2]
theorem sum_filter : ∀ (l : List Acct), sumN ((l.filter (fun x => !idleA x)).map (·.bal)) = sumN (l.map (·.bal))
  | [] => rfl
  | x :: l => by
    have ih := sum_filter l
    rw [List.filter_cons, List.map_cons]
    cases hi : idleA x with
    | false => simp only [Bool.not_false, if_true, List.map_cons, sumN, ih]
    | true =>
      have hb : x.bal = 0#256 := by
        unfold idleA emptyM at hi
        simp at hi
        exact hi.1.2.1
      simp only [Bool.not_true, Bool.false_eq_true, if_false, sumN, ih, hb]
      simp
theorem cnt_filter (ac : List Acct) : ∀ (l : List Slot), cntF ((l.filter (fun x => !idleS x)).map (gS ac)) = cntC l
  | [] => rfl
  | x :: l => by
    have ih := cnt_filter ac l
    rw [List.filter_cons]
    have e : clrF (gS ac x) = clr x := rfl
    cases hi : idleS x with
    | false => simp only [Bool.not_false, if_true, List.map_cons, cntF, cntC, ih, e]
    | true =>
      have hb : clr x = false := by
        unfold idleS at hi
        unfold clr
        simp at hi
        simp [hi.2.1]
      simp only [Bool.not_true, Bool.false_eq_true, if_false, cntC, ih, hb]
      simp
theorem weigh_face (m : MV) : (faceM m).weigh = m.weigh := by
  unfold MFace.weigh MV.weigh faceM
  simp only
  have e1 : sumN ((acctsF m.accts).map (·.bal)) = sumN m.bals := by
    have hp := insF_perm (ltK kA) idleA id m.accts []
    rw [acctsF_eq, sumN_perm (hp.map _), List.append_nil, List.map_id]
    exact sum_filter m.accts
  have e2 : cntF (slotsF m.accts m.slots) = cntC m.slots := by
    have hp := insF_perm (ltK kS) idleS (gS m.accts) m.slots []
    rw [slotsF_eq, cntF_perm hp, List.append_nil]
    exact cnt_filter m.accts m.slots
  rw [e1, e2]
end Go.Proofs.YgvatwGreat
