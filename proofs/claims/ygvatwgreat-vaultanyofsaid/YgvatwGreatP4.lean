/-
  PLAIN LAWS P4: searches in a vault that passes Check; a new account, slot, temp.
-/
import Derived.Test.YgvatwGreatP3
import Derived.Test.YgvatwGreatC70
namespace Go.Proofs.YgvatwGreat
open Go Go.RowKit
set_option linter.unusedVariables false
set_option linter.unusedSimpArgs false

theorem ChkT.nA {m : MV} (h : ChkT m) {a : A160} (hf : (m.findA a).1 < 0) : ∀ x ∈ m.accts, x.addr ≠ a := by
  intro x hx e
  obtain ⟨i, hi⟩ := List.mem_iff_getElem?.1 hx
  have := h.fa i x hi
  rw [e] at this; omega
theorem ChkT.nS {m : MV} (h : ChkT m) {c : Nat} {key : W256} (hf : (m.findS c key).1 < 0) : ∀ x ∈ m.slots, ¬ (x.acct = (c : Int) ∧ x.key = key) := by
  rintro x hx ⟨e1, e2⟩
  obtain ⟨i, hi⟩ := List.mem_iff_getElem?.1 hx
  have := h.fs i x hi
  rw [e1, e2, Int.toNat_natCast] at this; omega
theorem ChkT.nT {m : MV} (h : ChkT m) {c : Nat} {key : W256} (hf : (m.findT c key).1 < 0) : ∀ x ∈ m.temps, ¬ (x.acct = (c : Int) ∧ x.key = key) := by
  rintro x hx ⟨e1, e2⟩
  obtain ⟨i, hi⟩ := List.mem_iff_getElem?.1 hx
  by_cases hl : (optL m.ttab).length = 16384
  · have := h.tf hl i x hi
    rw [e1, e2, Int.toNat_natCast] at this; omega
  · have := (h.tn hl).2
    rw [List.eq_nil_of_length_eq_zero this] at hx; cases hx
theorem ChkT.atA {m : MV} (h : ChkT m) {a : A160} (hf : 0 ≤ (m.findA a).1) : addrAt m.accts (m.findA a).1 = a ∧ (m.findA a).1 < (m.accts.length : Int) := by
  obtain ⟨x, hx, e⟩ := h.gA hf
  have := (List.getElem?_eq_some_iff.1 hx).1
  refine ⟨?_, by omega⟩
  unfold addrAt
  rw [hx]; exact e
/-! ### Readers -/
theorem getA_face {m : MV} (h : ChkM m) (a : A160) : m.getA a = findMA (acctsF m.accts) a := by
  unfold MV.getA MV.acctO
  by_cases hf : (m.findA a).1 < 0
  · rw [if_pos hf, findMA_out (h.sh.nA hf)]; rfl
  · rw [if_neg hf]
    obtain ⟨x, hx, e⟩ := h.sh.gA (a := a) (by omega)
    rw [hx, ← e]
    exact (findMA_in h.sh.dis.a (List.mem_of_getElem? hx) (h.ca x (List.mem_of_getElem? hx))).symm
theorem addr_no {m : MV} (h : ChkT m) {a : A160} (hf : (m.findA a).1 < 0) {p : Int} (h0 : 0 ≤ p) (h1 : p < (m.accts.length : Int)) : addrAt m.accts p ≠ a := by
  obtain ⟨x, hx, e⟩ := addrAt_some h0 h1
  rw [e]; exact h.nA hf x (List.mem_of_getElem? hx)
theorem getS_face {m : MV} (h : ChkM m) (a : A160) (key : W256) : (m.getS a key).val = (findFS (slotsF m.accts m.slots) a key).val ∧ (m.getS a key).orig = (findFS (slotsF m.accts m.slots) a key).orig ∧ (m.getS a key).warm = (findFS (slotsF m.accts m.slots) a key).warm := by
  have d := h.sh.dis
  unfold MV.getS MV.slotO MV.placeS
  by_cases hf : (m.findA a).1 < 0
  · rw [findFS_out (fun x hx e => addr_no h.sh hf (d.sa x hx).1 (d.sa x hx).2 e.1)]
    simp [hf]
  · obtain ⟨e1, e2⟩ := h.sh.atA (a := a) (by omega)
    simp only [if_neg hf]
    by_cases hs : (m.findS (m.findA a).1.toNat key).1 < 0
    · rw [if_pos hs, findFS_out (fun x hx e => h.sh.nS hs x hx ⟨?_, e.2⟩)]
      · simp
      · have := addrAt_inj d.a (d.sa x hx).1 (d.sa x hx).2 (by omega) e2 (by rw [e1]; exact e.1)
        omega
    · rw [if_neg hs]
      obtain ⟨x, hx, e3, e4⟩ := h.sh.gS (c := (m.findA a).1.toNat) (key := key) (by omega)
      rw [hx]
      have := findFS_in d.a d.s d.sa (List.mem_of_getElem? hx)
      rw [e3, e4, show (((m.findA a).1.toNat : Nat) : Int) = (m.findA a).1 by omega, e1] at this
      rw [this]
      exact ⟨rfl, rfl, rfl⟩
theorem getT_face {m : MV} (h : ChkM m) (a : A160) (key : W256) : m.getT a key = findFT (tempsF m.accts m.temps) a key := by
  have d := h.sh.dis
  unfold MV.getT MV.tempO MV.placeT
  by_cases hf : (m.findA a).1 < 0
  · rw [findFT_out (fun x hx e => addr_no h.sh hf (d.ta x hx).1 (d.ta x hx).2 e.1)]
    simp [hf]
  · obtain ⟨e1, e2⟩ := h.sh.atA (a := a) (by omega)
    simp only [if_neg hf]
    by_cases hs : (m.findT (m.findA a).1.toNat key).1 < 0
    · rw [if_pos hs, findFT_out (fun x hx e => h.sh.nT hs x hx ⟨?_, e.2⟩)]
      have := addrAt_inj d.a (d.ta x hx).1 (d.ta x hx).2 (by omega) e2 (by rw [e1]; exact e.1)
      omega
    · rw [if_neg hs]
      obtain ⟨hl, x, hx, e3, e4⟩ := h.sh.gT (c := (m.findA a).1.toNat) (key := key) (by omega)
      rw [hx]
      have := findFT_in d.a d.t d.ta (List.mem_of_getElem? hx)
      rw [e3, e4, show (((m.findA a).1.toNat : Nat) : Int) = (m.findA a).1 by omega, e1] at this
      rw [this]
/-! ### The index that 'full' counts -/
theorem ixA_none (a : A160) : ∀ (l : List Acct) (i : Nat) (r : Int), (∀ x ∈ l, x.addr ≠ a) → ixA a l i r = r
  | [], _, _, _ => rfl
  | x :: l, i, r, h => by
    unfold ixA
    rw [if_neg (h x (.head _))]
    exact ixA_none a l _ _ (fun y hy => h y (.tail _ hy))
theorem ixA_some (a : A160) : ∀ (l : List Acct) (i : Nat) (r : Int) (k : Nat) (x : Acct), (l.map (·.addr)).Nodup → l[k]? = some x → x.addr = a → ixA a l i r = ((i + k : Nat) : Int)
  | [], _, _, k, x, _, h, _ => by simp at h
  | y :: l, i, r, 0, x, hn, h, e => by
    simp only [List.getElem?_cons_zero, Option.some.injEq] at h
    subst h
    unfold ixA
    rw [if_pos e, ixA_none a l _ _ (fun z hz e2 => ?_)]
    · simp
    · have := (List.nodup_cons.1 hn).1
      exact this (List.mem_map.2 ⟨z, hz, e2.trans e.symm⟩)
  | y :: l, i, r, k + 1, x, hn, h, e => by
    rw [List.getElem?_cons_succ] at h
    unfold ixA
    rw [ixA_some a l (i + 1) _ k x (List.nodup_cons.1 hn).2 h e]
    omega
theorem ix_find {m : MV} (h : ChkT m) (a : A160) : (0 ≤ (m.findA a).1 → m.ix a = (m.findA a).1) ∧ ((m.findA a).1 < 0 → m.ix a = -1) := by
  constructor
  · intro hf
    obtain ⟨x, hx, e⟩ := h.gA hf
    unfold MV.ix
    rw [ixA_some a m.accts 0 (-1) _ x h.dis.a hx e]
    omega
  · intro hf
    exact ixA_none a m.accts 0 (-1) (h.nA hf)
/-! ### A new entry of a table -/
def hitG {α κ : Type} [DecidableEq κ] (f : α → κ) (l : List α) (kk : κ) (i : Nat) : Bool := decide ((l[i]?).map f = some kk)
theorem ins_find {α κ : Type} [DecidableEq κ] {f : α → κ} {l : List α} {y : α} {size : Nat} {tab : Nat → Int} {home : κ → Nat} (hs : 0 < size) (hh : ∀ k, home k < size)
    (hv : ∀ p, p < size → 0 ≤ tab p → (tab p).toNat < l.length)
    (hf : ∀ (i : Nat) x, l[i]? = some x → (probe size tab (hitG f l (f x)) size (home (f x))).1 = (i : Int))
    (h1 : (probe size tab (hitG f l (f y)) size (home (f y))).1 < 0) (h2 : 0 ≤ (probe size tab (hitG f l (f y)) size (home (f y))).2) :
    ∀ (i : Nat) x, (l ++ [y])[i]? = some x → (probe size (upT tab (probe size tab (hitG f l (f y)) size (home (f y))).2.toNat l.length) (hitG f (l ++ [y]) (f x)) size (home (f x))).1 = (i : Int) := by
  intro i x hx
  obtain ⟨p1, p2⟩ := probe_place hs size (home (f y)) (hh _) h2
  generalize hq : (probe size tab (hitG f l (f y)) size (home (f y))).2 = q at *
  have ht : ∀ p, p < size → 0 ≤ tab p → upT tab q.toNat l.length p = tab p := by
    intro p hp h0
    unfold upT
    rw [if_neg (fun e => by rw [e] at h0; omega)]
  have hhit : ∀ k, ∀ p, p < size → 0 ≤ tab p → hitG f (l ++ [y]) k (tab p).toNat = hitG f l k (tab p).toNat := by
    intro k p hp h0
    unfold hitG
    rw [List.getElem?_append_left (hv p hp h0)]
  by_cases hi : i < l.length
  · rw [List.getElem?_append_left hi] at hx
    have h0 := hf i x hx
    rw [probe_keep hs ht (hhit (f x)) size _ (hh _) (by omega)]
    exact h0
  · rw [List.getElem?_append_right (by omega)] at hx
    have hi2 : i - l.length = 0 := by
      by_cases e : i - l.length = 0
      · exact e
      · rw [List.getElem?_eq_none (by simp; omega)] at hx; cases hx
    rw [hi2] at hx
    simp at hx
    subst hx
    rw [probe_new (k := (l.length : Int)) hs ht (hhit (f y)) (by omega) (by unfold hitG; simp) size _ (hh _) h1 (by rw [hq]; exact h2) (by rw [hq]; unfold upT; simp)]
    simp only; omega
theorem findA_G (m : MV) (a : A160) : m.findA a = probe 4096 m.atab (hitG (fun x : Acct => x.addr) m.accts a) 4096 (acctHome a) := by
  unfold MV.findA
  congr 1
  funext k; exact hitA_eq m a k
theorem findS_G (m : MV) (c : Nat) (key : W256) : m.findS c key = probe 4096 m.stab (hitG (fun x : Slot => (x.acct, x.key)) m.slots ((c : Int), key)) 4096 (slotHome c key) := by
  unfold MV.findS
  congr 1
  funext k; exact hitS_eq m c key k
theorem findT_G (m : MV) (c : Nat) (key : W256) (hl : (optL m.ttab).length = 16384) : m.findT c key = probe 16384 m.tabT (hitG (fun x : Temp => (x.acct, x.key)) m.temps ((c : Int), key)) 16384 ((mixM c key).toNat % 16384) := by
  unfold MV.findT
  rw [if_pos hl]
  congr 1
  funext k; exact hitT_eq m c key k
theorem tab_lt {f : Nat → Int} {n : Nat} (h : TabOK f n) : ∀ p, p < 4096 → 0 ≤ f p → (f p).toNat < n := by
  intro p hp h0
  rcases h.to.v p hp with h1 | h1 <;> omega
theorem chkT_addA {m : MV} {a : A160} (h : ChkT m) (hn : (m.findA a).1 < 0) (hl : m.accts.length < 2560) :
    0 ≤ (m.findA a).2 ∧ ChkT { m with accts := m.accts ++ [newAcct a], atab := upT m.atab (m.findA a).2.toNat m.accts.length } := by
  obtain ⟨q, hq, hq0⟩ := tab_room h.tabA (by omega)
  have hp : 0 ≤ (m.findA a).2 := probe_room (acctHome_lt a) hq hq0 hn
  obtain ⟨p1, p2⟩ := probe_place (by decide) 4096 _ (acctHome_lt a) hp
  refine ⟨hp, by simp; omega, h.s, h.t, fun x hx => ?_, fun x hx => ?_, ?_, h.tabS, ?_, h.fs, h.tn, h.tv, h.tf, h.tc⟩
  · have := h.sa x hx
    simp; omega
  · have := h.ta x hx
    simp; omega
  · simp only [List.length_append, List.length_singleton]
    exact tab_up h.tabA p2 p1 hl
  · intro i x hx
    rw [findA_G]
    have hn' := hn
    have hp' := hp
    rw [findA_G] at hn' hp'
    have := ins_find (f := fun x : Acct => x.addr) (l := m.accts) (y := newAcct a) (size := 4096) (tab := m.atab) (home := acctHome) (by decide) acctHome_lt (tab_lt h.tabA)
      (fun i x hx => by have := h.fa i x hx; rw [findA_G] at this; exact this) hn' hp' i x hx
    rw [findA_G m a]
    exact this
def sHome (k : Int × W256) : Nat := slotHome k.1.toNat k.2
theorem chkT_addS {m : MV} {c : Nat} {key : W256} (h : ChkT m) (hc : c < m.accts.length) (hn : (m.findS c key).1 < 0) (hl : m.slots.length < 2560) :
    0 ≤ (m.findS c key).2 ∧ ChkT { m with slots := m.slots ++ [newSlot c key], stab := upT m.stab (m.findS c key).2.toNat m.slots.length } := by
  obtain ⟨q, hq, hq0⟩ := tab_room h.tabS (by omega)
  have hp : 0 ≤ (m.findS c key).2 := probe_room (slotHome_lt c key) hq hq0 hn
  obtain ⟨p1, p2⟩ := probe_place (by decide) 4096 _ (slotHome_lt c key) hp
  have hsa : ∀ x ∈ m.slots ++ [newSlot c key], 0 ≤ x.acct ∧ x.acct < (m.accts.length : Int) := fun x hx => by
    rcases List.mem_append.1 hx with hx | hx
    · exact h.sa x hx
    · simp at hx; subst hx; unfold newSlot; simp; omega
  refine ⟨hp, h.a, by simp; omega, h.t, hsa, h.ta, h.tabA, ?_, h.fa, ?_, h.tn, h.tv, h.tf, h.tc⟩
  · simp only [List.length_append, List.length_singleton]
    exact tab_up h.tabS p2 p1 hl
  · intro i x hx
    have hxa := hsa x (List.mem_of_getElem? hx)
    rw [findS_G]
    have hn' := hn
    have hp' := hp
    rw [findS_G] at hn' hp'
    have := ins_find (f := fun x : Slot => (x.acct, x.key)) (l := m.slots) (y := newSlot c key) (size := 4096) (tab := m.stab) (home := sHome) (by decide) (fun k => slotHome_lt _ _) (tab_lt h.tabS)
      (fun i x hx => by
        have h0 := h.fs i x hx
        have h1 := h.sa x (List.mem_of_getElem? hx)
        rw [findS_G, show ((x.acct.toNat : Nat) : Int) = x.acct by omega] at h0
        exact h0) hn' hp' i x hx
    rw [findS_G m c key, show ((x.acct.toNat : Nat) : Int) = x.acct by omega]
    exact this
def tHome (k : Int × W256) : Nat := (mixM k.1.toNat k.2).toNat % 16384
theorem getD_set' (l : List Int) (q : Nat) (v : Int) (hq : q < l.length) : (fun p => (l.set q v).getD p 0) = upT (fun p => l.getD p 0) q v := by
  funext p
  unfold upT
  simp only [List.getD_eq_getElem?_getD, List.getElem?_set]
  by_cases e : p = q
  · subst e; simp [hq]
  · rw [if_neg e, if_neg (fun h => e h.symm)]
theorem chkT_ensure {m : MV} (h : ChkT m) : ChkT m.ensureT ∧ (optL m.ensureT.ttab).length = 16384 := by
  unfold MV.ensureT
  by_cases hl : (optL m.ttab).length = 16384
  · rw [if_pos hl]; exact ⟨h, hl⟩
  · rw [if_neg hl]
    have ht := (h.tn hl).2
    have ht' := List.eq_nil_of_length_eq_zero ht
    refine ⟨⟨h.a, h.s, h.t, h.sa, h.ta, h.tabA, h.tabS, h.fa, h.fs, fun hne => ?_, fun _ x hx => ?_, fun _ i x hx => ?_, fun _ => ?_⟩, ?_⟩
    · exact absurd (List.length_replicate ..) hne
    · have := List.eq_of_mem_replicate (show x ∈ List.replicate 16384 (-1 : Int) from hx)
      simp only; omega
    · simp only [ht'] at hx; simp at hx
    · show cntL (List.replicate 16384 (-1)) = _
      rw [cntL_rep, ht]
    · exact List.length_replicate ..
theorem chkT_addT {m : MV} {c : Nat} {key : W256} (h : ChkT m) (hlen : (optL m.ttab).length = 16384) (hc : c < m.accts.length) (hn : (m.findT c key).1 < 0) (hl : m.temps.length < 12288) :
    0 ≤ (m.findT c key).2 ∧ ChkT { m with temps := m.temps ++ [newTemp c key], ttab := some ((optL m.ttab).set (m.findT c key).2.toNat m.temps.length) } := by
  obtain ⟨q, hq, hq0⟩ := cntL_room (l := optL m.ttab) (by rw [h.tc hlen, hlen]; omega)
  have hp : 0 ≤ (m.findT c key).2 := by
    have hn' := hn
    rw [findT_G m c key hlen] at hn' ⊢
    exact probe_room (Nat.mod_lt _ (by decide)) (by rw [hlen] at hq; exact hq) hq0 hn'
  have hpl := hp
  rw [findT_G m c key hlen] at hpl
  obtain ⟨p1, p2⟩ := probe_place (by decide) 16384 _ (Nat.mod_lt _ (by decide)) hpl
  rw [← findT_G m c key hlen] at p1 p2
  have hta : ∀ x ∈ m.temps ++ [newTemp c key], 0 ≤ x.acct ∧ x.acct < (m.accts.length : Int) := fun x hx => by
    rcases List.mem_append.1 hx with hx | hx
    · exact h.ta x hx
    · simp at hx; subst hx; unfold newTemp; simp; omega
  have hl2 : (optL (some ((optL m.ttab).set (m.findT c key).2.toNat (m.temps.length : Int)))).length = 16384 := by simp [optL, ← hlen]
  refine ⟨hp, h.a, h.s, by simp; omega, h.sa, hta, h.tabA, h.tabS, h.fa, h.fs, fun hne => absurd hl2 hne, fun _ x hx => ?_, fun _ i x hx => ?_, fun _ => ?_⟩
  · simp only [optL] at hx
    rcases List.mem_or_eq_of_mem_set hx with hx | hx
    · have := h.tv hlen x hx
      simp; omega
    · subst hx; simp; omega
  · have hxa := hta x (List.mem_of_getElem? hx)
    rw [findT_G _ _ _ hl2]
    have hn' := hn
    have hp' := hp
    rw [findT_G m c key hlen] at hn' hp'
    have := ins_find (f := fun x : Temp => (x.acct, x.key)) (l := m.temps) (y := newTemp c key) (size := 16384) (tab := m.tabT) (home := tHome) (by decide) (fun k => Nat.mod_lt _ (by decide))
      (fun p hp h0 => by
        have h1 : p < (optL m.ttab).length := by omega
        have h2 : m.tabT p = (optL m.ttab)[p] := by unfold MV.tabT; rw [List.getD_eq_getElem?_getD, List.getElem?_eq_getElem h1]; rfl
        have := h.tv hlen (m.tabT p) (by rw [h2]; exact List.getElem_mem _)
        omega)
      (fun i x hx => by
        have h0 := h.tf hlen i x hx
        have h1 := h.ta x (List.mem_of_getElem? hx)
        rw [findT_G _ _ _ hlen, show ((x.acct.toNat : Nat) : Int) = x.acct by omega] at h0
        exact h0) hn' hp' i x hx
    rw [show ((x.acct.toNat : Nat) : Int) = x.acct by omega]
    have e : MV.tabT { m with temps := m.temps ++ [newTemp c key], ttab := some ((optL m.ttab).set (m.findT c key).2.toNat (m.temps.length : Int)) } = upT m.tabT (m.findT c key).2.toNat m.temps.length :=
      getD_set' (optL m.ttab) _ _ (by omega)
    rw [e, findT_G m c key hlen]
    exact this
  · show cntL ((optL m.ttab).set (m.findT c key).2.toNat (m.temps.length : Int)) = (m.temps ++ [newTemp c key]).length
    simp only [List.length_append, List.length_singleton]
    have h1 : (m.findT c key).2.toNat < (optL m.ttab).length := by omega
    have h2 : (optL m.ttab)[(m.findT c key).2.toNat]? = some (m.tabT (m.findT c key).2.toNat) := by
      unfold MV.tabT; rw [List.getD_eq_getElem?_getD, List.getElem?_eq_getElem h1]; rfl
    rw [cntL_set _ _ _ _ h2 p1 (by omega), h.tc hlen]
end Go.Proofs.YgvatwGreat
