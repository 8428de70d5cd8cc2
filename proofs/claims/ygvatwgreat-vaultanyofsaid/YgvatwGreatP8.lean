/-
  PLAIN LAWS P8: the end of a transaction; the xport.
-/
import Derived.Test.YgvatwGreatP7
namespace Go.Proofs.YgvatwGreat
open Go Go.RowKit
set_option linter.unusedVariables false
set_option linter.unusedSimpArgs false

theorem endA_eq (x : Acct) : endA x = endMA x := by
  obtain ⟨a, n, b, c, w, md, g⟩ := x
  unfold endA endMA newAcct
  cases g <;> rfl
theorem endA_addr (x : Acct) : (endA x).addr = x.addr := by
  unfold endA
  split <;> rfl
theorem endA_idle {x : Acct} (h : idleA x = true) : idleA (endA x) = true := by
  obtain ⟨a, n, b, c, w, md, g⟩ := x
  unfold idleA emptyM at h
  simp at h
  obtain ⟨⟨h1, h2, h3⟩, h4, h5, h6⟩ := h
  subst h1 h2 h4 h5 h6
  simp [endA, idleA, emptyM, h3]
theorem endS_idle {ac : List Acct} {x : Slot} (h : idleS x = true) : idleS (endS ac x) = true := by
  obtain ⟨c, k, v, o, w⟩ := x
  unfold idleS at h
  simp at h
  obtain ⟨rfl, rfl, rfl⟩ := h
  have : endSv ac ⟨c, k, 0#256, 0#256, false⟩ = 0#256 := by
    unfold endSv
    split
    · split <;> rfl
    · rfl
  simp [endS, idleS, this]
theorem endTx_chk {m : MV} (h : ChkM m) : ChkM m.endTx := by
  have s : Shp m { m with accts := m.accts.map endA, slots := m.slots.map (endS m.accts) } := by
    refine ⟨?_, ?_, rfl, rfl, rfl, rfl⟩
    · simp only [List.map_map]
      exact List.map_congr_left fun x _ => endA_addr x
    · simp only [List.map_map]
      exact List.map_congr_left fun x _ => rfl
  have t := h.sh.shp s
  refine chk_of ⟨t.a, t.s, Nat.zero_le _, t.sa, fun x hx => (by cases hx), t.tabA, t.tabS, t.fa, t.fs, fun _ => ⟨rfl, rfl⟩, fun hh => ?_, fun hh => ?_, fun hh => ?_⟩
    ⟨Nat.zero_le _, Nat.zero_le _, Int.le_refl _, by show (0 : Int) ≤ 16384; decide, by show (0#64).toNat ≤ 209715200; decide, fun x hx => ?_, fun i hi => ?_, fun x hx => (by cases hx), rfl, fun x hx => (by cases hx)⟩
  · exact absurd hh (show ¬ (0 : Nat) = 16384 by decide)
  · exact absurd hh (show ¬ (0 : Nat) = 16384 by decide)
  · exact absurd hh (show ¬ (0 : Nat) = 16384 by decide)
  · obtain ⟨y, hy, rfl⟩ := List.mem_map.1 hx
    unfold endA
    split
    · rfl
    · exact h.ca y hy
  · have : (i : Int) < 0 := hi
    omega
theorem endTx_law {m : MV} (h : ChkM m) : ChkM m.endTx ∧ absM m.endTx = (absM m).endTx := by
  refine ⟨endTx_chk h, ?_⟩
  have d := h.sh.dis
  have d' := (endTx_chk h).sh.dis
  have hA : acctsF (m.accts.map endA) = putsL aLt aEq idleA ((acctsF m.accts).map endMA) := by
    unfold putsL
    rw [aLt_eq, aEq_eq]
    obtain ⟨p1, p2⟩ := putsL_spec (κ := kA) idleA ((acctsF m.accts).map endMA) [] List.Pairwise.nil (by
      refine List.pairwise_map.2 (pw_mem (srt_acctsF d.a) fun x _ y _ hlt e => ?_)
      have e1 : kA (endMA x) = kA x := by unfold kA; rw [← endA_eq, endA_addr]
      have e2 : kA (endMA y) = kA y := by unfold kA; rw [← endA_eq, endA_addr]
      rw [e1, e2] at e; omega) (fun x hx y hy => by cases hy)
    refine srt_uniq (srt_acctsF d'.a) p1 fun z => ?_
    rw [mem_acctsF, p2]
    constructor
    · rintro ⟨hz, hi⟩
      obtain ⟨x, hx, rfl⟩ := List.mem_map.1 hz
      refine .inr ⟨List.mem_map.2 ⟨x, (mem_acctsF _ _).2 ⟨hx, ?_⟩, (endA_eq x).symm⟩, hi⟩
      cases hxi : idleA x with
      | false => rfl
      | true => rw [endA_idle hxi] at hi; cases hi
    · rintro (hz | ⟨hz, hi⟩)
      · cases hz
      · obtain ⟨x, hx, rfl⟩ := List.mem_map.1 hz
        exact ⟨List.mem_map.2 ⟨x, ((mem_acctsF _ _).1 hx).1, endA_eq x⟩, hi⟩
  have hmap : (m.accts.map endA).map (·.addr) = m.accts.map (·.addr) := by
    simp only [List.map_map]
    exact List.map_congr_left fun x _ => endA_addr x
  have hg : ∀ x ∈ m.slots, gS (m.accts.map endA) (endS m.accts x) = endSF (fun a => (findMA (acctsF m.accts) a).gone) (gS m.accts x) := by
    intro x hx
    have hv := d.sa x hx
    obtain ⟨y, hy, ey⟩ := addrAt_some hv.1 hv.2
    have hf : findMA (acctsF m.accts) (addrAt m.accts x.acct) = y := by
      rw [ey]; exact findMA_in d.a (List.mem_of_getElem? hy) (h.ca y (List.mem_of_getElem? hy))
    have e1 : endSv m.accts x = if y.gone then 0#256 else x.val := by unfold endSv; rw [hy]
    unfold gS endS endSF
    simp only [addrAt_map hmap, hf, e1]
  have hS : slotsF (m.accts.map endA) (m.slots.map (endS m.accts)) = putsL fsLt fsEq idleFS ((slotsF m.accts m.slots).map (endSF fun a => (findMA (acctsF m.accts) a).gone)) := by
    unfold putsL
    rw [fsLt_eq, fsEq_eq]
    obtain ⟨p1, p2⟩ := putsL_spec (κ := kS) idleFS ((slotsF m.accts m.slots).map (endSF fun a => (findMA (acctsF m.accts) a).gone)) [] List.Pairwise.nil (by
      refine List.pairwise_map.2 (pw_mem (srt_slotsF d.a d.s d.sa) fun x _ y _ hlt e => ?_)
      have e' : kS x = kS y := e
      omega) (fun x hx y hy => by cases hy)
    refine srt_uniq (srt_slotsF d'.a d'.s d'.sa) p1 fun z => ?_
    rw [mem_slotsF, p2]
    constructor
    · rintro ⟨u, hu, hi, rfl⟩
      obtain ⟨x, hx, rfl⟩ := List.mem_map.1 hu
      refine .inr ⟨List.mem_map.2 ⟨gS m.accts x, (mem_slotsF _ _ _).2 ⟨x, hx, ?_, rfl⟩, (hg x hx).symm⟩, ?_⟩
      · cases hxi : idleS x with
        | false => rfl
        | true => rw [endS_idle hxi] at hi; cases hi
      · exact hi
    · rintro (hz | ⟨hz, hi⟩)
      · cases hz
      · obtain ⟨u, hu, rfl⟩ := List.mem_map.1 hz
        obtain ⟨x, hx, hxi, rfl⟩ := (mem_slotsF _ _ _).1 hu
        refine ⟨endS m.accts x, List.mem_map.2 ⟨x, hx, rfl⟩, ?_, hg x hx⟩
        rw [← hg x hx, idleFS_g] at hi
        exact hi
  unfold absM MState.endTx MV.endTx
  simp only [List.length_nil, List.range_zero, List.map_nil, Int.toNat_zero]
  unfold faceM
  simp only
  rw [hA, hS]
  rfl
/-! ### The xport -/
theorem keysA_in : ∀ {l : List Acct} {i j : Nat} {x : Acct}, l[j]? = some x → emptyM x = false → (⟨0, aW x.addr, ((i + j : Nat) : Int)⟩ : SK) ∈ keysA i l
  | [], i, j, x, h, _ => by simp at h
  | y :: l, i, 0, x, h, he => by
    simp only [List.getElem?_cons_zero, Option.some.injEq] at h
    subst h
    unfold keysA
    rw [he]
    simp
  | y :: l, i, j + 1, x, h, he => by
    rw [List.getElem?_cons_succ] at h
    have := keysA_in (i := i + 1) h he
    unfold keysA
    refine List.mem_append.2 (.inr ?_)
    rw [show i + (j + 1) = i + 1 + j by omega]; exact this
theorem keysS_in {R : List Int} : ∀ {l : List Slot} {i j : Nat} {x : Slot}, l[j]? = some x → sOK R x = true → (⟨R.getD x.acct.toNat 0, x.key, ((i + j : Nat) : Int)⟩ : SK) ∈ keysS R i l
  | [], i, j, x, h, _ => by simp at h
  | y :: l, i, 0, x, h, he => by
    simp only [List.getElem?_cons_zero, Option.some.injEq] at h
    subst h
    unfold keysS
    rw [he]
    simp
  | y :: l, i, j + 1, x, h, he => by
    rw [List.getElem?_cons_succ] at h
    have := keysS_in (R := R) (i := i + 1) h he
    unfold keysS
    refine List.mem_append.2 (.inr ?_)
    rw [show i + (j + 1) = i + 1 + j by omega]; exact this
theorem keysA_pl : ∀ (l : List Acct) (i : Nat), (keysA i l).Pairwise (fun a b => a.pl ≠ b.pl)
  | [], _ => List.Pairwise.nil
  | x :: l, i => by
    unfold keysA
    refine List.pairwise_append.2 ⟨?_, keysA_pl l (i + 1), fun a ha b hb => ?_⟩
    · split
      · exact List.Pairwise.nil
      · exact List.pairwise_singleton _ _
    · obtain ⟨j, y, _, _, rfl⟩ := keysA_mem hb
      split at ha
      · cases ha
      · simp at ha; subst ha; simp only; omega
theorem keysS_pl (R : List Int) : ∀ (l : List Slot) (i : Nat), (keysS R i l).Pairwise (fun a b => a.pl ≠ b.pl)
  | [], _ => List.Pairwise.nil
  | x :: l, i => by
    unfold keysS
    refine List.pairwise_append.2 ⟨?_, keysS_pl R l (i + 1), fun a ha b hb => ?_⟩
    · split
      · exact List.pairwise_singleton _ _
      · exact List.Pairwise.nil
    · obtain ⟨j, y, _, _, rfl⟩ := keysS_mem hb
      split at ha
      · simp at ha; subst ha; simp only; omega
      · cases ha
theorem sort_pl {l : List SK} (h : l.Pairwise (fun a b => a.pl ≠ b.pl)) : (sortK l).Pairwise (fun a b => a.pl ≠ b.pl) :=
  (sortK_perm l).symm.pairwise h (fun {a b} hne e => hne e.symm)
theorem expA_mem {m : MV} {k : SK} (h : k ∈ expA m) : ∃ (j : Nat) (x : Acct), m.accts[j]? = some x ∧ emptyM x = false ∧ k = ⟨0, aW x.addr, (j : Int)⟩ := by
  obtain ⟨j, x, h1, h2, h3⟩ := keysA_mem ((sortK_perm _).mem_iff.1 h)
  exact ⟨j, x, h1, h2, by rw [h3]; simp⟩
theorem expS_mem {m : MV} {k : SK} (h : k ∈ expS m) : ∃ (j : Nat) (x : Slot), m.slots[j]? = some x ∧ sOK (expR m) x = true ∧ k = ⟨(expR m).getD x.acct.toNat 0, x.key, (j : Int)⟩ := by
  obtain ⟨j, x, h1, h2, h3⟩ := keysS_mem ((sortK_perm _).mem_iff.1 h)
  exact ⟨j, x, h1, h2, by rw [h3]; simp⟩
def acAt (ac : List Acct) (k : SK) : Acct := (ac[k.pl.toNat]?).getD (newAcct 0#160)
theorem empty_idle {x : Acct} (h : emptyM x = false) : idleA x = false := by unfold idleA; rw [h]; rfl
theorem expB {m : MV} (h : ChkM m) : (expA m).map (acAt m.accts) = (acctsF m.accts).filter (fun x => !emptyM x) := by
  have d := h.sh.dis
  have hpw : (expA m).Pairwise (fun a b => SK.le a b = true ∧ a.pl ≠ b.pl) := (sortK_srt _).and (sort_pl (keysA_pl _ _))
  refine srt_uniq (κ := kA) (List.pairwise_map.2 (pw_mem hpw fun a ha b hb hab => ?_)) ((srt_acctsF d.a).sublist List.filter_sublist) fun z => ?_
  · obtain ⟨j, x, h1, h2, rfl⟩ := expA_mem ha
    obtain ⟨j', x', h1', h2', rfl⟩ := expA_mem hb
    obtain ⟨hle, hne⟩ := hab
    have hle' := (SK.le_iff _ _).1 hle
    simp only [aW_toNat] at hle'
    have e1 : acAt m.accts ⟨0, aW x.addr, (j : Int)⟩ = x := by unfold acAt; simp [h1]
    have e2 : acAt m.accts ⟨0, aW x'.addr, (j' : Int)⟩ = x' := by unfold acAt; simp [h1']
    rw [e1, e2]
    unfold kA
    by_cases e : x.addr.toNat = x'.addr.toNat
    · have := nodup_get d.a h1 h1' (BitVec.eq_of_toNat_eq e)
      subst this
      exact absurd rfl hne
    · omega
  · rw [List.mem_filter, mem_acctsF, List.mem_map]
    constructor
    · rintro ⟨k, hk, rfl⟩
      obtain ⟨j, x, h1, h2, rfl⟩ := expA_mem hk
      have e1 : acAt m.accts ⟨0, aW x.addr, (j : Int)⟩ = x := by unfold acAt; simp [h1]
      rw [e1]
      exact ⟨⟨List.mem_of_getElem? h1, empty_idle h2⟩, by simp [h2]⟩
    · rintro ⟨⟨hz, _⟩, he⟩
      obtain ⟨j, hj⟩ := List.mem_iff_getElem?.1 hz
      refine ⟨⟨0, aW z.addr, (j : Int)⟩, (sortK_perm _).mem_iff.2 ?_, by unfold acAt; simp [hj]⟩
      have := keysA_in (i := 0) hj (by simpa using he)
      simpa using this
theorem rank_get {A : List SK} {n : Nat} (hA : ∀ k ∈ A, k.pl.toNat < n) {p : Nat} (hp : p < n) : ∀ R, R ≤ A.length → (∃ r k, r < R ∧ A[r]? = some k ∧ k.pl.toNat = p ∧ (rankN A n R).getD p 0 = (r : Int) + 1) ∨ ((∀ r k, r < R → A[r]? = some k → k.pl.toNat ≠ p) ∧ (rankN A n R).getD p 0 = 0)
  | 0, _ => .inr ⟨fun r k hr => by omega, by simp [rankN, List.getD_eq_getElem?_getD, hp]⟩
  | R + 1, hR => by
    have hR' : R < A.length := by omega
    have hk : A[R]? = some A[R] := List.getElem?_eq_getElem hR'
    have ih := rank_get hA hp R (by omega)
    have hlen := rankN_len A n R
    have hkn := hA A[R] (List.getElem_mem _)
    have e : (rankN A n (R + 1)) = (rankN A n R).set A[R].pl.toNat ((R : Int) + 1) := by
      show (match A[R]? with | some k => (rankN A n R).set k.pl.toNat ((R : Int) + 1) | none => rankN A n R) = _
      rw [hk]
    rw [e]
    by_cases he : A[R].pl.toNat = p
    · refine .inl ⟨R, A[R], by omega, hk, he, ?_⟩
      rw [he, List.getD_eq_getElem?_getD, List.getElem?_set]
      simp [hlen, hp]
    · have eg : ((rankN A n R).set A[R].pl.toNat ((R : Int) + 1)).getD p 0 = (rankN A n R).getD p 0 := by
        rw [List.getD_eq_getElem?_getD, List.getElem?_set, if_neg he, List.getD_eq_getElem?_getD]
      rw [eg]
      rcases ih with ⟨r, k, h1, h2, h3, h4⟩ | ⟨h1, h2⟩
      · exact .inl ⟨r, k, by omega, h2, h3, h4⟩
      · refine .inr ⟨fun r k hr hk2 => ?_, h2⟩
        by_cases hrR : r = R
        · subst hrR
          rw [hk] at hk2
          cases hk2; exact he
        · exact h1 r k (by omega) hk2
theorem rank_iff {m : MV} (h : ChkM m) {r j : Nat} {k : SK} {x : Acct} (hk : (expA m)[r]? = some k) (hkj : k.pl = (j : Int)) {p : Int} (h0 : 0 ≤ p) (h1 : p < (m.accts.length : Int)) : (expR m).getD p.toNat 0 = (r : Int) + 1 ↔ p = (j : Int) := by
  have hA : ∀ k ∈ expA m, k.pl.toNat < m.accts.length := fun k hk => by
    obtain ⟨j, x, hx, _, rfl⟩ := expA_mem hk
    have := (List.getElem?_eq_some_iff.1 hx).1
    simp only [Int.toNat_natCast]; exact this
  have hpl : (expA m).Pairwise (fun a b => a.pl ≠ b.pl) := sort_pl (keysA_pl _ _)
  have hnd : ((expA m).map (·.pl)).Nodup := List.pairwise_map.2 hpl
  have hr := (List.getElem?_eq_some_iff.1 hk).1
  unfold expR
  rcases rank_get hA (p := p.toNat) (by omega) (expA m).length (Nat.le_refl _) with ⟨r', k', h2, h3, h4, h5⟩ | ⟨h2, h3⟩
  · obtain ⟨j', x', _, _, e'⟩ := expA_mem (List.mem_of_getElem? h3)
    have epl : k'.pl = p := by rw [e'] at h4 ⊢; simp only [Int.toNat_natCast] at h4 ⊢; omega
    rw [h5]
    constructor
    · intro e
      have : r' = r := by omega
      subst this
      rw [hk] at h3
      cases h3
      rw [← epl, hkj]
    · intro e
      have : r' = r := nodup_get hnd h3 hk (by show k'.pl = k.pl; rw [epl, hkj, e])
      omega
  · rw [h3]
    constructor
    · intro e; omega
    · intro e
      exact absurd (by rw [hkj, e]) (h2 r k hr hk)
theorem stor_law {m : MV} (h : ChkM m) {r j : Nat} {k : SK} {x : Acct} (hk : (expA m)[r]? = some k) (hkj : k.pl = (j : Int)) (hx : m.accts[j]? = some x) :
    ((expS m).filter fun s => decide (s.rank = (r : Int) + 1)).map (kvS m.slots) = xSt (slotsF m.accts m.slots) x.addr := by
  have d := h.sh.dis
  have hpw : (expS m).Pairwise (fun a b => SK.le a b = true ∧ a.pl ≠ b.pl) := (sortK_srt _).and (sort_pl (keysS_pl _ _ _))
  have hjl := (List.getElem?_eq_some_iff.1 hx).1
  have hkv : ∀ (i : Nat) (y : Slot) (rk : Int), m.slots[i]? = some y → kvS m.slots ⟨rk, y.key, (i : Int)⟩ = (y.key, y.val) := by
    intro i y rk hy
    unfold kvS
    simp [hy]
  have hat : ∀ y ∈ m.slots, (addrAt m.accts y.acct = x.addr ↔ y.acct = (j : Int)) := by
    intro y hy
    have hv := d.sa y hy
    constructor
    · intro e
      exact addrAt_inj d.a hv.1 hv.2 (by omega) (by omega) (by rw [addrAt_get hx]; exact e)
    · intro e; rw [e]; exact addrAt_get hx
  refine srt_uniq (κ := fun p : W256 × W256 => p.1.toNat) (List.pairwise_map.2 (pw_mem (hpw.sublist List.filter_sublist) fun a ha b hb hab => ?_)) (List.pairwise_map.2 (pw_mem ((srt_slotsF d.a d.s d.sa).sublist List.filter_sublist) fun a ha b hb hab => ?_)) fun z => ?_
  · obtain ⟨ha1, ha2⟩ := List.mem_filter.1 ha
    obtain ⟨hb1, hb2⟩ := List.mem_filter.1 hb
    obtain ⟨i, y, hy, ho, rfl⟩ := expS_mem ha1
    obtain ⟨i', y', hy', ho', rfl⟩ := expS_mem hb1
    simp only [decide_eq_true_eq] at ha2 hb2
    rw [hkv i y _ hy, hkv i' y' _ hy']
    obtain ⟨hle, hne⟩ := hab
    have hle' := (SK.le_iff _ _).1 hle
    simp only at hle'
    have v1 := d.sa y (List.mem_of_getElem? hy)
    have v2 := d.sa y' (List.mem_of_getElem? hy')
    have c1 := (rank_iff h hk hkj (x := x) v1.1 v1.2).1 ha2
    have c2 := (rank_iff h hk hkj (x := x) v2.1 v2.2).1 hb2
    simp only
    by_cases e : y.key.toNat = y'.key.toNat
    · have := nodup_get d.s hy hy' (by simp only [c1, c2, BitVec.eq_of_toNat_eq e])
      subst this
      exact absurd rfl hne
    · omega
  · obtain ⟨ha1, ha2⟩ := List.mem_filter.1 ha
    obtain ⟨hb1, hb2⟩ := List.mem_filter.1 hb
    simp only [Bool.and_eq_true, decide_eq_true_eq] at ha2 hb2
    have hab' : akN a.addr a.key < akN b.addr b.key := hab
    rw [ha2.1, hb2.1] at hab'
    unfold akN at hab'
    simp only
    omega
  · rw [List.mem_map]
    unfold xSt
    rw [List.mem_map]
    constructor
    · rintro ⟨s, hs, rfl⟩
      obtain ⟨hs1, hs2⟩ := List.mem_filter.1 hs
      obtain ⟨i, y, hy, ho, rfl⟩ := expS_mem hs1
      simp only [decide_eq_true_eq] at hs2
      have hym := List.mem_of_getElem? hy
      have v1 := d.sa y hym
      have c1 := (rank_iff h hk hkj (x := x) v1.1 v1.2).1 hs2
      unfold sOK at ho
      simp only [Bool.and_eq_true, decide_eq_true_eq, Bool.not_eq_true', decide_eq_false_iff_not] at ho
      refine ⟨gS m.accts y, List.mem_filter.2 ⟨(mem_slotsF _ _ _).2 ⟨y, hym, ?_, rfl⟩, ?_⟩, (hkv i y _ hy).symm⟩
      · unfold idleS; simp [ho.2]
      · simp only [Bool.and_eq_true, decide_eq_true_eq, Bool.not_eq_true', decide_eq_false_iff_not]
        exact ⟨(hat y hym).2 c1, ho.2⟩
    · rintro ⟨u, hu, rfl⟩
      obtain ⟨hu1, hu2⟩ := List.mem_filter.1 hu
      obtain ⟨y, hym, hi, rfl⟩ := (mem_slotsF _ _ _).1 hu1
      simp only [Bool.and_eq_true, decide_eq_true_eq, Bool.not_eq_true', decide_eq_false_iff_not] at hu2
      have v1 := d.sa y hym
      have c1 := (hat y hym).1 hu2.1
      have hrk := (rank_iff h hk hkj (x := x) v1.1 v1.2).2 c1
      obtain ⟨i, hy⟩ := List.mem_iff_getElem?.1 hym
      refine ⟨⟨(expR m).getD y.acct.toNat 0, y.key, (i : Int)⟩, List.mem_filter.2 ⟨(sortK_perm _).mem_iff.2 ?_, by simp only [hrk, decide_true]⟩, hkv i y _ hy⟩
      have := keysS_in (R := expR m) (i := 0) hy (by
        unfold sOK
        rw [hrk]
        simp only [Bool.and_eq_true, decide_eq_true_eq, Bool.not_eq_true', decide_eq_false_iff_not]
        exact ⟨by omega, hu2.2⟩)
      simpa using this
theorem xport_law {m : MV} (h : ChkM m) : m.xport = (faceM m).xport := by
  unfold MFace.xport
  show _ = ((acctsF m.accts).filter fun x => !emptyM x).map (xWA (slotsF m.accts m.slots))
  rw [← expB h, List.map_map]
  unfold MV.xport expW
  rw [List.take_length]
  refine List.ext_getElem? fun r => ?_
  rw [List.getElem?_mapIdx, List.getElem?_map]
  cases hk : (expA m)[r]? with
  | none => rfl
  | some k =>
    obtain ⟨j, x, hx, he, hkk⟩ := expA_mem (List.mem_of_getElem? hk)
    simp only [Option.map_some, Function.comp]
    congr 1
    have e1 : acAt m.accts k = x := by unfold acAt; rw [hkk]; simp [hx]
    have e2 : baseW m.accts k = ⟨x.addr, x.nonce, x.bal, oB x.code, []⟩ := by unfold baseW; rw [hkk]; simp [hx]
    rw [e1, e2]
    unfold xWA
    simp only
    rw [stor_law h hk (by rw [hkk]) hx]
end Go.Proofs.YgvatwGreat
