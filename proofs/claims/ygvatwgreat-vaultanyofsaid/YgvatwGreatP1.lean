/-
  PLAIN LAWS P1: sorted lists by a number.
-/
import Derived.Test.YgvatwGreatC61
namespace Go.Proofs.YgvatwGreat
open Go Go.RowKit
set_option linter.unusedVariables false
set_option linter.unusedSimpArgs false

def ltK {α : Type} (κ : α → Nat) (a b : α) : Bool := decide (κ a < κ b)
def eqK {α : Type} (κ : α → Nat) (a b : α) : Bool := decide (κ a = κ b)
def SrtK {α : Type} (κ : α → Nat) (l : List α) : Prop := l.Pairwise (fun a b => κ a < κ b)
theorem srt_uniq {α : Type} {κ : α → Nat} : ∀ {l l' : List α}, SrtK κ l → SrtK κ l' → (∀ x, x ∈ l ↔ x ∈ l') → l = l'
  | [], [], _, _, _ => rfl
  | [], a :: t, _, _, h => by have := (h a).2 (.head _); cases this
  | a :: t, [], _, _, h => by have := (h a).1 (.head _); cases this
  | a :: t, a' :: t', h1, h2, h => by
    have h1' := List.pairwise_cons.1 h1
    have h2' := List.pairwise_cons.1 h2
    have e : a = a' := by
      rcases List.mem_cons.1 ((h a).1 (.head _)) with e | hm
      · exact e
      · rcases List.mem_cons.1 ((h a').2 (.head _)) with e | hm'
        · exact e.symm
        · have := h1'.1 _ hm'; have := h2'.1 _ hm; omega
    subst e
    congr 1
    refine srt_uniq h1'.2 h2'.2 fun x => ⟨fun hx => ?_, fun hx => ?_⟩
    · rcases List.mem_cons.1 ((h x).1 (.tail _ hx)) with e | hm
      · subst e; have := h1'.1 _ hx; omega
      · exact hm
    · rcases List.mem_cons.1 ((h x).2 (.tail _ hx)) with e | hm
      · subst e; have := h2'.1 _ hx; omega
      · exact hm
theorem SrtK.nodupK {α : Type} {κ : α → Nat} {l : List α} (h : SrtK κ l) : ∀ x ∈ l, ∀ y ∈ l, κ x = κ y → x = y := by
  induction l with
  | nil => intro x hx; cases hx
  | cons a t ih =>
    have h' := List.pairwise_cons.1 h
    intro x hx y hy e
    rcases List.mem_cons.1 hx with h1 | h1 <;> rcases List.mem_cons.1 hy with h2 | h2
    · rw [h1, h2]
    · have := h'.1 _ h2; rw [← h1] at this; omega
    · have := h'.1 _ h1; rw [← h2] at this; omega
    · exact ih h'.2 x h1 y h2 e
/-! ### Insertion -/
theorem insPos_spec {α : Type} {κ : α → Nat} (a : α) (l : List α) : ∀ n, n ≤ l.length → insPos (ltK κ) a l n ≤ n ∧ (∀ i y, insPos (ltK κ) a l n ≤ i → i < n → l[i]? = some y → κ a < κ y) ∧ (∀ i y, i + 1 = insPos (ltK κ) a l n → l[i]? = some y → κ y ≤ κ a)
  | 0, _ => ⟨Nat.le_refl _, fun i y _ h => by omega, fun i y h => by simp [insPos] at h⟩
  | n + 1, hn => by
    obtain ⟨h1, h2, h3⟩ := insPos_spec (κ := κ) a l n (by omega)
    unfold insPos
    rw [List.getElem?_eq_getElem (by omega : n < l.length)]
    simp only [ltK, decide_eq_true_eq]
    split
    · rename_i hlt
      refine ⟨by omega, fun i y hi hin hy => ?_, h3⟩
      by_cases e : i = n
      · subst e
        rw [List.getElem?_eq_getElem (by omega)] at hy
        cases hy; exact hlt
      · exact h2 i y hi (by omega) hy
    · rename_i hlt
      refine ⟨Nat.le_refl _, fun i y hi hin => by omega, fun i y hi hy => ?_⟩
      have e : i = n := by omega
      subst e
      rw [List.getElem?_eq_getElem (by omega)] at hy
      cases hy; omega
theorem ins_perm {α : Type} (lt : α → α → Bool) (a : α) (l : List α) : (ins lt a l).Perm (a :: l) := by
  unfold ins hole
  refine List.perm_middle.trans ?_
  rw [List.take_append_drop]
theorem srt_get {α : Type} {κ : α → Nat} {l : List α} (h : SrtK κ l) {i j : Nat} {x y : α} (hi : l[i]? = some x) (hj : l[j]? = some y) (hij : i < j) : κ x < κ y := by
  have h1 := (List.getElem?_eq_some_iff.1 hi)
  have h2 := (List.getElem?_eq_some_iff.1 hj)
  obtain ⟨l1, e1⟩ := h1
  obtain ⟨l2, e2⟩ := h2
  have := (List.pairwise_iff_getElem.1 h) i j l1 l2 hij
  rw [e1, e2] at this; exact this
theorem ins_srt {α : Type} {κ : α → Nat} {a : α} {l : List α} (h : SrtK κ l) (hn : ∀ y ∈ l, κ y ≠ κ a) : SrtK κ (ins (ltK κ) a l) := by
  obtain ⟨h1, h2, h3⟩ := insPos_spec (κ := κ) a l l.length (Nat.le_refl _)
  unfold ins hole
  generalize insPos (ltK κ) a l l.length = k at h1 h2 h3 ⊢
  have hlo : ∀ x ∈ l.take k, κ x < κ a := by
    intro x hx
    obtain ⟨i, hi, e⟩ := List.getElem_of_mem hx
    rw [List.length_take] at hi
    have e' : l[i]? = some x := by rw [← e]; simp
    have hne := hn x (List.mem_of_getElem? e')
    have hk : k - 1 < l.length := by omega
    have hle := h3 (k - 1) _ (by omega) (List.getElem?_eq_getElem hk)
    by_cases hik : i = k - 1
    · subst hik
      rw [List.getElem?_eq_getElem hk] at e'
      cases e'; omega
    · have := srt_get h e' (List.getElem?_eq_getElem hk) (by omega)
      omega
  have hhi : ∀ x ∈ l.drop k, κ a < κ x := by
    intro x hx
    obtain ⟨i, hi, e⟩ := List.getElem_of_mem hx
    rw [List.length_drop] at hi
    rw [List.getElem_drop] at e
    exact h2 (k + i) x (by omega) (by omega) (by rw [← e]; exact List.getElem?_eq_getElem (by omega))
  refine List.pairwise_append.2 ⟨h.sublist (List.take_sublist _ _), List.pairwise_cons.2 ⟨hhi, h.sublist (List.drop_sublist _ _)⟩, fun x hx y hy => ?_⟩
  rcases List.mem_cons.1 hy with rfl | hy
  · exact hlo x hx
  · have := hlo x hx; have := hhi y hy; omega
/-! ### Insertion of those that are not idle -/
def insF {α β : Type} (lt : α → α → Bool) (idle : β → Bool) (g : β → α) (o : List α) (l : List β) : List α := l.foldl (fun o x => if idle x then o else ins lt (g x) o) o
theorem insF_perm {α β : Type} (lt : α → α → Bool) (idle : β → Bool) (g : β → α) : ∀ (l : List β) (o : List α), (insF lt idle g o l).Perm ((l.filter (fun x => !idle x)).map g ++ o)
  | [], o => .refl _
  | x :: l, o => by
    show (insF lt idle g (if idle x then o else ins lt (g x) o) l).Perm _
    refine (insF_perm lt idle g l _).trans ?_
    by_cases h : idle x = true
    · simp only [h, if_true, List.filter_cons, Bool.not_true, Bool.false_eq_true, if_false]; exact .refl _
    · have h' : idle x = false := by simpa using h
      simp only [h', List.filter_cons, Bool.not_false, if_true, List.map_cons, Bool.false_eq_true, if_false]
      refine ((ins_perm lt (g x) o).append_left _).trans ?_
      exact List.perm_middle
theorem insF_srt {α β : Type} {κ : α → Nat} (idle : β → Bool) (g : β → α) : ∀ (l : List β) (o : List α), SrtK κ o → l.Pairwise (fun x y => κ (g x) ≠ κ (g y)) → (∀ x ∈ l, ∀ y ∈ o, κ y ≠ κ (g x)) → SrtK κ (insF (ltK κ) idle g o l)
  | [], o, h, _, _ => h
  | x :: l, o, h, hp, hd => by
    have hp' := List.pairwise_cons.1 hp
    show SrtK κ (insF (ltK κ) idle g (if idle x then o else ins (ltK κ) (g x) o) l)
    split
    · exact insF_srt idle g l o h hp'.2 (fun z hz => hd z (.tail _ hz))
    · refine insF_srt idle g l _ (ins_srt h (hd x (.head _))) hp'.2 (fun z hz y hy => ?_)
      rcases List.mem_cons.1 ((ins_perm _ _ _).mem_iff.1 hy) with rfl | hy
      · exact hp'.1 z hz
      · exact hd z (.tail _ hz) y hy
theorem insF_mem {α β : Type} (lt : α → α → Bool) (idle : β → Bool) (g : β → α) (l : List β) (y : α) : y ∈ insF lt idle g [] l ↔ ∃ x ∈ l, idle x = false ∧ g x = y := by
  rw [(insF_perm lt idle g l []).mem_iff, List.append_nil, List.mem_map]
  constructor
  · rintro ⟨x, hx, rfl⟩
    obtain ⟨h1, h2⟩ := List.mem_filter.1 hx
    exact ⟨x, h1, by simpa using h2, rfl⟩
  · rintro ⟨x, h1, h2, rfl⟩
    exact ⟨x, List.mem_filter.2 ⟨h1, by simp [h2]⟩, rfl⟩
/-! ### Putting -/
def fin1 {α : Type} (a : α) (st : List α × Bool) : List α := if st.2 = true then st.1 else st.1 ++ [a]
theorem put_true {α : Type} {κ : α → Nat} (ly : Bool) (a : α) : ∀ (l out : List α), l.foldl (putStep (ltK κ) (eqK κ) ly a) (out, true) = (out ++ l.filter (fun x => !eqK κ x a), true)
  | [], out => by simp
  | x :: l, out => by
    rw [List.foldl_cons]
    have e : putStep (ltK κ) (eqK κ) ly a (out, true) x = (if eqK κ x a then out else out ++ [x], true) := by
      unfold putStep
      simp
      split <;> rfl
    rw [e, put_true ly a l]
    by_cases h : eqK κ x a = true
    · simp [h]
    · simp [h]
theorem put_false {α : Type} {κ : α → Nat} (ly : Bool) (a : α) : ∀ (l out : List α), SrtK κ l → fin1 a (l.foldl (putStep (ltK κ) (eqK κ) ly a) (out, false)) = out ++ l.filter (fun x => ltK κ x a) ++ a :: l.filter (fun x => ltK κ a x)
  | [], out, _ => by simp [fin1]
  | x :: l, out, hs => by
    have hs' := List.pairwise_cons.1 hs
    rw [List.foldl_cons]
    by_cases h1 : κ a < κ x
    · have e : putStep (ltK κ) (eqK κ) ly a (out, false) x = (out ++ [a] ++ [x], true) := by
        unfold putStep
        simp [ltK, eqK, h1, show ¬ κ x = κ a by omega]
      rw [e, put_true]
      have f1 : ∀ y ∈ l, κ a < κ y := fun y hy => by have := hs'.1 y hy; omega
      have e1 : l.filter (fun x => !eqK κ x a) = l := List.filter_eq_self.2 fun y hy => by have := f1 y hy; simp [eqK]; omega
      have e2 : l.filter (fun x => ltK κ x a) = [] := List.filter_eq_nil_iff.2 fun y hy => by have := f1 y hy; simp [ltK]; omega
      have e3 : l.filter (fun x => ltK κ a x) = l := List.filter_eq_self.2 fun y hy => by have := f1 y hy; simp [ltK]; omega
      simp only [List.filter_cons, e1, e2, e3]
      have g1 : ltK κ x a = false := by simp [ltK]; omega
      have g2 : ltK κ a x = true := by simp [ltK]; omega
      simp [fin1, g1, g2]
    · by_cases h2 : κ x = κ a
      · have f1 : ∀ y ∈ l, κ a < κ y := fun y hy => by have := hs'.1 y hy; omega
        have e1 : l.filter (fun x => !eqK κ x a) = l := List.filter_eq_self.2 fun y hy => by have := f1 y hy; simp [eqK]; omega
        have e2 : l.filter (fun x => ltK κ x a) = [] := List.filter_eq_nil_iff.2 fun y hy => by have := f1 y hy; simp [ltK]; omega
        have e3 : l.filter (fun x => ltK κ a x) = l := List.filter_eq_self.2 fun y hy => by have := f1 y hy; simp [ltK]; omega
        have g1 : ltK κ x a = false := by simp [ltK]; omega
        have g2 : ltK κ a x = false := by simp [ltK]; omega
        cases ly with
        | true =>
          have e : putStep (ltK κ) (eqK κ) true a (out, false) x = (out ++ [a], true) := by
            unfold putStep
            simp [g2, eqK, h2]
          rw [e, put_true, e1]
          simp [fin1, List.filter_cons, g1, g2, e2, e3]
        | false =>
          have e : putStep (ltK κ) (eqK κ) false a (out, false) x = (out, false) := by
            unfold putStep
            simp [g2, eqK, h2]
          rw [e, put_false false a l out hs'.2]
          simp [List.filter_cons, g1, g2]
      · have g1 : ltK κ x a = true := by simp [ltK]; omega
        have g2 : ltK κ a x = false := by simp [ltK]; omega
        have e : putStep (ltK κ) (eqK κ) ly a (out, false) x = (out ++ [x], false) := by
          unfold putStep
          simp [g2, eqK, h2]
        rw [e, put_false ly a l _ hs'.2]
        simp [List.filter_cons, g1, g2]
theorem putL_eq {α : Type} {κ : α → Nat} (ly laid : Bool) (a : α) (l : List α) (hs : SrtK κ l) : putL (ltK κ) (eqK κ) ly laid a l = if laid then l.filter (fun x => !eqK κ x a) else l.filter (fun x => ltK κ x a) ++ a :: l.filter (fun x => ltK κ a x) := by
  cases laid with
  | true => unfold putL putS; rw [put_true]; simp
  | false =>
    have := put_false (κ := κ) ly a l [] hs
    unfold fin1 at this
    unfold putL putS
    rw [this]; simp
theorem putL_srtK {α : Type} {κ : α → Nat} (ly laid : Bool) (a : α) (l : List α) (hs : SrtK κ l) : SrtK κ (putL (ltK κ) (eqK κ) ly laid a l) := by
  rw [putL_eq ly laid a l hs]
  split
  · exact hs.sublist List.filter_sublist
  · refine List.pairwise_append.2 ⟨hs.sublist List.filter_sublist, List.pairwise_cons.2 ⟨fun y hy => ?_, hs.sublist List.filter_sublist⟩, fun x hx y hy => ?_⟩
    · have := (List.mem_filter.1 hy).2; simpa [ltK] using this
    · have h1 := (List.mem_filter.1 hx).2
      simp only [ltK, decide_eq_true_eq] at h1
      rcases List.mem_cons.1 hy with rfl | hy
      · exact h1
      · have h2 := (List.mem_filter.1 hy).2
        simp only [ltK, decide_eq_true_eq] at h2; omega
theorem putL_memK {α : Type} {κ : α → Nat} (ly laid : Bool) (a : α) (l : List α) (hs : SrtK κ l) (y : α) : y ∈ putL (ltK κ) (eqK κ) ly laid a l ↔ (y ∈ l ∧ κ y ≠ κ a) ∨ (laid = false ∧ y = a) := by
  rw [putL_eq ly laid a l hs]
  cases laid with
  | true => simp [eqK, List.mem_filter]
  | false =>
    simp only [Bool.false_eq_true, if_false, List.mem_append, List.mem_cons, List.mem_filter, ltK, decide_eq_true_eq, true_and]
    constructor
    · rintro (⟨h1, h2⟩ | rfl | ⟨h1, h2⟩)
      · exact .inl ⟨h1, by omega⟩
      · exact .inr rfl
      · exact .inl ⟨h1, by omega⟩
    · rintro (⟨h1, h2⟩ | rfl)
      · rcases Nat.lt_or_gt_of_ne h2 with h | h
        · exact .inl ⟨h1, h⟩
        · exact .inr (.inr ⟨h1, h⟩)
      · exact .inr (.inl rfl)
theorem putsL_spec {α : Type} {κ : α → Nat} (idle : α → Bool) : ∀ (l o : List α), SrtK κ o → l.Pairwise (fun x y => κ x ≠ κ y) → (∀ x ∈ l, ∀ y ∈ o, κ y ≠ κ x) →
    SrtK κ (l.foldl (fun o a => putL (ltK κ) (eqK κ) true (idle a) a o) o) ∧ ∀ y, y ∈ l.foldl (fun o a => putL (ltK κ) (eqK κ) true (idle a) a o) o ↔ y ∈ o ∨ (y ∈ l ∧ idle y = false)
  | [], o, h, _, _ => ⟨h, fun y => by simp⟩
  | x :: l, o, h, hp, hd => by
    have hp' := List.pairwise_cons.1 hp
    obtain ⟨h1, h2⟩ := putsL_spec idle l (putL (ltK κ) (eqK κ) true (idle x) x o) (putL_srtK _ _ _ _ h) hp'.2 (fun z hz y hy => by
      rcases (putL_memK _ _ _ _ h y).1 hy with ⟨hy, _⟩ | ⟨_, rfl⟩
      · exact hd z (.tail _ hz) y hy
      · exact hp'.1 z hz)
    refine ⟨h1, fun y => ?_⟩
    rw [List.foldl_cons, h2 y, putL_memK _ _ _ _ h]
    constructor
    · rintro ((⟨h3, _⟩ | ⟨h3, rfl⟩) | ⟨h3, h4⟩)
      · exact .inl h3
      · exact .inr ⟨.head _, h3⟩
      · exact .inr ⟨.tail _ h3, h4⟩
    · rintro (h3 | ⟨h3, h4⟩)
      · exact .inl (.inl ⟨h3, hd x (.head _) y h3⟩)
      · rcases List.mem_cons.1 h3 with rfl | h3
        · exact .inl (.inr ⟨h4, rfl⟩)
        · exact .inr ⟨h3, h4⟩
end Go.Proofs.YgvatwGreat
