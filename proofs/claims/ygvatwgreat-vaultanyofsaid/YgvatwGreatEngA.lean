/-
  ENGINE, PART A: a region that draws its order, brought to one or a few fixed orders ('plans').
-/
import Derived.Test.YgvatwGreatRows
import Derived.Orders
namespace Go.Proofs.YgvatwGreat
open Go
set_option linter.unusedVariables false
set_option linter.unusedSimpArgs false

/-- Every block that stands, but those in X, is as it was. -/
def KeepX (X : List Nat) (w w' : World) : Prop :=
  w.heap.size ≤ w'.heap.size ∧ ∀ b, b < w.heap.size → b ∉ X → w'.heap[b]? = w.heap[b]?

theorem KeepX.refl (X : List Nat) (w : World) : KeepX X w w := ⟨Nat.le_refl _, fun _ _ _ => rfl⟩

theorem KeepX.trans {X : List Nat} {a b c : World} (h : KeepX X a b) (k : KeepX X b c) : KeepX X a c :=
  ⟨Nat.le_trans h.1 k.1, fun i hi hx => (k.2 i (Nat.lt_of_lt_of_le hi h.1) hx).trans (h.2 i hi hx)⟩

def isLoadOp : Op → Bool
  | .load _ _ => true
  | .convert _ _ _ => true
  | _ => false

def isLoadAt (ops : Array Oper) (i : Nat) : Bool :=
  match ops[i]? with
  | some o => isLoadOp o.op
  | none => false

def directOf (ops : Array Oper) (j l : Nat) : Bool :=
  match ops[j]? with
  | some o => o.after.any fun e => Region.binds .any e && e.on == l
  | none => false

def ancOf (ops : Array Oper) : Nat → Nat → Nat → Bool
  | 0, j, l => directOf ops j l
  | n + 1, j, l => directOf ops j l || (match ops[j]? with
      | some o => o.after.any fun e => Region.binds .any e && ancOf ops n e.on l
      | none => false)

/-- Operation j may come up while some load has not: it must keep what is loaded. -/
def needJ (ops : Array Oper) (j : Nat) : Bool :=
  (List.range ops.size).any fun l => isLoadAt ops l && l != j && !ancOf ops 4 j l

def Downed (ops : Array Oper) (listed : Array Bool) : Prop :=
  ∀ (k : Nat) (o : Oper), ops[k]? = some o → listed.getD k false = true → ∀ e ∈ o.after, Region.binds .any e = true → listed.getD e.on false = true

theorem anc_listed {ops : Array Oper} {listed : Array Bool} (hd : Downed ops listed) : ∀ (n j l : Nat) (o : Oper), ops[j]? = some o →
    (∀ e ∈ o.after, Region.binds .any e = true → listed.getD e.on false = true) → ancOf ops n j l = true → listed.getD l false = true := by
  intro n
  induction n with
  | zero =>
    intro j l o ho hp h
    simp only [ancOf, directOf, ho] at h
    rw [Array.any_eq_true'] at h
    obtain ⟨e, he, hb⟩ := h
    simp only [Bool.and_eq_true, beq_iff_eq] at hb
    rw [← hb.2]; exact hp e he hb.1
  | succ n ih =>
    intro j l o ho hp h
    simp only [ancOf, directOf, ho, Bool.or_eq_true] at h
    rcases h with h | h
    · rw [Array.any_eq_true'] at h
      obtain ⟨e, he, hb⟩ := h
      simp only [Bool.and_eq_true, beq_iff_eq] at hb
      rw [← hb.2]; exact hp e he hb.1
    · rw [Array.any_eq_true'] at h
      obtain ⟨e, he, hb⟩ := h
      simp only [Bool.and_eq_true] at hb
      have hl := hp e he hb.1
      cases hk : ops[e.on]? with
      | none =>
        have := hb.2
        cases n with
        | zero => simp [ancOf, directOf, hk] at this
        | succ n => simp [ancOf, directOf, hk] at this
      | some o' => exact ih e.on l o' hk (fun e' he' hb' => hd e.on o' hk hl e' he' hb') hb.2

section
variable {P : Program} {ops : Array Oper} {Q : Exit → Act → World → Prop}

/-- In state 'a' the operation leaves 'v' in every world of S, and changes none. -/
def QuietIn (P : Program) (ops : Array Oper) (S : World → Prop) (o : Oper) (v : Value) (a : Act) : Prop :=
  (Region.wanted o (yielded ops a.tmps) = true ∧ ∀ w, S w → (execOp a.eval o).run P w = .ok (.value v) w) ∨
  (Region.wanted o (yielded ops a.tmps) = false ∧ v = undef)

theorem quiet_wpOp {S : World → Prop} {i : Nat} {o : Oper} {v : Value} {a : Act} (hi : ops[i]? = some o) (hy : QuietIn P ops S o v a)
    {K : Act → World → Prop} {w : World} (hS : S w) (h : K (a.put o.dst v) w) : wpOp P ops Q i K a w := by
  rcases hy with ⟨hw, hv⟩ | ⟨hw, rfl⟩
  · unfold wpOp
    simp only [hi, hw, if_true]
    refine .inl ?_
    unfold Oper.wp
    rw [hv w hS]
    exact h
  · unfold wpOp
    simp only [hi, hw, Bool.false_eq_true, if_false]
    exact h

/-- A fact on the frame that operation j does not touch goes along with it, and so does a value that lies ready in a temporary that j does not look at. -/
theorem wpOp_along {Y : Act → Prop} {j : Nat} {oi oj : Oper} {v : Value} (hj : ops[j]? = some oj) (hap : oi.apart ops oj = true)
    (hsj : ∀ cs b, oj.op ≠ .select cs b) (hY : ∀ a u, Y a → Y (a.put oj.dst u)) (hD : ∀ a d, Y a → Y { a with defers := d :: a.defers })
    (hQ : ∀ c a w, Q (.panic c) (a.put oi.dst v) w → Q (.panic c) a w) {K : Act → World → Prop} {a : Act} {w : World}
    (hy : Y a) (h : wpOp P ops Q j K (a.put oi.dst v) w) :
    wpOp P ops Q j (fun a' w' => Y a' ∧ K (a'.put oi.dst v) w') a w := by
  obtain ⟨h1, h2, h3⟩ := Oper.apart_spec hap
  have ex := execOp_put (ops := ops) oj hsj a oi.dst v h1
  have wa := wanted_put (ops := ops) oj a oi.dst v h1
  unfold wpOp at h ⊢
  simp only [hj] at h ⊢
  rw [wa] at h
  by_cases hw : Region.wanted oj (yielded ops a.tmps) = true
  · simp only [hw, if_true] at h ⊢
    rcases h with h | ⟨hasks, hlets⟩
    · refine .inl ?_
      unfold Oper.wp at h ⊢
      rw [ex] at h
      generalize (execOp a.eval oj).run P w = r at h ⊢
      cases r with
      | ok n w' =>
        cases n with
        | value u =>
          refine ⟨hY _ _ hy, ?_⟩
          have := Act.put_comm a v u h2
          simp only [Oper.upon] at h
          rw [← this]; exact h
        | skip =>
          refine ⟨hY _ _ hy, ?_⟩
          have := Act.put_comm a v undef h2
          simp only [Oper.upon] at h
          rw [← this]; exact h
        | defer d =>
          refine ⟨hY _ _ (hD _ _ hy), ?_⟩
          simp only [Oper.upon] at h
          rw [← Act.put_comm _ v undef h2, ← Act.put_defers]
          exact h
        | enter f args =>
          simp only [Oper.upon] at h ⊢
          refine Calls.mono h fun e w'' he => ?_
          cases e with
          | returned u => exact ⟨hY _ _ hy, by rw [← Act.put_comm a v u h2]; exact he⟩
          | panicked c => exact hQ _ _ _ he
          | outgrown => exact he
        | row row args =>
          simp only [Oper.upon] at h ⊢
          exact Rows.mono h fun u w'' he => ⟨hY _ _ hy, by rw [← Act.put_comm a v u h2]; exact he⟩
        | _ => exact h
      | halt x w' =>
        cases x with
        | panic u => exact hQ _ _ _ h
        | _ => exact h
    · refine .inr ⟨?_, hlets⟩
      unfold Oper.asks at hasks ⊢
      rw [ex] at hasks; exact hasks
  · simp only [hw] at h ⊢
    exact ⟨hY _ _ hy, by rw [← Act.put_comm a v undef h2]; exact h⟩
end

def wpAnyK (P : Program) (X : List Nat) (ops : Array Oper) (Q : Exit → Act → World → Prop) : Nat → Array Bool → Act → World → Prop
  | 0, listed, a, w => Region.ready .any ops listed = [] ∧ Q .normal a w
  | fuel + 1, listed, a, w =>
    (Region.ready .any ops listed = [] → Q .normal a w) ∧
    ∀ i ∈ Region.ready .any ops listed, wpOp P ops Q i (fun a' w' => (needJ ops i = true → KeepX X w w') ∧ wpAnyK P X ops Q fuel (listed.setIfInBounds i true) a' w') a w

section
variable {P : Program} {X : List Nat} {ops : Array Oper} {Q : Exit → Act → World → Prop}

theorem wpAny_of_keep : ∀ (fuel : Nat) (listed : Array Bool) (a : Act) (w : World), wpAnyK P X ops Q fuel listed a w → wpAny P .any ops Q fuel listed a w
  | 0, _, _, _, h => h
  | fuel + 1, _, _, _, h => ⟨h.1, fun i hi => wpOp_mono (fun a' w' h' => wpAny_of_keep fuel _ a' w' h'.2) (h.2 i hi)⟩

def SX (X : List Nat) (b : Bool) (w : World) : World → Prop := fun w' => b = true → KeepX X w w'

theorem yieldsIf_mono {S S' : World → Prop} {o : Oper} {v : Value} {a : Act} (h : QuietIn P ops S o v a) (hs : ∀ w, S' w → S w) : QuietIn P ops S' o v a :=
  match h with
  | .inl ⟨hw, hv⟩ => .inl ⟨hw, fun w hw' => hv w (hs w hw')⟩
  | .inr h => .inr h

theorem Downed.ready {listed : Array Bool} (hd : Downed ops listed) {i : Nat} (hi : i ∈ Region.ready .any ops listed) :
    Downed ops (listed.setIfInBounds i true) := by
  obtain ⟨_, oi, hoi, hall⟩ := mem_ready.1 hi
  intro k o hk hl e he hb
  have mono : ∀ m, listed.getD m false = true → (listed.setIfInBounds i true).getD m false = true := by
    intro m hm
    by_cases him : i = m
    · subst him
      rcases Nat.lt_or_ge i listed.size with h' | h'
      · simp [h']
      · simp [Array.getElem?_eq_none h'] at hm
    · rw [getD_set_ne false him]; exact hm
  by_cases hik : i = k
  · subst hik
    rw [hoi] at hk; cases hk
    exact mono _ (hall e he hb)
  · rw [getD_set_ne false hik] at hl
    exact mono _ (hd k o hk hl e he hb)

theorem wpAnyK_first {i : Nat} {oi : Oper} {v : Value} (hi : ops[i]? = some oi) (hsel : ∀ (j : Nat) (o : Oper) cs b, ops[j]? = some o → o.op ≠ .select cs b)
    (hQ : ∀ c a w, Q (.panic c) (a.put oi.dst v) w → Q (.panic c) a w) :
    ∀ (fuel : Nat) (listed : Array Bool) (a : Act) (w : World), Downed ops listed →
      (∀ j oj, ops[j]? = some oj → j ≠ i → listed.getD j true = false → (∀ e ∈ oj.after, Region.binds .any e = true → e.on ≠ i) → oi.apart ops oj = true) →
      i ∈ Region.ready .any ops listed → QuietIn P ops (SX X (isLoadOp oi.op) w) oi v a →
      wpAnyK P X ops Q fuel (listed.setIfInBounds i true) (a.put oi.dst v) w → wpAnyK P X ops Q (fuel + 1) listed a w := by
  intro fuel
  induction fuel with
  | zero =>
    intro listed a w hd _ hr hy H
    refine ⟨fun h => (by rw [h] at hr; cases hr), fun j hj => ?_⟩
    by_cases hji : j = i
    · subst hji; exact quiet_wpOp hi hy (fun _ => KeepX.refl _ _) ⟨fun _ => KeepX.refl _ _, H⟩
    · have := ready_mono hj hji
      rw [H.1] at this
      cases this
  | succ fuel ih =>
    intro listed a w hd hfree hr hy H
    refine ⟨fun h => (by rw [h] at hr; cases hr), fun j hj => ?_⟩
    by_cases hji : j = i
    · subst hji; exact quiet_wpOp hi hy (fun _ => KeepX.refl _ _) ⟨fun _ => KeepX.refl _ _, H⟩
    · have h1 := H.2 j (ready_mono hj hji)
      obtain ⟨hjun, oj, hoj, hall⟩ := mem_ready.1 hj
      have hiun : listed.getD i false ≠ true := by
        intro h0
        have h1 := (mem_ready.1 hr).1
        rcases Nat.lt_or_ge i listed.size with h' | h'
        · simp [h'] at h0 h1; rw [h0] at h1; cases h1
        · simp [Array.getElem?_eq_none h'] at h0
      have hnot : ∀ e ∈ oj.after, Region.binds .any e = true → e.on ≠ i := fun e he hb heq => by
        have h1 := hall e he hb
        rw [heq] at h1
        exact hiun h1
      have hap := hfree j oj hoj hji hjun hnot
      have h3' := (Oper.apart_spec hap).2.2
      have h2 := wpOp_along (Y := fun a => QuietIn P ops (SX X (isLoadOp oi.op) w) oi v a) hoj hap (fun cs b => hsel j oj cs b hoj)
        (fun a u hq => by
          have e1 := execOp_put (ops := ops) oi (fun cs b => hsel i oi cs b hi) a oj.dst u h3'
          have e2 := wanted_put (ops := ops) oi a oj.dst u h3'
          unfold QuietIn at hq ⊢
          rw [e1, e2]; exact hq) (fun a d hq => hq) hQ hy h1
      have hfree' : ∀ k ok, ops[k]? = some ok → k ≠ i → (listed.setIfInBounds j true).getD k true = false →
          (∀ e ∈ ok.after, Region.binds .any e = true → e.on ≠ i) → oi.apart ops ok = true := fun k ok hk hki hun hno => by
        refine hfree k ok hk hki ?_ hno
        by_cases hjk : j = k
        · subst hjk; exact hjun
        · rw [getD_set_ne true hjk] at hun; exact hun
      have hneed : isLoadOp oi.op = true → needJ ops j = true := fun hl => by
        unfold needJ
        rw [List.any_eq_true]
        refine ⟨i, ?_, ?_⟩
        · rw [List.mem_range]
          exact (Array.getElem?_eq_some_iff.1 hi).1
        · simp only [isLoadAt, hi, hl, Bool.true_and, Bool.and_eq_true, bne_iff_ne, ne_eq, Bool.not_eq_true']
          refine ⟨fun h => hji h.symm, ?_⟩
          cases hanc : ancOf ops 4 j i with
          | false => rfl
          | true => exact absurd (anc_listed hd 4 j i oj hoj hall hanc) hiun
      refine wpOp_mono (fun a' w' h3 => ⟨h3.2.1, ih (listed.setIfInBounds j true) a' w' (hd.ready hj) hfree' (ready_mono hr (Ne.symm hji)) ?_ ?_⟩) h2
      · refine yieldsIf_mono h3.1 (fun w'' hs hl => ?_)
        exact (h3.2.1 (hneed hl)).trans (hs hl)
      · rw [Array.setIfInBounds_comm _ _ hji]
        exact h3.2.2

theorem wpAnyK_take {i : Nat} {oi : Oper} {v : Value} {fuel : Nat} {listed : Array Bool} {a : Act} {w : World} (hi : ops[i]? = some oi)
    (hs : Region.noSelect ops = true) (hd : Downed ops listed) (hf : Region.free .any ops listed i = true) (hr : (Region.ready .any ops listed).contains i = true)
    (hQ : ∀ c a w, Q (.panic c) (a.put oi.dst v) w → Q (.panic c) a w) (hy : QuietIn P ops (SX X (isLoadOp oi.op) w) oi v a)
    (h : wpAnyK P X ops Q fuel (listed.setIfInBounds i true) (a.put oi.dst v) w) : wpAnyK P X ops Q (fuel + 1) listed a w :=
  wpAnyK_first hi (Region.noSelect_spec hs) hQ fuel listed a w hd (Region.free_spec hi hf) (by simpa using hr) hy h
end

/-! ### Plans -/

/-- One step of a plan: does it only yield a value ('quiet')? must it keep what is loaded? and its number. -/
structure PStep where
  q : Bool
  ns : Bool
  i : Nat

/-- The run along a fixed list of operations. -/
def wpF (P : Program) (X : List Nat) (ops : Array Oper) (K : Act → World → Prop) : List (Bool × Bool × Oper) → Act → World → Prop
  | [], a, w => K a w
  | (q, ns, o) :: r, a, w =>
    if Region.wanted o (yielded ops a.tmps) = true then
      (if q = true then ∃ v, (∀ w', (isLoadOp o.op = true → KeepX X w w') → (execOp a.eval o).run P w' = .ok (.value v) w') ∧ wpF P X ops K r (a.put o.dst v) w
       else o.wp P a w (fun a' w' => (ns = true → KeepX X w w') ∧ wpF P X ops K r a' w') (fun e a w => e = .normal ∧ K a w))
    else wpF P X ops K r (a.put o.dst undef) w

def stepsOf (ops : Array Oper) (p : List PStep) : List (Bool × Bool × Oper) := p.map fun s => (s.q, s.ns, ops.getD s.i default)

def headsOf (ps : List (List PStep)) : List PStep := ps.filterMap (·.head?)

def tailsOf (j : Nat) (ps : List (List PStep)) : List (List PStep) :=
  (ps.filter fun p => match p.head? with | some s => s.i == j | none => false).map (·.tail)

/-- The run along several lists that part where the order is open. -/
def wpT (P : Program) (X : List Nat) (ops : Array Oper) (K : Act → World → Prop) : Nat → List (List PStep) → Act → World → Prop
  | 0, _, a, w => K a w
  | n + 1, ps, a, w =>
    match headsOf ps with
    | [] => K a w
    | s :: hs =>
      if s.q = true then
        (if Region.wanted (ops.getD s.i default) (yielded ops a.tmps) = true then
          ∃ v, (∀ w', (isLoadOp (ops.getD s.i default).op = true → KeepX X w w') → (execOp a.eval (ops.getD s.i default)).run P w' = .ok (.value v) w') ∧
            wpT P X ops K n (ps.map (·.tail)) (a.put (ops.getD s.i default).dst v) w
         else wpT P X ops K n (ps.map (·.tail)) (a.put (ops.getD s.i default).dst undef) w)
      else ∀ s' ∈ s :: hs,
        (if Region.wanted (ops.getD s'.i default) (yielded ops a.tmps) = true then
          (ops.getD s'.i default).wp P a w (fun a' w' => (s'.ns = true → KeepX X w w') ∧ wpT P X ops K n (tailsOf s'.i ps) a' w') (fun e a w => e = .normal ∧ K a w)
         else wpT P X ops K n (tailsOf s'.i ps) (a.put (ops.getD s'.i default).dst undef) w)

/-- Do the plans serve for every order? -/
def chkPlans (ops : Array Oper) : Nat → Array Bool → List (List PStep) → Bool
  | 0, listed, _ => (Region.ready .any ops listed).isEmpty
  | fuel + 1, listed, ps =>
    match headsOf ps with
    | [] => (Region.ready .any ops listed).isEmpty
    | s :: hs =>
      if s.q then
        decide (s.i < ops.size) && Region.free .any ops listed s.i && (Region.ready .any ops listed).contains s.i &&
          chkPlans ops fuel (listed.setIfInBounds s.i true) (ps.map (·.tail))
      else
        !(Region.ready .any ops listed).isEmpty &&
        (Region.ready .any ops listed).all fun j =>
          decide (j < ops.size) && (s :: hs).any (fun s' => s'.i == j && (s'.ns || !needJ ops j)) &&
          chkPlans ops fuel (listed.setIfInBounds j true) (tailsOf j ps)

theorem plans_sound {P : Program} {X : List Nat} {ops : Array Oper} {K : Act → World → Prop} (hs : Region.noSelect ops = true) :
    ∀ (fuel : Nat) (listed : Array Bool) (ps : List (List PStep)) (a : Act) (w : World), Downed ops listed → chkPlans ops fuel listed ps = true →
      wpT P X ops K fuel ps a w → wpAnyK P X ops (fun e a w => e = .normal ∧ K a w) fuel listed a w := by
  intro fuel
  induction fuel with
  | zero =>
    intro listed ps a w hd hc h
    simp only [chkPlans, List.isEmpty_iff] at hc
    exact ⟨hc, rfl, h⟩
  | succ fuel ih =>
    intro listed ps a w hd hc h
    cases hh : headsOf ps with
    | nil =>
      simp only [chkPlans, hh, List.isEmpty_iff] at hc
      simp only [wpT, hh] at h
      exact ⟨fun _ => ⟨rfl, h⟩, fun i hi => by rw [hc] at hi; cases hi⟩
    | cons s hs' =>
      simp only [chkPlans, hh] at hc
      simp only [wpT, hh] at h
      by_cases hq : s.q = true
      · simp only [hq, if_true] at hc h
        simp only [Bool.and_eq_true, decide_eq_true_eq] at hc
        obtain ⟨⟨⟨hlt, hf⟩, hrd⟩, hrest⟩ := hc
        have hoi : ops[s.i]? = some (ops.getD s.i default) := by simp [hlt]
        have hdn := hd.ready (i := s.i) (by simpa using hrd)
        by_cases hw : Region.wanted (ops.getD s.i default) (yielded ops a.tmps) = true
        · simp only [hw, if_true] at h
          obtain ⟨v, hv, hk⟩ := h
          exact wpAnyK_take hoi hs hd hf hrd (fun c a w h => by cases h.1) (.inl ⟨hw, hv⟩) (ih _ _ _ _ hdn hrest hk)
        · simp only [hw] at h
          exact wpAnyK_take hoi hs hd hf hrd (fun c a w h => by cases h.1) (.inr ⟨by simpa using hw, rfl⟩) (ih _ _ _ _ hdn hrest h)
      · simp only [hq] at hc h
        simp only [Bool.false_eq_true, if_false, Bool.and_eq_true, Bool.not_eq_true'] at hc
        obtain ⟨hne, hc⟩ := hc
        refine ⟨fun h0 => (by rw [h0] at hne; cases hne), fun j hj => ?_⟩
        have hcj := (List.all_eq_true.1 hc) j hj
        simp only [Bool.and_eq_true, decide_eq_true_eq] at hcj
        obtain ⟨⟨hlt, hany⟩, hcj⟩ := hcj
        have hoj : ops[j]? = some (ops.getD j default) := by simp [hlt]
        have hdj := hd.ready hj
        obtain ⟨s', hs'm, hs'2⟩ := List.any_eq_true.1 hany
        simp only [Bool.and_eq_true, beq_iff_eq, Bool.or_eq_true, Bool.not_eq_true'] at hs'2
        obtain ⟨hsj, hns⟩ := hs'2
        have hneed : needJ ops j = true → s'.ns = true := fun hn => by
          rcases hns with h' | h'
          · exact h'
          · rw [hn] at h'; cases h'
        have h' := h s' hs'm
        rw [hsj] at h'
        unfold wpOp
        simp only [hoj]
        by_cases hw : Region.wanted (ops.getD j default) (yielded ops a.tmps) = true
        · simp only [hw, if_true] at h' ⊢
          refine .inl (Oper.wp_mono (fun a' w' hx => ⟨fun hn => hx.1 (hneed hn), ih _ _ _ _ hdj hcj hx.2⟩) h')
        · simp only [hw] at h' ⊢
          exact ⟨fun _ => KeepX.refl _ _, ih _ _ _ _ hdj hcj h'⟩

theorem wpT_single {P : Program} {X : List Nat} {ops : Array Oper} {K : Act → World → Prop} :
    ∀ (p : List PStep) (n : Nat) (a : Act) (w : World), p.length ≤ n → wpF P X ops K (stepsOf ops p) a w → wpT P X ops K n [p] a w := by
  intro p
  induction p with
  | nil =>
    intro n a w _ h
    cases n with
    | zero => exact h
    | succ n => exact h
  | cons s p ih =>
    intro n a w hn h
    cases n with
    | zero => simp at hn
    | succ n =>
      have hn' : p.length ≤ n := by simpa using hn
      have ht : tailsOf s.i [s :: p] = [p] := by simp [tailsOf]
      simp only [wpT, headsOf, List.filterMap_cons, List.head?_cons, List.filterMap_nil, List.map_cons, List.map_nil, List.tail_cons]
      simp only [stepsOf, List.map_cons, wpF] at h
      by_cases hq : s.q = true
      · simp only [hq, if_true] at h ⊢
        by_cases hw : Region.wanted (ops.getD s.i default) (yielded ops a.tmps) = true
        · simp only [hw, if_true] at h ⊢
          obtain ⟨v, hv, hk⟩ := h
          exact ⟨v, hv, ih n _ _ hn' hk⟩
        · simp only [hw] at h ⊢
          exact ih n _ _ hn' h
      · simp only [hq, Bool.false_eq_true, if_false] at h ⊢
        intro s' hs'
        simp only [List.mem_singleton] at hs'
        subst hs'
        rw [ht]
        by_cases hw : Region.wanted (ops.getD s'.i default) (yielded ops a.tmps) = true
        · simp only [hw, if_true] at h ⊢
          exact Oper.wp_mono (fun a' w' hx => ⟨hx.1, ih n _ _ hn' hx.2⟩) h
        · simp only [hw] at h ⊢
          exact ih n _ _ hn' h

theorem downed_none (ops : Array Oper) (n : Nat) : Downed ops (Array.replicate n false) := by
  intro k o _ hl
  simp [Array.getElem?_replicate] at hl
  split at hl <;> simp at hl

/-- A region that draws. -/
theorem wp_draw {P : Program} {X : List Nat} {ops : Array Oper} {K : Act → World → Prop} {Q : Exit → Act → World → Prop} {id : Nat} {a : Act} {w : World}
    (hm : P.follows .mixedOrders = true) (hs : Region.noSelect ops = true) (ps : List (List PStep))
    (hc : chkPlans ops ops.size (Array.replicate ops.size false) ps = true)
    (h : wpT P X ops K ops.size ps a { w with drawn := w.drawn + 1 }) (hQ : ∀ a w, K a w → Q .normal a w) : (Code.region id ops true).wp P Q a w := by
  refine wp_mono (wp_region_any hm (wpAny_of_keep _ _ _ _ (plans_sound hs _ _ ps _ _ (downed_none ops _) hc h))) ?_
  rintro e a w ⟨rfl, hk⟩
  exact hQ a w hk

theorem wpF_ops {P : Program} {X : List Nat} {ops : Array Oper} {K : Act → World → Prop} {Q : Exit → Act → World → Prop} (hQ : ∀ a w, K a w → Q .normal a w)
    (fl : Oper → Bool) :
    ∀ (r : List Nat) (a : Act) (w : World), (∀ i ∈ r, i < ops.size) → wpF P X ops K (r.map fun i => (fl (ops.getD i default), false, ops.getD i default)) a w → wpOps P ops Q r a w := by
  intro r
  induction r with
  | nil => intro a w _ h; exact hQ _ _ h
  | cons i r ih =>
    intro a w hlt h
    have hi : ops[i]? = some (ops.getD i default) := by
      have := hlt i (List.mem_cons_self ..)
      simp [this]
    have ih' := fun a w => ih a w (fun j hj => hlt j (List.mem_cons_of_mem _ hj))
    simp only [wpOps, hi]
    simp only [List.map_cons, wpF] at h
    by_cases hw : Region.wanted (ops.getD i default) (yielded ops a.tmps) = true
    · simp only [hw, if_true] at h ⊢
      refine .inl ?_
      by_cases hq : fl (ops.getD i default) = true
      · simp only [hq, if_true] at h
        obtain ⟨v, hv, hk⟩ := h
        unfold Oper.wp
        rw [hv w (fun _ => KeepX.refl _ _)]
        exact ih' _ _ hk
      · simp only [hq, Bool.false_eq_true, if_false] at h
        have h1 := Oper.wp_mono (fun a' w' hx => ih' a' w' hx.2) h
        unfold Oper.wp at h1 ⊢
        generalize (execOp a.eval (ops.getD i default)).run P w = r' at h1 ⊢
        cases r' with
        | ok n w' =>
          cases n with
          | enter f args =>
            simp only [Oper.upon] at h1 ⊢
            refine Calls.mono h1 fun e w'' he => ?_
            cases e with
            | returned u => exact he
            | panicked c => cases he.1
            | outgrown => obtain ⟨_, _, hx⟩ := he; cases hx.1
          | _ => exact h1
        | halt x w' =>
          cases x with
          | panic u => cases h1.1
          | _ => exact h1
    · simp only [hw] at h ⊢
      exact ih' _ _ h

/-- A region in the text's order. -/
theorem wp_plain {P : Program} {X : List Nat} {ops : Array Oper} {K : Act → World → Prop} {Q : Exit → Act → World → Prop} {id : Nat} {a : Act} {w : World} (fl : Oper → Bool)
    (h : wpF P X ops K (ops.toList.map fun o => (fl o, false, o)) a w) (hQ : ∀ a w, K a w → Q .normal a w) : (Code.region id ops false).wp P Q a w := by
  refine wp_region (wpF_ops (X := X) hQ fl _ _ _ (fun i hi => List.mem_range.1 hi) ?_)
  have e : (List.range ops.size).map (fun i => (fl (ops.getD i default), false, ops.getD i default)) = ops.toList.map fun o => (fl o, false, o) := by
    apply List.ext_getElem
    · simp
    · intro n h1 h2
      simp at h1 h2
      simp [h1]
  rw [e]; exact h

theorem orMap {a b c d : Prop} (h : a ∨ b) (f : a → c) (g : b → d) : c ∨ d := by
  rcases h with h | h
  · exact .inl (f h)
  · exact .inr (g h)
theorem exMap {α : Type} {p q : α → Prop} (h : ∃ x, p x) (f : ∀ x, p x → q x) : ∃ x, q x := by
  obtain ⟨x, hx⟩ := h
  exact ⟨x, f x hx⟩
end Go.Proofs.YgvatwGreat
