/-  
  CONTRACTS 53: smodel: setters of accounts
-/
import Derived.Test.YgvatwGreatC52
namespace Go.Proofs.YgvatwGreat
open Go Go.RowKit
set_option linter.unusedVariables false
set_option linter.unusedSimpArgs false


theorem CX.mono {f : Nat} {args : List Value} {w : World} {R R' : Value → World → Prop} (h : CX f args w R) (hr : ∀ v w', R v w' → R' v w') : CX f args w R' :=
  Calls.mono h fun e w' ⟨v, h1, h2⟩ => ⟨v, h1, hr v w' h2⟩
section
variable {N : Nat} {ops : Array Oper} {X : List Nat} {K : World → Env → Hp → Prop} {wb : World} {E : Env} {H : Hp} {r : List (Bool × Bool × Oper)} {ns : Bool}
  {d ty : Nat} {pos : String} {af : Array Edge} {g : Option (Nat × Bool)}
/-- A call that changes block b of the base. -/
theorem r_callB {f b : Nat} {args : Array Operand} {ats : Array TypeId} {vs : List Value} {fn : Func} {R : Value → World → Prop} (hf : Hvat.prog.funcs[f]? = some fn) (hb : hasBody fn = true)
    (hvs : args.toList.mapM (ev E) = some vs) (hns : ns = false) (hbk : b ∉ keys H)
    (hg : gd ops E ⟨some d, .call { callee := .value (.func f), args := args, argTypes := ats }, ty, pos, af, g⟩ = some true) (hN : Nat.blt d N = true)
    (hc : ∀ w1, Good wb H w1 → CX f vs w1 (fun v w2 => (∀ t' c', Stp w1 [(b, t', c')] w2) ∧ R v w2))
    (h : ∀ v w2, R v w2 → (∀ t' c', Stp wb ((b, t', c') :: H) w2) → Good w2 H w2 → WR N ops X r K w2 ((d, v) :: E) H) :
    WR N ops X ((false, ns, ⟨some d, .call { callee := .value (.func f), args := args, argTypes := ats }, ty, pos, af, g⟩) :: r) K wb E H := by
  subst hns
  refine r_call hf (body_of hb) hvs hg hN fun w1 hG => ?_
  refine Calls.mono (hc w1 hG) ?_
  rintro e w2 ⟨v, rfl, hS, hR⟩
  have hg2 : Good w2 H w2 := ⟨rfl, rfl, rfl, Nat.le_refl _, fun _ _ _ => rfl, fun e he => (hS 0 []).own (hG.own e he) (fun hm => hbk (by
    have : e.1 = b := by simpa [keys] using hm
    rw [← this]; exact List.mem_map.2 ⟨e, he, rfl⟩)), hG.nodup⟩
  refine ⟨v, w2, H, rfl, hg2, fun h => (by cases h), h v w2 hR (fun t' c' => ?_) hg2⟩
  exact (hG.stp.more (H' := (b, t', c') :: H) (fun k hk => List.mem_cons_of_mem _ hk)).chain (hS t' c') (fun k hk => .inl (by
    have : k = b := by simpa [keys] using hk
    rw [this]; exact List.mem_cons_self ..))
end
theorem Stp.dropn {wb w' : World} {x : Nat × TypeId × List Value} {H : Hp} (h : Stp wb (x :: H) w') (hx : wb.heap.size ≤ x.1) : Stp wb H w' :=
  ⟨h.os, h.tape, h.output, h.size, fun b hb hn => h.blk b hb (fun hm => by
    rcases List.mem_cons.1 hm with hm | hm
    · have : b = x.1 := hm
      omega
    · exact hn hm)⟩
theorem StAt.an {w w' : World} {b : Nat} {S : LState} {H : Hp} (h : StAt w b S) (hs : Stp w H w') (hb : b ∉ keys H) (hn : ∀ t, sT.contains t = true → Nk w t H) : StAt w' b S := ⟨hs.own h.o hb, h.r.tr hs hn⟩
theorem StAt.up {w w' : World} {b : Nat} {S : LState} (h : StAt w b S) (hx : Below w.heap.size w w') : StAt w' b S := ⟨h.o.below hx h.o.lt, h.r.up hx⟩
theorem nk_outS {wb : World} {H : Hp} (hy : TyH wb H) (ho : tyOut sT H = true) : ∀ t, sT.contains t = true → Nk wb t H := fun t ht => .ty hy (tyOut_not ht ho)
theorem putStep_mem {α : Type} {lt eq : α → α → Bool} {ly : Bool} {a x y : α} {st : List α × Bool} (h : y ∈ (putStep lt eq ly a st x).1) : y = a ∨ y = x ∨ y ∈ st.1 := by
  obtain ⟨o, ld⟩ := st
  unfold putStep at h
  simp only at h
  split at h <;> split at h <;> (try split at h) <;> simp only [List.mem_append, List.mem_singleton] at h
  all_goals first
    | exact .inr (.inr h)
    | exact h.elim (fun h => .inr (.inr h)) .inl
    | exact h.elim (fun h => .inr (.inr h)) (fun h => .inr (.inl h))
    | exact h.elim (fun h => h.elim (fun h => .inr (.inr h)) .inl) (fun h => .inr (.inl h))
    | exact h.elim (fun h => h.elim (fun h => .inr (.inr h)) .inl) .inl
theorem putL_mem {α : Type} {lt eq : α → α → Bool} {ly ld : Bool} {a y : α} {l : List α} (h : y ∈ putL lt eq ly ld a l) : y = a ∨ y ∈ l := by
  have h0 : ∀ (l : List α) (st : List α × Bool), y ∈ (l.foldl (putStep lt eq ly a) st).1 → y = a ∨ y ∈ l ∨ y ∈ st.1 := by
    intro l
    induction l with
    | nil => intro st h; exact .inr (.inr h)
    | cons x l ih =>
      intro st h
      rcases ih _ h with h | h | h
      · exact .inl h
      · exact .inr (.inl (List.mem_cons_of_mem _ h))
      · rcases putStep_mem h with h | h | h
        · exact .inl h
        · exact .inr (.inl (by rw [h]; exact List.mem_cons_self ..))
        · exact .inr (.inr h)
  unfold putL putS at h
  split at h
  · rcases h0 l _ h with h | h | h
    · exact .inl h
    · exact .inr h
    · cases h
  · rcases List.mem_append.1 h with h | h
    · rcases h0 l _ h with h | h | h
      · exact .inl h
      · exact .inr h
      · cases h
    · simp only [List.mem_singleton] at h; exact .inl h
theorem putL_len {α : Type} (lt eq : α → α → Bool) (ly ld : Bool) (a : α) (l : List α) : (putL lt eq ly ld a l).length ≤ l.length + 2 := by
  have := putS_len lt eq ly ld a l
  unfold putL; split
  · omega
  · rw [List.length_append, List.length_singleton]; omega
theorem putS_map {α β : Type} (f : α → β) {lt eq : α → α → Bool} {lt' eq' : β → β → Bool} (h1 : ∀ x y, lt x y = lt' (f x) (f y)) (h2 : ∀ x y, eq x y = eq' (f x) (f y)) (ly ld : Bool) (a : α) (l : List α) :
    ((putS lt eq ly ld a l).1.map f, (putS lt eq ly ld a l).2) = putS lt' eq' ly ld (f a) (l.map f) := by
  have h0 : ∀ (l : List α) (st : List α × Bool), ((l.foldl (putStep lt eq ly a) st).1.map f, (l.foldl (putStep lt eq ly a) st).2) = (l.map f).foldl (putStep lt' eq' ly (f a)) (st.1.map f, st.2) := by
    intro l
    induction l with
    | nil => intro st; rfl
    | cons x l ih =>
      intro st
      simp only [List.foldl_cons, List.map_cons, ih]
      congr 1
      obtain ⟨o, ld⟩ := st
      unfold putStep
      simp only [← h1, ← h2]
      split <;> split <;> (try split) <;> simp_all
  exact h0 l ([], ld)
theorem putL_map {α β : Type} (f : α → β) {lt eq : α → α → Bool} {lt' eq' : β → β → Bool} (h1 : ∀ x y, lt x y = lt' (f x) (f y)) (h2 : ∀ x y, eq x y = eq' (f x) (f y)) (ly ld : Bool) (a : α) (l : List α) :
    (putL lt eq ly ld a l).map f = putL lt' eq' ly ld (f a) (l.map f) := by
  have h := putS_map f h1 h2 ly ld a l
  have e1 : (putS lt' eq' ly ld (f a) (l.map f)).1 = (putS lt eq ly ld a l).1.map f := by rw [← h]
  have e2 : (putS lt' eq' ly ld (f a) (l.map f)).2 = (putS lt eq ly ld a l).2 := by rw [← h]
  unfold putL
  rw [e1, e2]
  split <;> simp
def aEq (x y : Acct) : Bool := decide (x.addr = y.addr)
def findMA (l : List Acct) (a : A160) : Acct := match l.find? (fun x => decide (x.addr = a)) with
  | some x => x
  | none => newAcct a
theorem findLA_m (l : List LAcct) (a : A160) : (findLA l a).m = findMA (l.map (·.m)) a := by
  unfold findLA findMA
  rw [List.find?_map]
  cases h : l.find? ((fun x : Acct => decide (x.addr = a)) ∘ fun x : LAcct => x.m) with
  | none => rw [show l.find? (fun x => decide (x.m.addr = a)) = none from h]; rfl
  | some x => rw [show l.find? (fun x => decide (x.m.addr = a)) = some x from h]; rfl
theorem findLA_code {w : World} {l : List LAcct} {a : A160} (h : ∀ x ∈ l, CodeR w x.hd x.m.code ∧ (oB x.m.code).length ≤ 140737488355328) : CodeR w (findLA l a).hd (findLA l a).m.code ∧ (oB (findLA l a).m.code).length ≤ 140737488355328 := by
  unfold findLA
  split
  · rename_i x hx
    exact h x (List.mem_of_find?_eq_some hx)
  · exact ⟨.inl ⟨rfl, rfl⟩, by simp [newAcct, oB]⟩
def MFace.setA (F : MFace) (x : Acct) : MFace := { F with accts := putL aLt aEq true (idleA x) x F.accts }
def MState.putA (m : MState) (a : A160) (f : Acct → Acct) : MState := { m.remember with now := m.now.setA (f (findMA m.now.accts a)) }

end Go.Proofs.YgvatwGreat
