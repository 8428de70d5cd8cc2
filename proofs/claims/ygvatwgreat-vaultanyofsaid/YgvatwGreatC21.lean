/-  
  CONTRACTS 21: functions that change memory.
-/
import Derived.Test.YgvatwGreatC20
namespace Go.Proofs.YgvatwGreat
open Go Go.RowKit
set_option linter.unusedVariables false
set_option linter.unusedSimpArgs false

theorem below_mono {B B' : Nat} {w w' : World} (h : Below B w w') (hb : B' ≤ B) : Below B' w w' := ⟨h.os, h.tape, h.output, h.size, fun k hk => h.block k (by omega)⟩
/-- What lies below B stays, and what is of no type of T. -/
structure Fr (B : Nat) (T : List Nat) (w w' : World) : Prop where
  low : Below B w w'
  keep : ∀ k t c, Own w k t c → T.contains t = false → Own w' k t c
theorem Fr.refl (B : Nat) (T : List Nat) (w : World) : Fr B T w w := ⟨Below.refl B w, fun _ _ _ h _ => h⟩
theorem below_trans {B : Nat} {w1 w2 w3 : World} (h1 : Below B w1 w2) (h2 : Below B w2 w3) : Below B w1 w3 :=
  ⟨h2.os.trans h1.os, h2.tape.trans h1.tape, h2.output.trans h1.output, Nat.le_trans h1.size h2.size, fun k hk => (h2.block k hk).trans (h1.block k hk)⟩
theorem Fr.trans {B : Nat} {T : List Nat} {w1 w2 w3 : World} (h1 : Fr B T w1 w2) (h2 : Fr B T w2 w3) : Fr B T w1 w3 :=
  ⟨below_trans h1.low h2.low, fun k t c ho ht => h2.keep k t c (h1.keep k t c ho ht) ht⟩
theorem Fr.add {B : Nat} {T : List Nat} {w w' : World} (h : Below w.heap.size w w') (hB : B ≤ w.heap.size) : Fr B T w w' :=
  ⟨below_mono h hB, fun k t c ho _ => ho.below h ho.lt⟩
/-- The followed blocks are new since w, or of T's types and not below B. -/
def FrH (w : World) (B : Nat) (T : List Nat) (wb : World) : Hp → Prop
  | [] => True
  | e :: H => (w.heap.size ≤ e.1 ∨ (B ≤ e.1 ∧ T.contains e.2.1 = true ∧ ∃ c, Own wb e.1 e.2.1 c)) ∧ FrH w B T wb H
theorem FrH.mem {w : World} {B : Nat} {T : List Nat} {wb : World} : ∀ {H : Hp}, FrH w B T wb H → ∀ e ∈ H, w.heap.size ≤ e.1 ∨ (B ≤ e.1 ∧ T.contains e.2.1 = true ∧ ∃ c, Own wb e.1 e.2.1 c)
  | [], _, e, he => by cases he
  | x :: H, h, e, he => by
    rcases List.mem_cons.1 he with rfl | he
    · exact h.1
    · exact FrH.mem h.2 e he
theorem FrH.append {w : World} {B : Nat} {T : List Nat} {wb : World} : ∀ {H H' : Hp}, FrH w B T wb H → FrH w B T wb H' → FrH w B T wb (H ++ H')
  | [], _, _, h => h
  | _ :: _, _, h1, h2 => ⟨h1.1, FrH.append h1.2 h2⟩
theorem Fr.stp {B : Nat} {T : List Nat} {w wb w' : World} {H : Hp} (hF : Fr B T w wb) (hB : B ≤ w.heap.size) (hH : FrH w B T wb H) (hs : Stp wb H w') : Fr B T w w' := by
  refine ⟨⟨hs.os.trans hF.low.os, hs.tape.trans hF.low.tape, hs.output.trans hF.low.output, Nat.le_trans hF.low.size hs.size, fun k hk => ?_⟩, fun k t c ho ht => ?_⟩
  · rw [hs.blk k (by have := hF.low.size; omega) (fun hm => by
      obtain ⟨e, he, rfl⟩ := List.mem_map.1 hm
      rcases hH.mem e he with h | h
      · omega
      · omega)]
    exact hF.low.block k hk
  · have ho2 := hF.keep k t c ho ht
    refine hs.own ho2 (fun hm => ?_)
    obtain ⟨e, he, rfl⟩ := List.mem_map.1 hm
    rcases hH.mem e he with h | ⟨_, h2, c', h3⟩
    · have := ho.lt; omega
    · rw [own_ty h3 ho2, ht] at h2; cases h2
theorem Stp.chain {wb w1 w2 : World} {H H' : Hp} (h1 : Stp wb H w1) (h2 : Stp w1 H' w2) (hk : ∀ k ∈ keys H', k ∈ keys H ∨ wb.heap.size ≤ k) : Stp wb H w2 :=
  ⟨h2.os.trans h1.os, h2.tape.trans h1.tape, h2.output.trans h1.output, Nat.le_trans h1.size h2.size, fun b hb hn => by
    rw [h2.blk b (by have := h1.size; omega) (fun hm => by
      rcases hk b hm with h | h
      · exact hn h
      · omega)]
    exact h1.blk b hb hn⟩

/-- A call that returns v with R v, and changes no more than T's blocks at or above B. -/
def CM (f : Nat) (args : List Value) (w : World) (B : Nat) (T : List Nat) (R : Value → World → Prop) : Prop :=
  Calls Hvat.prog f args.toArray w (fun e w' => ∃ v, e = .returned v ∧ (R v w' ∧ Fr B T w w'))
theorem CM.of_CE {f : Nat} {args : List Value} {w : World} {B : Nat} {T : List Nat} {R : Value → World → Prop} (h : CE f args w R) (hB : B ≤ w.heap.size) : CM f args w B T R :=
  Calls.mono h fun e w' ⟨v, h1, h2, h3⟩ => ⟨v, h1, h2, Fr.add h3 hB⟩
theorem CM.mono {f : Nat} {args : List Value} {w : World} {B : Nat} {T : List Nat} {R R' : Value → World → Prop} (h : CM f args w B T R) (hr : ∀ v w', R v w' → R' v w') : CM f args w B T R' :=
  Calls.mono h fun e w' ⟨v, h1, h2, h3⟩ => ⟨v, h1, hr v w' h2, h3⟩
theorem km_ret {fn : Func} {R0 : Value → World → Prop} {B : Nat} {T : List Nat} {w wb : World} {E : Env} {H : Hp} (vs : List Value) (hr : ResL E wb H fn.results.toList vs)
    (hR : ∀ w', Good wb H w' → R0 (retVal vs) w' ∧ Fr B T w w') : KR fn (fun v w' => R0 v w' ∧ Fr B T w w') .ret wb E H := ⟨.inl rfl, vs, hr, hR⟩
theorem km_nrm {fn : Func} {R0 : Value → World → Prop} {B : Nat} {T : List Nat} {w wb : World} {E : Env} {H : Hp} (vs : List Value) (hr : ResL E wb H fn.results.toList vs)
    (hR : ∀ w', Good wb H w' → R0 (retVal vs) w' ∧ Fr B T w w') : KR fn (fun v w' => R0 v w' ∧ Fr B T w w') .normal wb E H := ⟨.inr rfl, vs, hr, hR⟩

/-- No followed block is of T's types. -/
def tyOut (T : List Nat) : Hp → Bool
  | [] => true
  | e :: H => match T.contains e.2.1 with
    | true => false
    | false => tyOut T H
theorem tyOut_mem {T : List Nat} : ∀ {H : Hp}, tyOut T H = true → ∀ e ∈ H, T.contains e.2.1 = false
  | [], _, e, he => by cases he
  | x :: H, h, e, he => by
    unfold tyOut at h
    split at h
    · cases h
    · rename_i hb
      rcases List.mem_cons.1 he with rfl | he
      · exact hb
      · exact tyOut_mem h e he

section
variable {N : Nat} {ops : Array Oper} {X : List Nat} {K : World → Env → Hp → Prop} {wb : World} {E : Env} {H : Hp} {r : List (Bool × Bool × Oper)} {ns : Bool}
  {d ty : Nat} {pos : String} {af : Array Edge} {g : Option (Nat × Bool)}
/-- A call of a function that changes memory. -/
theorem r_callM {f : Nat} {args : Array Operand} {ats : Array TypeId} {vs : List Value} {fn : Func} {B : Nat} {T : List Nat} {w : World} {R : Value → World → Prop} (hf : Hvat.prog.funcs[f]? = some fn) (hb : hasBody fn = true)
    (hvs : args.toList.mapM (ev E) = some vs) (hF : Fr B T w wb) (hB : B ≤ w.heap.size) (hH : FrH w B T wb H) (hT : tyOut T H = true) (hns : ns = false)
    (hg : gd ops E ⟨some d, .call { callee := .value (.func f), args := args, argTypes := ats }, ty, pos, af, g⟩ = some true) (hN : Nat.blt d N = true)
    (hc : ∀ w1, Good wb H w1 → CM f vs w1 B T R)
    (h : ∀ v w2, R v w2 → Fr B T w w2 → Good w2 H w2 → WR N ops X r K w2 ((d, v) :: E) H) :
    WR N ops X ((false, ns, ⟨some d, .call { callee := .value (.func f), args := args, argTypes := ats }, ty, pos, af, g⟩) :: r) K wb E H := by
  subst hns
  refine r_call hf (body_of hb) hvs hg hN fun w1 hG => ?_
  refine Calls.mono (hc w1 hG) ?_
  rintro e w2 ⟨v, rfl, hR, hF2⟩
  have hF1 : Fr B T w w1 := hF.stp hB hH hG.stp
  refine ⟨v, w2, H, rfl, ?_, fun h => (by cases h), h v w2 hR (hF1.trans hF2) ?_⟩ <;>
  exact ⟨rfl, rfl, rfl, Nat.le_refl _, fun _ _ _ => rfl, fun e he => hF2.keep _ _ _ (hG.own e he) (tyOut_mem hT e he), hG.nodup⟩
end

/-! ### Following a slice's block -/
theorem rs_last {s : Sl} {e : Nat} {c : List Value} : RemS (entS s e c) s e c [] := ⟨[], [], by simp, rfl⟩
theorem good_takeS {α : Type} {wb w1 : World} {H : Hp} {s : Sl} {t sz : Nat} {enc : α → List Chunk} {xs : List α} (h : SlR wb s t sz enc xs) (hn : Nk wb t H) (hG : Good wb H w1) : ∃ sp, SlOwn s sz xs.length sp ∧ Good wb (H ++ entS s t (arrC enc xs ++ sp)) w1 := by
  rcases h.p with ⟨ha, hc⟩ | ⟨b, sp, ha, ho, hsp⟩
  · refine ⟨[], ⟨h.n, h.c, by rw [show s.c - xs.length = 0 by omega]; simp, .inl ⟨ha, hc⟩⟩, ?_⟩
    have : entS s t (arrC enc xs ++ []) = [] := by simp [entS, ha]
    rw [this, List.append_nil]; exact hG
  · refine ⟨sp, ⟨h.n, h.c, hsp, .inr ⟨b, ha⟩⟩, ?_⟩
    have : entS s t (arrC enc xs ++ sp) = [(b, t, arrC enc xs ++ sp)] := by simp [entS, ha]
    rw [this]
    have hk := hn b _ ho
    refine ⟨hG.os, hG.tape, hG.output, hG.size, fun k hk1 hk2 => hG.base k hk1 (fun hm => hk2 (by simp only [keys, List.map_append] at hm ⊢; exact List.mem_append.2 (.inl hm))), fun e he => ?_, ?_⟩
    · rcases List.mem_append.1 he with he | he
      · exact hG.own e he
      · rcases List.mem_cons.1 he with rfl | he
        · show w1.heap[b]? = _
          rw [hG.base b ho.lt hk]; exact ho
        · cases he
    · simp only [keys, List.map_append, List.map_cons, List.map_nil]
      rw [List.nodup_append]
      refine ⟨hG.nodup, by simp, fun p hp q hq => ?_⟩
      simp only [List.mem_singleton] at hq
      subst hq
      exact fun hpe => hk (hpe ▸ hp)
theorem wc_takeS {α : Type} {N : Nat} {c : Code} {K : Exit → World → Env → Hp → Prop} {wb : World} {E : Env} {H : Hp} {s : Sl} {t sz : Nat} {enc : α → List Chunk} {xs : List α} (h : SlR wb s t sz enc xs) (hn : Nk wb t H)
    (hw : ∀ sp, SlOwn s sz xs.length sp → WC N c K wb E (H ++ entS s t (arrC enc xs ++ sp))) : WC N c K wb E H :=
  ⟨fun a w1 hst => by
    have ⟨sp, h1, h2⟩ := good_takeS h hn hst.good
    exact (hw sp h1).run a w1 ⟨hst.on, h2⟩⟩
theorem FrH.entS {α : Type} {w : World} {B : Nat} {T : List Nat} {wb : World} {s : Sl} {t sz : Nat} {enc : α → List Chunk} {xs : List α} {sp : List Value} (h : SlR wb s t sz enc xs) (hf : ∀ a, s.a = some a → B ≤ a.block) (ht : T.contains t = true) :
    FrH w B T wb (entS s t (arrC enc xs ++ sp)) := by
  rcases h.p with ⟨ha, _⟩ | ⟨b, sp', ha, ho, _⟩
  · simp only [YgvatwGreat.entS, ha]; trivial
  · simp only [YgvatwGreat.entS, ha]
    exact ⟨.inr ⟨hf _ ha, ht, _, ho⟩, trivial⟩
theorem KG.append {B : Nat} : ∀ {H H' : Hp}, KG B H → KG B H' → KG B (H ++ H')
  | [], _, _, h => h
  | _ :: _, _, h1, h2 => ⟨h1.1, KG.append h1.2 h2⟩
theorem KG.entS {B : Nat} {s : Sl} {t : Nat} {c : List Value} (hf : ∀ a, s.a = some a → B ≤ a.block) : KG B (entS s t c) := by
  cases ha : s.a with
  | none => simp only [YgvatwGreat.entS, ha]; trivial
  | some a => simp only [YgvatwGreat.entS, ha]; exact ⟨hf a ha, trivial⟩
theorem SlOwn.some {s : Sl} {sz n : Nat} {sp : List Value} (h : SlOwn s sz n sp) (hn : s.a ≠ none) : ∃ b, s.a = .some ⟨b, 0, none⟩ := by
  rcases h.pt with ⟨h1, _⟩ | h1
  · exact absurd h1 hn
  · exact h1
theorem SlOwn.slr {α : Type} {w : World} {s : Sl} {t sz b : Nat} {enc : α → List Chunk} {xs : List α} {sp : List Value} (h : SlOwn s sz xs.length sp) (ha : s.a = .some ⟨b, 0, none⟩) (ho : Own w b t (arrC enc xs ++ sp)) : SlR w s t sz enc xs :=
  ⟨h.len, h.cap, .inr ⟨b, sp, ha, ho, h.spare⟩⟩
end Go.Proofs.YgvatwGreat
