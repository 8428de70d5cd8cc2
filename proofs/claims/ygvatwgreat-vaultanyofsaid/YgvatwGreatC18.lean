/-  
  CONTRACTS 18: new bases; what stays; taking blocks.
-/
import Derived.Test.YgvatwGreatC17
namespace Go.Proofs.YgvatwGreat
open Go Go.RowKit
set_option linter.unusedVariables false
set_option linter.unusedSimpArgs false

theorem good_sublist {wb w : World} {H Hr : Hp} (h : Good wb H w) (hs : List.Sublist Hr H) : Good w Hr w :=
  good_sub h (fun e he => hs.subset he) (List.Sublist.nodup (List.Sublist.map _ hs) h.nodup)

section
variable {N : Nat} {ops : Array Oper} {X : List Nat} {K : World → Env → Hp → Prop} {wb : World} {E : Env} {H Hr : Hp} {r : List (Bool × Bool × Oper)}
/-- The world as it stands becomes the base; some blocks are no longer followed. -/
theorem wr_reb {B : Nat} {w : World} (hx : Below B w wb) (hB : B ≤ w.heap.size) (hk : KG B H) (hs : List.Sublist Hr H)
    (h : ∀ w', Stp wb H w' → Below B w w' → Good w' H w' → Good w' Hr w' → WR N ops X r K w' E Hr) : WR N ops X r K wb E H :=
  ⟨fun a w1 hst => (h w1 hst.good.stp (below_stp hx hst.good.stp hk hB) (good_self hst.good) (good_sublist hst.good hs)).run a w1 ⟨hst.on, good_sublist hst.good hs⟩⟩
/-- A block of the base is followed. -/
theorem wr_take {b t : Nat} {c : List Value} (ho : Own wb b t c) (hk : b ∉ keys H) (h : WR N ops X r K wb E ((b, t, c) :: H)) : WR N ops X r K wb E H :=
  ⟨fun a w1 hst => h.run a w1 ⟨hst.on, by
    have hG := hst.good
    refine ⟨hG.os, hG.tape, hG.output, hG.size, fun k hk1 hk2 => hG.base k hk1 (fun hm => hk2 (List.mem_cons_of_mem _ hm)), fun e he => ?_, ?_⟩
    · rcases List.mem_cons.1 he with rfl | he
      · show w1.heap[b]? = _
        rw [hG.base b ho.lt hk]; exact ho
      · exact hG.own e he
    · simp only [keys, List.map_cons]
      exact List.nodup_cons.2 ⟨hk, hG.nodup⟩⟩⟩
end
section
variable {N : Nat} {c : Code} {K : Exit → World → Env → Hp → Prop} {wb : World} {E : Env} {H Hr : Hp}
theorem wc_reb {B : Nat} {w : World} (hx : Below B w wb) (hB : B ≤ w.heap.size) (hk : KG B H) (hs : List.Sublist Hr H)
    (h : ∀ w', Stp wb H w' → Below B w w' → Good w' H w' → Good w' Hr w' → WC N c K w' E Hr) : WC N c K wb E H :=
  ⟨fun a w1 hst => (h w1 hst.good.stp (below_stp hx hst.good.stp hk hB) (good_self hst.good) (good_sublist hst.good hs)).run a w1 ⟨hst.on, good_sublist hst.good hs⟩⟩
theorem wc_take {b t : Nat} {cs : List Value} (ho : Own wb b t cs) (hk : b ∉ keys H) (h : WC N c K wb E ((b, t, cs) :: H)) : WC N c K wb E H :=
  ⟨fun a w1 hst => h.run a w1 ⟨hst.on, by
    have hG := hst.good
    refine ⟨hG.os, hG.tape, hG.output, hG.size, fun k hk1 hk2 => hG.base k hk1 (fun hm => hk2 (List.mem_cons_of_mem _ hm)), fun e he => ?_, ?_⟩
    · rcases List.mem_cons.1 he with rfl | he
      · show w1.heap[b]? = _
        rw [hG.base b ho.lt hk]; exact ho
      · exact hG.own e he
    · simp only [keys, List.map_cons]
      exact List.nodup_cons.2 ⟨hk, hG.nodup⟩⟩⟩
end

section
variable {N : Nat} {ops : Array Oper} {X : List Nat} {K : World → Env → Hp → Prop} {wb : World} {E : Env} {H : Hp} {r : List (Bool × Bool × Oper)} {ns : Bool}
  {d ty : Nat} {pos : String} {af : Array Edge} {g : Option (Nat × Bool)}
/-- A call of a function that only adds to memory; with all that is known of the new base. -/
theorem r_callS {f : Nat} {args : Array Operand} {ats : Array TypeId} {vs : List Value} {fn : Func} {B : Nat} {w : World} {R : Value → World → Prop} (hf : Hvat.prog.funcs[f]? = some fn) (hb : hasBody fn = true)
    (hvs : args.toList.mapM (ev E) = some vs) (hx : Below B w wb) (hB : B ≤ w.heap.size) (hk : KG B H)
    (hg : gd ops E ⟨some d, .call { callee := .value (.func f), args := args, argTypes := ats }, ty, pos, af, g⟩ = some true) (hN : Nat.blt d N = true)
    (hc : ∀ w1, Good wb H w1 → Calls Hvat.prog f vs.toArray w1 (fun e w' => ∃ v, e = .returned v ∧ R v w' ∧ Below w1.heap.size w1 w'))
    (h : ∀ v w2, R v w2 → Stp wb H w2 → Good w2 H w2 → Below B w w2 → WR N ops X r K w2 ((d, v) :: E) H) :
    WR N ops X ((false, ns, ⟨some d, .call { callee := .value (.func f), args := args, argTypes := ats }, ty, pos, af, g⟩) :: r) K wb E H := by
  refine r_call hf (body_of hb) hvs hg hN fun w1 hG => ?_
  refine (hc w1 hG).mono ?_
  rintro e w2 ⟨v, rfl, hR, hx2⟩
  have ha := hG.after hx2
  exact ⟨v, w2, H, rfl, ha.1, fun _ => keepX_below hx2, h v w2 hR ha.2 ha.1 (below_stp hx ha.2 hk hB)⟩
end

/-! ### Loops whose rounds begin at a new base -/
def Reb {ι : Type} (I : ι → World → Env → Hp → Prop) : ι → World → Env → Hp → Prop :=
  fun x wb E H => ∀ w, Good wb H w → ∃ Hr, Good w Hr w ∧ I x w E Hr
theorem wc_loopR {ι : Type} {N : Nat} {c : Code} {K : Exit → World → Env → Hp → Prop} {wb : World} {E : Env} {H Hr : Hp} (I : ι → World → Env → Hp → Prop) (μ : ι → Nat) (hc : cTag c = (6, 0)) (x0 : ι) (E0 : Env) (hsub : SubE E0 E)
    (hs : List.Sublist Hr H) (h0 : ∀ w', Stp wb H w' → Good w' H w' → Good w' Hr w' → I x0 w' E0 Hr)
    (round : ∀ x wb E H, I x wb E H → WC N (cL c) (lp (Reb I) μ K x) wb E H) : WC N c K wb E H :=
  wc_loop' (Reb I) μ hc x0 E0 hsub (fun w hG => ⟨Hr, good_sublist hG hs, h0 w hG.stp (good_self hG) (good_sublist hG hs)⟩)
    (fun x wb E H hI => ⟨fun a w hst => by
      have ⟨Hr, h1, h2⟩ := hI w hst.good
      exact (round x w E Hr h2).run a w ⟨hst.on, h1⟩⟩)
theorem lp_r {ι : Type} {I : ι → World → Env → Hp → Prop} {μ : ι → Nat} {K : Exit → World → Env → Hp → Prop} {x : ι} {wb : World} {E : Env} {H Hr : Hp} (y : ι) (E'' : Env)
    (hs : List.Sublist Hr H) (h1 : ∀ w', Stp wb H w' → Good w' H w' → Good w' Hr w' → I y w' E'' Hr) (h2 : SubE E'' E) (h3 : μ y < μ x) : lp (Reb I) μ K x .normal wb E H :=
  lp_n y E'' (fun w hG => ⟨Hr, good_sublist hG hs, h1 w hG.stp (good_self hG) (good_sublist hG hs)⟩) h2 h3

/-! ### Cuts -/
structure Cut (P : World → Hp → Prop) (E0 : Env) (e : Exit) (wb : World) (E : Env) (H : Hp) : Prop where
  n : e = .normal
  sub : SubE E0 E
  reb : ∀ w, Good wb H w → ∃ Hr, Good w Hr w ∧ P w Hr
theorem wc_cut {N : Nat} {c : Code} {K : Exit → World → Env → Hp → Prop} {wb : World} {E : Env} {H : Hp} (P : World → Hp → Prop) (E0 : Env) (h1 : WC N c (Cut P E0) wb E H) (h2 : ∀ wb H, P wb H → K .normal wb E0 H) : WC N c K wb E H :=
  ⟨fun a w hst => wp_mono (h1.run a w hst) (by
    rintro e a' w' ⟨wb', E', H', hst', ⟨rfl, hsub, hr⟩⟩
    obtain ⟨Hr, hg, hp⟩ := hr w' hst'.good
    exact ⟨w', E0, Hr, ⟨hst'.on.sub hsub, hg⟩, h2 _ _ hp⟩)⟩
theorem cut_n {P : World → Hp → Prop} {E0 : Env} {wb : World} {E : Env} {H Hr : Hp} (hs : List.Sublist Hr H) (h : ∀ w', Stp wb H w' → Good w' H w' → Good w' Hr w' → P w' Hr) (hsub : SubE E0 E) : Cut P E0 .normal wb E H :=
  ⟨rfl, hsub, fun w hG => ⟨Hr, good_sublist hG hs, h w hG.stp (good_self hG) (good_sublist hG hs)⟩⟩

/-- The followed blocks' types, where they lie in the base. -/
def TyH (wb : World) : Hp → Prop
  | [] => True
  | e :: H => (wb.heap.size ≤ e.1 ∨ ∃ c, Own wb e.1 e.2.1 c) ∧ TyH wb H
theorem TyH.mem {wb : World} : ∀ {H : Hp}, TyH wb H → ∀ e ∈ H, wb.heap.size ≤ e.1 ∨ ∃ c, Own wb e.1 e.2.1 c
  | [], _, e, he => by cases he
  | x :: H, h, e, he => by
    rcases List.mem_cons.1 he with rfl | he
    · exact h.1
    · exact TyH.mem h.2 e he
theorem TyH.good {w : World} : ∀ {H : Hp}, (∀ e ∈ H, Own w e.1 e.2.1 e.2.2) → TyH w H
  | [], _ => trivial
  | x :: H, h => ⟨.inr ⟨_, h x (List.mem_cons_self ..)⟩, TyH.good (fun e he => h e (List.mem_cons_of_mem _ he))⟩
theorem Good.ty {w : World} {H : Hp} (h : Good w H w) : TyH w H := TyH.good h.own
theorem TyH.new {wb : World} {H : Hp} {b t : Nat} {c : List Value} (hb : wb.heap.size ≤ b) (h : TyH wb H) : TyH wb ((b, t, c) :: H) := ⟨.inl hb, h⟩
theorem TyH.nk {wb : World} {H : Hp} (h : TyH wb H) {b t : Nat} {c : List Value} (ho : Own wb b t c) (ht : tyNot t H = true) : b ∉ keys H := by
  intro hm
  obtain ⟨e, he, rfl⟩ := List.mem_map.1 hm
  rcases h.mem e he with h' | ⟨c', h'⟩
  · have := ho.lt; omega
  · exact tyNot_mem ht e he (own_ty h' ho)
/-- No block of type t of the base is followed. -/
def Nk (wb : World) (t : Nat) (H : Hp) : Prop := ∀ b c, Own wb b t c → b ∉ keys H
theorem Nk.new {wb : World} {t : Nat} {H : Hp} {b t' : Nat} {c' : List Value} (hb : wb.heap.size ≤ b) (h : Nk wb t H) : Nk wb t ((b, t', c') :: H) := by
  intro k c ho hm
  rcases List.mem_cons.1 hm with hm | hm
  · have := ho.lt; simp only at hm; omega
  · exact h k c ho hm
theorem Nk.ty {wb : World} {t : Nat} {H : Hp} (h : TyH wb H) (ht : tyNot t H = true) : Nk wb t H := fun b c ho => h.nk ho ht
theorem Nk.nil {wb : World} {t : Nat} : Nk wb t [] := fun b c _ hm => by cases hm
theorem Own.tr {wb w' : World} {H : Hp} {b t : Nat} {c : List Value} (ho : Own wb b t c) (hs : Stp wb H w') (hn : Nk wb t H) : Own w' b t c :=
  hs.own ho (hn b c ho)
theorem SlR.tr {α : Type} {wb w' : World} {H : Hp} {s : Sl} {t sz : Nat} {enc : α → List Chunk} {xs : List α} (h : SlR wb s t sz enc xs) (hs : Stp wb H w') (hn : Nk wb t H) : SlR w' s t sz enc xs :=
  ⟨h.n, h.c, orMap h.p id (fun ⟨b, sp, h1, h2, h3⟩ => ⟨b, sp, h1, h2.tr hs hn, h3⟩)⟩
theorem CodeR.tr {wb w' : World} {H : Hp} {s : Sl} {o : Option (List UInt8)} (h : CodeR wb s o) (hs : Stp wb H w') (hn : Nk wb 5 H) : CodeR w' s o :=
  orMap h id (fun ⟨b, l, h1, h2, h3⟩ => ⟨b, l, h1, h2, h3.tr hs hn⟩)
theorem LogR.tr {wb w' : World} {H : Hp} {x : LLog} (h : LogR wb x) (hs : Stp wb H w') (hn : Nk wb 5 H) (hn' : Nk wb 135 H) : LogR w' x :=
  ⟨h.top.tr hs hn', exMap h.dat fun o h => ⟨h.1, h.2.tr hs hn⟩⟩
theorem Stp.trans {w1 w2 w3 : World} {H : Hp} (h1 : Stp w1 H w2) (h2 : Stp w2 H w3) : Stp w1 H w3 :=
  ⟨h2.os.trans h1.os, h2.tape.trans h1.tape, h2.output.trans h1.output, Nat.le_trans h1.size h2.size, fun b hb hk => by rw [h2.blk b (by have := h1.size; omega) hk]; exact h1.blk b hb hk⟩

/-! ### What lies in memory that somebody handed in -/
structure SlI {α : Type} (w : World) (s : Sl) (enc : α → List Chunk) (xs : List α) : Prop where
  n : s.n = xs.length
  nil : s.a = none → s = nilSl
  p : xs = [] ∨ ∃ b o, s.a = some ⟨b, o, none⟩ ∧ CellsAt w b o (arrC enc xs)
structure LogI (w : World) (x : LLog) : Prop where
  top : SlI w x.ht topC x.m.topics
  dat : ∃ o, oB o = x.m.data ∧ CodeI w x.hd o
structure VIn (w : World) (L : VL) : Prop where
  sA : SlI w L.hA acctC L.accts
  sS : SlI w L.hS slotC L.slots
  sJ : SlI w L.hJ entC L.jr
  sL : SlI w L.hL logC L.logs
  sT : SlI w L.hT tempC L.temps
  sTT : SlI w L.hTT cI32 (optL L.ttab) ∧ (L.hTT.a = none ↔ L.ttab = none)
  cA : ∀ x ∈ L.accts, CodeI w x.hd x.m.code
  cJ : ∀ x ∈ L.jr, CodeI w x.hd x.m.b
  cL : ∀ x ∈ L.logs, LogI w x
  rng : VRng L
theorem SlR.toI {α : Type} {w : World} {s : Sl} {t sz : Nat} {enc : α → List Chunk} {xs : List α} (h : SlR w s t sz enc xs) : SlI w s enc xs := by
  have hn := h.n
  have hc := h.c
  refine ⟨h.n, fun ha => ?_, ?_⟩
  · rcases h.p with ⟨_, h2⟩ | ⟨b, sp, h1, _⟩
    · obtain ⟨a, n, c⟩ := s
      simp only at ha h2 hn
      subst ha; subst h2
      have : n = 0 := by simp only at hc; omega
      subst this; rfl
    · rw [ha] at h1; cases h1
  · rcases h.p with ⟨_, h2⟩ | ⟨b, sp, h1, h2, _⟩
    · exact .inl (List.eq_nil_of_length_eq_zero (by omega))
    · exact .inr ⟨b, 0, h1, h2.cellsAt (by rw [List.drop_zero, List.take_append_of_le_length (Nat.le_refl _), List.take_length])⟩
theorem CellsAt.below {w wb : World} {b o : Nat} {l : List Value} (h : CellsAt w b o l) (hx : Below w.heap.size w wb) : CellsAt wb b o l := by
  intro j v hj
  rw [cell_of_blk (hx.block b (cell_lt (h j v hj)))]; exact h j v hj
theorem cellsAt_lt {w : World} {b o : Nat} {l : List Value} (h : CellsAt w b o l) (hl : 0 < l.length) : b < w.heap.size := by
  cases l with
  | nil => simp at hl
  | cons v l => exact cell_lt (h 0 v rfl)
/-- An element's cells. -/
theorem cellsAt_arr {α : Type} {w : World} {b o : Nat} {enc : α → List Chunk} {sz k : Nat} {xs : List α} {x : α} (h : CellsAt w b o (arrC enc xs)) (hsz : ∀ x, flen (enc x) = sz) (hx : xs[k]? = some x) : CellsAt w b (o + k * sz) (flat (enc x)) := by
  intro j v hj
  have hd := arrC_drop hsz xs k x hx
  have : (arrC enc xs)[k * sz + j]? = some v := by
    rw [← List.getElem?_drop, hd]
    have hlt : j < (flat (enc x)).length := (List.getElem?_eq_some_iff.1 hj).1
    rw [List.getElem?_append_left hlt]; exact hj
  have := h (k * sz + j) v this
  rw [show o + k * sz + j = o + (k * sz + j) by omega]; exact this
theorem SlI.src {α : Type} {w wb : World} {H : Hp} {s : Sl} {enc : α → List Chunk} {xs : List α} (h : SlI w s enc xs) (hx : Below w.heap.size w wb) (hk : KG w.heap.size H) : SrcC wb H s.a (arrC enc xs) := by
  by_cases hl : (arrC enc xs).length = 0
  · exact .inl (List.eq_nil_of_length_eq_zero hl)
  · rcases h.p with rfl | ⟨b, o, ha, hc⟩
    · exact absurd rfl hl
    · rw [ha]
      exact src_base (hc.below hx) (hk.not (cellsAt_lt hc (by omega)))
end Go.Proofs.YgvatwGreat
