/-  
  CONTRACTS 52: append to a full slice; remember
-/
import Derived.Test.YgvatwGreatC51
namespace Go.Proofs.YgvatwGreat
open Go Go.RowKit
set_option linter.unusedVariables false
set_option linter.unusedSimpArgs false


section
variable {N : Nat} {ops : Array Oper} {X : List Nat} {K : World → Env → Hp → Prop} {wb : World} {E : Env} {H : Hp} {r : List (Bool × Bool × Oper)} {ns : Bool}
  {d ty : Nat} {pos : String} {af : Array Edge} {g : Option (Nat × Bool)} {t : Nat} {x y : Operand}
/-- 'append' to a slice without spare room: a new block; the old one stays. -/
theorem r_appF {α : Type} {enc : α → List Chunk} {s : Sl} {xs : List α} {el : α} {cs0 : List Chunk} {e sz yy b2 : Nat} {ats : Array TypeId}
    (hx : ev E x = some (.slice s.a s.n s.c)) (hy : ev E y = some (.slice (some ⟨b2, 0, none⟩) 1 1)) (hats : ats = #[t, t]) (ht : slc t = some (e, sz, yy)) (hsz : ∀ x, flen (enc x) = sz) (hz : ZeroIs e cs0) (hl0 : flen cs0 = sz)
    (hn : s.n = xs.length) (hc : s.c = s.n) (hsrc : SrcC wb H s.a (arrC enc xs)) (hnp : s.a = none → xs = []) (hpt : ∀ a, s.a = some a → a.spot = none)
    (hm2 : (b2, e, flat (enc el)) ∈ H) (hb : (xs.length + 1) * yy ≤ 140737488355328) (hb2 : xs.length < 4611686018427387904)
    (hg : gd ops E ⟨some d, .call { callee := .builtin .append, args := #[x, y], argTypes := ats }, ty, pos, af, g⟩ = some true) (hN : Nat.blt d N = true)
    (h : ∀ b' cap sp, wb.heap.size ≤ b' → xs.length + 1 ≤ cap → sp.length = (cap - (xs.length + 1)) * sz → WR N ops X r K wb ((d, .slice (some ⟨b', 0, none⟩) (xs.length + 1) cap) :: E) ((b', e, arrC enc (xs ++ [el]) ++ sp) :: H)) :
    WR N ops X ((false, ns, ⟨some d, .call { callee := .builtin .append, args := #[x, y], argTypes := ats }, ty, pos, af, g⟩) :: r) K wb E H := by
  subst hats
  have hu := (slc_und ht).1
  have ⟨i, hi, hs, hy2⟩ := (slc_und ht).2
  have ⟨i', z, hi', hz1, hz2⟩ := hz.ex
  rw [hi] at hi'
  cases hi'
  unfold ValC at hz2
  have hzs : z.cells.size = sz := by rw [hz2]; simp [flat_len, hl0]
  refine wr_e hg (fun a w hst Q => ?_)
  have hG := hst.good
  have hown2 : Own w b2 e (flat (enc el)) := hG.own _ hm2
  have hel : (flat (enc el)).length = 1 * i.size := by rw [flat_len, hsz, hs]; omega
  have hnews : ∀ j u, (flat (enc el))[j]? = some u → w.cell? ((⟨b2, 0, none⟩ : Addr).add j) = some u := by
    intro j u hj
    rw [add_none, hown2.cell, Nat.zero_add]; exact hj
  have hlx : (arrC enc xs).length = xs.length * sz := arrC_len hsz xs
  have grow : ∀ (cap' : Nat), xs.length + 1 ≤ cap' →
      ((execOp a.eval ⟨some d, .call { callee := .builtin .append, args := #[x, y], argTypes := #[t, t] }, ty, pos, af, g⟩).run Hvat.prog w =
        .ok (.value (.slice (some ⟨w.heap.size, 0, none⟩) (xs.length + 1) cap')) (w.drew.alloc (.cells ((arrC enc xs).toArray ++ (flat (enc el)).toArray ++ Builtin.zeroCells z.cells (cap' - (xs.length + 1))) e))) →
      Oper.wp Hvat.prog ⟨some d, .call { callee := .builtin .append, args := #[x, y], argTypes := #[t, t] }, ty, pos, af, g⟩ a w
        (fun a' w' => (ns = true → KeepX X w w') ∧ ∃ wb' E' H', St N wb' E' H' a' w' ∧ WR N ops X r K wb' E' H') Q := by
    intro cap' hcap hrun
    unfold Oper.wp
    rw [hrun]
    have ecells : (arrC enc xs).toArray ++ (flat (enc el)).toArray ++ Builtin.zeroCells z.cells (cap' - (xs.length + 1)) = (arrC enc (xs ++ [el]) ++ (Builtin.zeroCells z.cells (cap' - (xs.length + 1))).toList).toArray := by
      rw [arrC_snoc]
      apply Array.toList_inj.1
      simp
    rw [ecells]
    have hgn := (Good.drew hG).new e (arrC enc (xs ++ [el]) ++ (Builtin.zeroCells z.cells (cap' - (xs.length + 1))).toList)
    refine ⟨fun _ => keepX_alloc X w _, wb, _, _, ⟨hst.on.put (by simpa [Nat.blt_eq] using hN) _, hgn⟩, h w.heap.size cap' _ hG.size hcap (by simp [size_zeroCells, hzs])⟩
  cases ha : s.a with
  | none =>
    have hxs := hnp ha
    subst hxs
    have hn0 : s.n = 0 := hn
    have hc0 : s.c = 0 := by rw [hc, hn0]
    have hr := run_append_nil (P := Hvat.prog) w t ty e i z hu hi hz1 ⟨b2, 0, none⟩ 1 1 (flat (enc el)) hel hnews (by omega) (by omega) (by rw [hy2]; simp only [List.length_nil] at hb; omega)
    refine grow (grownCap w 1 0 e) (by have := grownCap_ge w 1 0 e; simp only [List.length_nil]; omega) ?_
    have e1 : a.eval x = .slice none 0 0 := by rw [hst.on.eval hx, ha, hn0, hc0]
    simp [execOp, resolve, invoke, builtin, e1, hst.on.eval hy, hr, arrC]
  | some p =>
    have hpp := hpt p ha
    obtain ⟨pb, po, pp⟩ := p
    simp only at hpp
    subst hpp
    have e1 : a.eval x = .slice (some ⟨pb, po, none⟩) xs.length xs.length := by rw [hst.on.eval hx, ha, hc, hn]
    have hcells : ∀ j u, (arrC enc xs)[j]? = some u → w.cell? ((⟨pb, po, none⟩ : Addr).add j) = some u := by
      intro j u hj
      rcases hsrc with h0 | ⟨b3, o3, h3, hcs⟩
      · rw [h0] at hj; cases hj
      · rw [ha] at h3
        cases h3
        rw [add_none]; exact hcs w hG j u hj
    have hr := run_append_grow (P := Hvat.prog) w t ty e i z hu hi hz1 ⟨pb, po, none⟩ xs.length xs.length (arrC enc xs) (by rw [hlx, hs]) hcells
      ⟨b2, 0, none⟩ 1 1 (flat (enc el)) hel hnews (by omega) (by omega) (growslice_fits (by omega) (by rw [hy2]; exact hb))
    refine grow (grownCap w (xs.length + 1) xs.length e) (grownCap_ge w (xs.length + 1) xs.length e) ?_
    simp [execOp, resolve, invoke, builtin, e1, hst.on.eval hy, hr]
end
theorem SlR.srcB {α : Type} {wb : World} {H : Hp} {s : Sl} {t sz : Nat} {enc : α → List Chunk} {xs : List α} (h : SlR wb s t sz enc xs) (hn : Nk wb t H) : SrcC wb H s.a (arrC enc xs) := by
  rcases h.p with ⟨h1, h2⟩ | ⟨b, sp, h1, h2, _⟩
  · have := h.c
    rw [List.eq_nil_of_length_eq_zero (show xs.length = 0 by omega)]
    exact .inl rfl
  · rw [h1]
    exact src_base (h2.cellsAt (by rw [List.drop_zero, List.take_append_of_le_length (Nat.le_refl _), List.take_length])) (hn b _ h2)
theorem SlR.nilx {α : Type} {w : World} {s : Sl} {t sz : Nat} {enc : α → List Chunk} {xs : List α} (h : SlR w s t sz enc xs) (ha : s.a = none) : xs = [] := (h.toI.isNil ha).2

/-- The model's record in block b. -/
structure StAt (w : World) (b : Nat) (S : LState) : Prop where
  o : Own w b 103 (flat S.c)
  r : StR w S
theorem Stp.key1 {w w' : World} {b t t' : Nat} {c c' : List Value} (h : Stp w [(b, t, c)] w') : Stp w [(b, t', c')] w' := h.more (keys_sub fun k hk => hk)
theorem nk103 {w : World} {b : Nat} {c c' : List Value} (ho : Own w b 103 c) : ∀ t, sT.contains t = true → Nk w t [(b, 103, c')] := fun t ht => .ty (H := [(b, 103, c')]) ⟨.inr ⟨_, ho⟩, trivial⟩ (tyOut_not ht (by rfl))
def MState.remember (m : MState) : MState := { m with past := m.past ++ [m.now.norm] }

theorem c139 (b : Nat) (S : LState) (w : World) (hA : StAt w b S) (hX : S.hP.c = S.hP.n) (hnp : S.past.length ≤ 65536) :
    CX 139 [.pointer (some ⟨b, 0, none⟩)] w (fun _ w' => ∃ S', (∀ t' c', Stp w [(b, t', c')] w') ∧ StAt w' b S' ∧ S'.ms = S.ms.remember ∧ S'.now = S.now ∧ S'.hM = S.hM ∧ S'.marks = S.marks) := by
  have ho := hA.o
  have hR := hA.r
  have hol := ho.lt
  have nP := hR.p.n
  refine enter [] Hvat.func139 rfl Hvat.ntmps139 rfl (good_nil w) ?_
  refine wc_take ho (by simp [keys]) ?_
  repeat (first
    | refine r_p (by rfl) (by rfl) (by rfl) ?_ | refine r_sk (by rfl) (by rfl) ?_ | refine wr_nil ?_ | refine sq_n ?_ | refine sq_ret ?_ | refine sq_exit ?_ | refine bk_n ?_ | refine bk_ret ?_ | refine bk_hit ?_ | refine bk_miss (by rfl) ?_ | refine lp_ret ?_ | refine lp_exit ?_ | refine wc_block (by rfl) ?_ | refine wc_plain (by rfl) ?_ | refine wc_skip (by rfl) ?_ | refine wc_ret (by rfl) ?_ | refine wc_exit (by rfl) ?_
    | refine wc_cond (b := true) (by rfl) (by rfl) (fun _ => ?_) (fun h => by cases h)
    | refine wc_cond (b := false) (by rfl) (by rfl) (fun h => by cases h) (fun _ => ?_)
    | refine r_ld1 (t' := 32) (by rfl) (by rfl) (by first | exact .h (.head _) | exact .h (.tail _ (.head _)) | exact .h (.tail _ (.tail _ (.head _))) | exact .h (.tail _ (.tail _ (.tail _ (.head _)))) | exact .h (.tail _ (.tail _ (.tail _ (.tail _ (.head _))))) | exact .h (.tail _ (.tail _ (.tail _ (.tail _ (.tail _ (.head _)))))) | exact .h (.tail _ (.tail _ (.tail _ (.tail _ (.tail _ (.tail _ (.head _))))))) | exact .h (.tail _ (.tail _ (.tail _ (.tail _ (.tail _ (.tail _ (.tail _ (.head _)))))))) | exact .h (.tail _ (.tail _ (.tail _ (.tail _ (.tail _ (.tail _ (.tail _ (.tail _ (.head _))))))))) | exact .h (.tail _ (.tail _ (.tail _ (.tail _ (.tail _ (.tail _ (.tail _ (.tail _ (.tail _ (.head _)))))))))) | exact Rb.bo (by assumption) hx (by have hz := hx.size; repeat (first | exact trivial | exact KG.entS (by assumption) | refine ⟨by omega, ?_⟩))) (by with_reducible first | exact gv_hA _ | exact gv_hS _ | exact gv_hJ _ | exact gv_nm _ | exact gv_ref _ | exact gv_hL _ | exact gv_hT _ | exact gv_hTT _) (by first | exact List.not_mem_nil | assumption | (simp only [List.mem_cons, List.not_mem_nil, or_false, not_or]; repeat (first | exact trivial | refine ⟨by omega, ?_⟩ | omega))) (by rfl) (by rfl) ?_
    | refine r_ldN (t' := 32) (t := 32) (by rfl) (by rfl) (by first | exact .h (.head _) | exact .h (.tail _ (.head _)) | exact .h (.tail _ (.tail _ (.head _))) | exact .h (.tail _ (.tail _ (.tail _ (.head _)))) | exact .h (.tail _ (.tail _ (.tail _ (.tail _ (.head _))))) | exact .h (.tail _ (.tail _ (.tail _ (.tail _ (.tail _ (.head _)))))) | exact .h (.tail _ (.tail _ (.tail _ (.tail _ (.tail _ (.tail _ (.head _))))))) | exact .h (.tail _ (.tail _ (.tail _ (.tail _ (.tail _ (.tail _ (.tail _ (.head _)))))))) | exact .h (.tail _ (.tail _ (.tail _ (.tail _ (.tail _ (.tail _ (.tail _ (.tail _ (.head _))))))))) | exact .h (.tail _ (.tail _ (.tail _ (.tail _ (.tail _ (.tail _ (.tail _ (.tail _ (.tail _ (.head _)))))))))) | exact Rb.bo (by assumption) hx (by have hz := hx.size; repeat (first | exact trivial | exact KG.entS (by assumption) | refine ⟨by omega, ?_⟩))) (by with_reducible exact gn_vault _) (by first | exact List.not_mem_nil | assumption | (simp only [List.mem_cons, List.not_mem_nil, or_false, not_or]; repeat (first | exact trivial | refine ⟨by omega, ?_⟩ | omega))) (by rfl) (by rfl) ?_
    | refine r_ld1 (by rfl) (by rfl) (by first | exact .h (.head _) | exact .h (.tail _ (.head _)) | exact .h (.tail _ (.tail _ (.head _))) | exact .h (.tail _ (.tail _ (.tail _ (.head _)))) | exact .h (.tail _ (.tail _ (.tail _ (.tail _ (.head _))))) | exact .h (.tail _ (.tail _ (.tail _ (.tail _ (.tail _ (.head _)))))) | exact .h (.tail _ (.tail _ (.tail _ (.tail _ (.tail _ (.tail _ (.head _))))))) | exact .h (.tail _ (.tail _ (.tail _ (.tail _ (.tail _ (.tail _ (.tail _ (.head _)))))))) | exact .h (.tail _ (.tail _ (.tail _ (.tail _ (.tail _ (.tail _ (.tail _ (.tail _ (.head _))))))))) | exact .h (.tail _ (.tail _ (.tail _ (.tail _ (.tail _ (.tail _ (.tail _ (.tail _ (.tail _ (.head _)))))))))) | exact Rb.bo (by assumption) hx (by have hz := hx.size; repeat (first | exact trivial | exact KG.entS (by assumption) | refine ⟨by omega, ?_⟩))) (g1_flat (by rfl) (by rfl)) (by first | exact List.not_mem_nil | assumption | (simp only [List.mem_cons, List.not_mem_nil, or_false, not_or]; repeat (first | exact trivial | refine ⟨by omega, ?_⟩ | omega))) (by rfl) (by rfl) ?_
    | refine r_ldN (by rfl) (by rfl) (by first | exact .h (.head _) | exact .h (.tail _ (.head _)) | exact .h (.tail _ (.tail _ (.head _))) | exact .h (.tail _ (.tail _ (.tail _ (.head _)))) | exact .h (.tail _ (.tail _ (.tail _ (.tail _ (.head _))))) | exact .h (.tail _ (.tail _ (.tail _ (.tail _ (.tail _ (.head _)))))) | exact .h (.tail _ (.tail _ (.tail _ (.tail _ (.tail _ (.tail _ (.head _))))))) | exact .h (.tail _ (.tail _ (.tail _ (.tail _ (.tail _ (.tail _ (.tail _ (.head _)))))))) | exact .h (.tail _ (.tail _ (.tail _ (.tail _ (.tail _ (.tail _ (.tail _ (.tail _ (.head _))))))))) | exact .h (.tail _ (.tail _ (.tail _ (.tail _ (.tail _ (.tail _ (.tail _ (.tail _ (.tail _ (.head _)))))))))) | exact Rb.bo (by assumption) hx (by have hz := hx.size; repeat (first | exact trivial | exact KG.entS (by assumption) | refine ⟨by omega, ?_⟩))) (gN_flat (by rfl)) (by first | exact List.not_mem_nil | assumption | (simp only [List.mem_cons, List.not_mem_nil, or_false, not_or]; repeat (first | exact trivial | refine ⟨by omega, ?_⟩ | omega))) (by rfl) (by rfl) ?_
    | refine r_add (by rfl) (by rfl) (by first | exact ⟨by omega, by omega⟩ | (dsimp only [inR]; exact ⟨by omega, by omega⟩)) (by rfl) (by rfl) ?_
    | refine r_sub (by rfl) (by rfl) (by first | exact ⟨by omega, by omega⟩ | (dsimp only [inR]; exact ⟨by omega, by omega⟩)) (by rfl) (by rfl) ?_
    | refine r_cv (by rfl) (by rfl) (by rfl) (by first | exact ⟨by omega, by omega⟩ | (dsimp only [inR]; exact ⟨by omega, by omega⟩)) (by rfl) (by rfl) ?_)
  refine wc_draw [] [⟨true, false, 0⟩, ⟨true, false, 1⟩, ⟨true, false, 2⟩, ⟨true, false, 3⟩, ⟨true, false, 4⟩, ⟨true, false, 5⟩, ⟨true, false, 6⟩, ⟨true, false, 7⟩, ⟨true, false, 8⟩, ⟨false, true, 9⟩, ⟨false, true, 10⟩, ⟨false, false, 11⟩, ⟨true, false, 12⟩, ⟨true, false, 13⟩, ⟨false, false, 14⟩] (by rfl) (by kernel_rfl) ?_
  have hx := Below.refl 0 w
  repeat (first
    | refine r_p (by rfl) (by rfl) (by rfl) ?_ | refine r_sk (by rfl) (by rfl) ?_ | refine wr_nil ?_ | refine sq_n ?_ | refine sq_ret ?_ | refine sq_exit ?_ | refine bk_n ?_ | refine bk_ret ?_ | refine bk_hit ?_ | refine bk_miss (by rfl) ?_ | refine lp_ret ?_ | refine lp_exit ?_ | refine wc_seq (by rfl) ?_ | refine wc_block (by rfl) ?_ | refine wc_plain (by rfl) ?_ | refine wc_skip (by rfl) ?_ | refine wc_ret (by rfl) ?_ | refine wc_exit (by rfl) ?_
    | refine wc_cond (b := true) (by rfl) (by rfl) (fun _ => ?_) (fun h => by cases h)
    | refine wc_cond (b := false) (by rfl) (by rfl) (fun h => by cases h) (fun _ => ?_)
    | refine r_ld1 (t' := 32) (by rfl) (by rfl) (by first | exact .h (.head _) | exact .h (.tail _ (.head _)) | exact .h (.tail _ (.tail _ (.head _))) | exact .h (.tail _ (.tail _ (.tail _ (.head _)))) | exact .h (.tail _ (.tail _ (.tail _ (.tail _ (.head _))))) | exact .h (.tail _ (.tail _ (.tail _ (.tail _ (.tail _ (.head _)))))) | exact .h (.tail _ (.tail _ (.tail _ (.tail _ (.tail _ (.tail _ (.head _))))))) | exact .h (.tail _ (.tail _ (.tail _ (.tail _ (.tail _ (.tail _ (.tail _ (.head _)))))))) | exact .h (.tail _ (.tail _ (.tail _ (.tail _ (.tail _ (.tail _ (.tail _ (.tail _ (.head _))))))))) | exact .h (.tail _ (.tail _ (.tail _ (.tail _ (.tail _ (.tail _ (.tail _ (.tail _ (.tail _ (.head _)))))))))) | exact Rb.bo (by assumption) hx (by have hz := hx.size; repeat (first | exact trivial | exact KG.entS (by assumption) | refine ⟨by omega, ?_⟩))) (by with_reducible first | exact gv_hA _ | exact gv_hS _ | exact gv_hJ _ | exact gv_nm _ | exact gv_ref _ | exact gv_hL _ | exact gv_hT _ | exact gv_hTT _) (by first | exact List.not_mem_nil | assumption | (simp only [List.mem_cons, List.not_mem_nil, or_false, not_or]; repeat (first | exact trivial | refine ⟨by omega, ?_⟩ | omega))) (by rfl) (by rfl) ?_
    | refine r_ldN (t' := 32) (t := 32) (by rfl) (by rfl) (by first | exact .h (.head _) | exact .h (.tail _ (.head _)) | exact .h (.tail _ (.tail _ (.head _))) | exact .h (.tail _ (.tail _ (.tail _ (.head _)))) | exact .h (.tail _ (.tail _ (.tail _ (.tail _ (.head _))))) | exact .h (.tail _ (.tail _ (.tail _ (.tail _ (.tail _ (.head _)))))) | exact .h (.tail _ (.tail _ (.tail _ (.tail _ (.tail _ (.tail _ (.head _))))))) | exact .h (.tail _ (.tail _ (.tail _ (.tail _ (.tail _ (.tail _ (.tail _ (.head _)))))))) | exact .h (.tail _ (.tail _ (.tail _ (.tail _ (.tail _ (.tail _ (.tail _ (.tail _ (.head _))))))))) | exact .h (.tail _ (.tail _ (.tail _ (.tail _ (.tail _ (.tail _ (.tail _ (.tail _ (.tail _ (.head _)))))))))) | exact Rb.bo (by assumption) hx (by have hz := hx.size; repeat (first | exact trivial | exact KG.entS (by assumption) | refine ⟨by omega, ?_⟩))) (by with_reducible exact gn_vault _) (by first | exact List.not_mem_nil | assumption | (simp only [List.mem_cons, List.not_mem_nil, or_false, not_or]; repeat (first | exact trivial | refine ⟨by omega, ?_⟩ | omega))) (by rfl) (by rfl) ?_
    | refine r_ld1 (by rfl) (by rfl) (by first | exact .h (.head _) | exact .h (.tail _ (.head _)) | exact .h (.tail _ (.tail _ (.head _))) | exact .h (.tail _ (.tail _ (.tail _ (.head _)))) | exact .h (.tail _ (.tail _ (.tail _ (.tail _ (.head _))))) | exact .h (.tail _ (.tail _ (.tail _ (.tail _ (.tail _ (.head _)))))) | exact .h (.tail _ (.tail _ (.tail _ (.tail _ (.tail _ (.tail _ (.head _))))))) | exact .h (.tail _ (.tail _ (.tail _ (.tail _ (.tail _ (.tail _ (.tail _ (.head _)))))))) | exact .h (.tail _ (.tail _ (.tail _ (.tail _ (.tail _ (.tail _ (.tail _ (.tail _ (.head _))))))))) | exact .h (.tail _ (.tail _ (.tail _ (.tail _ (.tail _ (.tail _ (.tail _ (.tail _ (.tail _ (.head _)))))))))) | exact Rb.bo (by assumption) hx (by have hz := hx.size; repeat (first | exact trivial | exact KG.entS (by assumption) | refine ⟨by omega, ?_⟩))) (g1_flat (by rfl) (by rfl)) (by first | exact List.not_mem_nil | assumption | (simp only [List.mem_cons, List.not_mem_nil, or_false, not_or]; repeat (first | exact trivial | refine ⟨by omega, ?_⟩ | omega))) (by rfl) (by rfl) ?_
    | refine r_ldN (by rfl) (by rfl) (by first | exact .h (.head _) | exact .h (.tail _ (.head _)) | exact .h (.tail _ (.tail _ (.head _))) | exact .h (.tail _ (.tail _ (.tail _ (.head _)))) | exact .h (.tail _ (.tail _ (.tail _ (.tail _ (.head _))))) | exact .h (.tail _ (.tail _ (.tail _ (.tail _ (.tail _ (.head _)))))) | exact .h (.tail _ (.tail _ (.tail _ (.tail _ (.tail _ (.tail _ (.head _))))))) | exact .h (.tail _ (.tail _ (.tail _ (.tail _ (.tail _ (.tail _ (.tail _ (.head _)))))))) | exact .h (.tail _ (.tail _ (.tail _ (.tail _ (.tail _ (.tail _ (.tail _ (.tail _ (.head _))))))))) | exact .h (.tail _ (.tail _ (.tail _ (.tail _ (.tail _ (.tail _ (.tail _ (.tail _ (.tail _ (.head _)))))))))) | exact Rb.bo (by assumption) hx (by have hz := hx.size; repeat (first | exact trivial | exact KG.entS (by assumption) | refine ⟨by omega, ?_⟩))) (gN_flat (by rfl)) (by first | exact List.not_mem_nil | assumption | (simp only [List.mem_cons, List.not_mem_nil, or_false, not_or]; repeat (first | exact trivial | refine ⟨by omega, ?_⟩ | omega))) (by rfl) (by rfl) ?_
    | refine r_add (by rfl) (by rfl) (by first | exact ⟨by omega, by omega⟩ | (dsimp only [inR]; exact ⟨by omega, by omega⟩)) (by rfl) (by rfl) ?_
    | refine r_sub (by rfl) (by rfl) (by first | exact ⟨by omega, by omega⟩ | (dsimp only [inR]; exact ⟨by omega, by omega⟩)) (by rfl) (by rfl) ?_
    | refine r_cv (by rfl) (by rfl) (by rfl) (by first | exact ⟨by omega, by omega⟩ | (dsimp only [inR]; exact ⟨by omega, by omega⟩)) (by rfl) (by rfl) ?_)
  refine r_callS Hvat.func154 (by rfl) (by rfl) (Below.refl 0 w) (Nat.zero_le _) ⟨Nat.zero_le _, trivial⟩ (by rfl) (by rfl) (fun w1 hG => c154 S.now w1 (hR.now.tr hG.stp (fun t ht => nk103 ho t (sT_fT ht)))) ?_
  rintro v w2 ⟨F', rfl, hF', hm'⟩ hs2 hg2 _
  have hR2 := hR.tr hs2 (nk103 ho)
  have hz2 := hs2.size
  refine r_bs (cs := F'.c) (by rfl) (valC_agg _) (by rfl) (by rfl) z100 (by rfl) (by rfl) (by rfl) (by rfl) (by rfl) fun be hbe => ?_
  refine r_appF (enc := LFace.c) (s := S.hP) (xs := S.past) (el := F') (by rfl) (by rfl) (by rfl) (by rfl) LFace.c_sz z100 (by rfl) nP hX (hR2.p.srcB (.new hbe (.ty hg2.ty (by rfl)))) hR2.p.nilx hR2.p.pth (.head _) (by omega) (by omega) (by rfl) (by rfl) fun b' cap sp hb' hcap hsp => ?_
  repeat (first
    | refine r_p (by rfl) (by rfl) (by rfl) ?_ | refine r_sk (by rfl) (by rfl) ?_ | refine wr_nil ?_ | refine sq_n ?_ | refine sq_ret ?_ | refine sq_exit ?_ | refine bk_n ?_ | refine bk_ret ?_ | refine bk_hit ?_ | refine bk_miss (by rfl) ?_ | refine lp_ret ?_ | refine lp_exit ?_ | refine wc_seq (by rfl) ?_ | refine wc_block (by rfl) ?_ | refine wc_plain (by rfl) ?_ | refine wc_skip (by rfl) ?_ | refine wc_ret (by rfl) ?_ | refine wc_exit (by rfl) ?_
    | refine wc_cond (b := true) (by rfl) (by rfl) (fun _ => ?_) (fun h => by cases h)
    | refine wc_cond (b := false) (by rfl) (by rfl) (fun h => by cases h) (fun _ => ?_)
    | refine r_ld1 (t' := 32) (by rfl) (by rfl) (by first | exact .h (.head _) | exact .h (.tail _ (.head _)) | exact .h (.tail _ (.tail _ (.head _))) | exact .h (.tail _ (.tail _ (.tail _ (.head _)))) | exact .h (.tail _ (.tail _ (.tail _ (.tail _ (.head _))))) | exact .h (.tail _ (.tail _ (.tail _ (.tail _ (.tail _ (.head _)))))) | exact .h (.tail _ (.tail _ (.tail _ (.tail _ (.tail _ (.tail _ (.head _))))))) | exact .h (.tail _ (.tail _ (.tail _ (.tail _ (.tail _ (.tail _ (.tail _ (.head _)))))))) | exact .h (.tail _ (.tail _ (.tail _ (.tail _ (.tail _ (.tail _ (.tail _ (.tail _ (.head _))))))))) | exact .h (.tail _ (.tail _ (.tail _ (.tail _ (.tail _ (.tail _ (.tail _ (.tail _ (.tail _ (.head _)))))))))) | exact Rb.bo (by assumption) hx (by have hz := hx.size; repeat (first | exact trivial | exact KG.entS (by assumption) | refine ⟨by omega, ?_⟩))) (by with_reducible first | exact gv_hA _ | exact gv_hS _ | exact gv_hJ _ | exact gv_nm _ | exact gv_ref _ | exact gv_hL _ | exact gv_hT _ | exact gv_hTT _) (by first | exact List.not_mem_nil | assumption | (simp only [List.mem_cons, List.not_mem_nil, or_false, not_or]; repeat (first | exact trivial | refine ⟨by omega, ?_⟩ | omega))) (by rfl) (by rfl) ?_
    | refine r_ldN (t' := 32) (t := 32) (by rfl) (by rfl) (by first | exact .h (.head _) | exact .h (.tail _ (.head _)) | exact .h (.tail _ (.tail _ (.head _))) | exact .h (.tail _ (.tail _ (.tail _ (.head _)))) | exact .h (.tail _ (.tail _ (.tail _ (.tail _ (.head _))))) | exact .h (.tail _ (.tail _ (.tail _ (.tail _ (.tail _ (.head _)))))) | exact .h (.tail _ (.tail _ (.tail _ (.tail _ (.tail _ (.tail _ (.head _))))))) | exact .h (.tail _ (.tail _ (.tail _ (.tail _ (.tail _ (.tail _ (.tail _ (.head _)))))))) | exact .h (.tail _ (.tail _ (.tail _ (.tail _ (.tail _ (.tail _ (.tail _ (.tail _ (.head _))))))))) | exact .h (.tail _ (.tail _ (.tail _ (.tail _ (.tail _ (.tail _ (.tail _ (.tail _ (.tail _ (.head _)))))))))) | exact Rb.bo (by assumption) hx (by have hz := hx.size; repeat (first | exact trivial | exact KG.entS (by assumption) | refine ⟨by omega, ?_⟩))) (by with_reducible exact gn_vault _) (by first | exact List.not_mem_nil | assumption | (simp only [List.mem_cons, List.not_mem_nil, or_false, not_or]; repeat (first | exact trivial | refine ⟨by omega, ?_⟩ | omega))) (by rfl) (by rfl) ?_
    | refine r_ld1 (by rfl) (by rfl) (by first | exact .h (.head _) | exact .h (.tail _ (.head _)) | exact .h (.tail _ (.tail _ (.head _))) | exact .h (.tail _ (.tail _ (.tail _ (.head _)))) | exact .h (.tail _ (.tail _ (.tail _ (.tail _ (.head _))))) | exact .h (.tail _ (.tail _ (.tail _ (.tail _ (.tail _ (.head _)))))) | exact .h (.tail _ (.tail _ (.tail _ (.tail _ (.tail _ (.tail _ (.head _))))))) | exact .h (.tail _ (.tail _ (.tail _ (.tail _ (.tail _ (.tail _ (.tail _ (.head _)))))))) | exact .h (.tail _ (.tail _ (.tail _ (.tail _ (.tail _ (.tail _ (.tail _ (.tail _ (.head _))))))))) | exact .h (.tail _ (.tail _ (.tail _ (.tail _ (.tail _ (.tail _ (.tail _ (.tail _ (.tail _ (.head _)))))))))) | exact Rb.bo (by assumption) hx (by have hz := hx.size; repeat (first | exact trivial | exact KG.entS (by assumption) | refine ⟨by omega, ?_⟩))) (g1_flat (by rfl) (by rfl)) (by first | exact List.not_mem_nil | assumption | (simp only [List.mem_cons, List.not_mem_nil, or_false, not_or]; repeat (first | exact trivial | refine ⟨by omega, ?_⟩ | omega))) (by rfl) (by rfl) ?_
    | refine r_ldN (by rfl) (by rfl) (by first | exact .h (.head _) | exact .h (.tail _ (.head _)) | exact .h (.tail _ (.tail _ (.head _))) | exact .h (.tail _ (.tail _ (.tail _ (.head _)))) | exact .h (.tail _ (.tail _ (.tail _ (.tail _ (.head _))))) | exact .h (.tail _ (.tail _ (.tail _ (.tail _ (.tail _ (.head _)))))) | exact .h (.tail _ (.tail _ (.tail _ (.tail _ (.tail _ (.tail _ (.head _))))))) | exact .h (.tail _ (.tail _ (.tail _ (.tail _ (.tail _ (.tail _ (.tail _ (.head _)))))))) | exact .h (.tail _ (.tail _ (.tail _ (.tail _ (.tail _ (.tail _ (.tail _ (.tail _ (.head _))))))))) | exact .h (.tail _ (.tail _ (.tail _ (.tail _ (.tail _ (.tail _ (.tail _ (.tail _ (.tail _ (.head _)))))))))) | exact Rb.bo (by assumption) hx (by have hz := hx.size; repeat (first | exact trivial | exact KG.entS (by assumption) | refine ⟨by omega, ?_⟩))) (gN_flat (by rfl)) (by first | exact List.not_mem_nil | assumption | (simp only [List.mem_cons, List.not_mem_nil, or_false, not_or]; repeat (first | exact trivial | refine ⟨by omega, ?_⟩ | omega))) (by rfl) (by rfl) ?_
    | refine r_add (by rfl) (by rfl) (by first | exact ⟨by omega, by omega⟩ | (dsimp only [inR]; exact ⟨by omega, by omega⟩)) (by rfl) (by rfl) ?_
    | refine r_sub (by rfl) (by rfl) (by first | exact ⟨by omega, by omega⟩ | (dsimp only [inR]; exact ⟨by omega, by omega⟩)) (by rfl) (by rfl) ?_
    | refine r_cv (by rfl) (by rfl) (by rfl) (by first | exact ⟨by omega, by omega⟩ | (dsimp only [inR]; exact ⟨by omega, by omega⟩)) (by rfl) (by rfl) ?_)
  refine r_st (by rfl) (by rfl) (valC_one (by rfl)) (by rfl) (upd_there (upd_there upd_here)) (s_flat (cs' := LState.c ⟨S.now, ⟨some ⟨b', 0, none⟩, S.past.length + 1, cap⟩, S.hM, S.past ++ [F'], S.marks⟩) (by rfl) (by rfl)) (.inl rfl) (by rfl) ?_
  repeat (first
    | refine r_p (by rfl) (by rfl) (by rfl) ?_ | refine r_sk (by rfl) (by rfl) ?_ | refine wr_nil ?_ | refine sq_n ?_ | refine sq_ret ?_ | refine sq_exit ?_ | refine bk_n ?_ | refine bk_ret ?_ | refine bk_hit ?_ | refine bk_miss (by rfl) ?_ | refine lp_ret ?_ | refine lp_exit ?_ | refine wc_seq (by rfl) ?_ | refine wc_block (by rfl) ?_ | refine wc_plain (by rfl) ?_ | refine wc_skip (by rfl) ?_ | refine wc_ret (by rfl) ?_ | refine wc_exit (by rfl) ?_
    | refine wc_cond (b := true) (by rfl) (by rfl) (fun _ => ?_) (fun h => by cases h)
    | refine wc_cond (b := false) (by rfl) (by rfl) (fun h => by cases h) (fun _ => ?_)
    | refine r_ld1 (t' := 32) (by rfl) (by rfl) (by first | exact .h (.head _) | exact .h (.tail _ (.head _)) | exact .h (.tail _ (.tail _ (.head _))) | exact .h (.tail _ (.tail _ (.tail _ (.head _)))) | exact .h (.tail _ (.tail _ (.tail _ (.tail _ (.head _))))) | exact .h (.tail _ (.tail _ (.tail _ (.tail _ (.tail _ (.head _)))))) | exact .h (.tail _ (.tail _ (.tail _ (.tail _ (.tail _ (.tail _ (.head _))))))) | exact .h (.tail _ (.tail _ (.tail _ (.tail _ (.tail _ (.tail _ (.tail _ (.head _)))))))) | exact .h (.tail _ (.tail _ (.tail _ (.tail _ (.tail _ (.tail _ (.tail _ (.tail _ (.head _))))))))) | exact .h (.tail _ (.tail _ (.tail _ (.tail _ (.tail _ (.tail _ (.tail _ (.tail _ (.tail _ (.head _)))))))))) | exact Rb.bo (by assumption) hx (by have hz := hx.size; repeat (first | exact trivial | exact KG.entS (by assumption) | refine ⟨by omega, ?_⟩))) (by with_reducible first | exact gv_hA _ | exact gv_hS _ | exact gv_hJ _ | exact gv_nm _ | exact gv_ref _ | exact gv_hL _ | exact gv_hT _ | exact gv_hTT _) (by first | exact List.not_mem_nil | assumption | (simp only [List.mem_cons, List.not_mem_nil, or_false, not_or]; repeat (first | exact trivial | refine ⟨by omega, ?_⟩ | omega))) (by rfl) (by rfl) ?_
    | refine r_ldN (t' := 32) (t := 32) (by rfl) (by rfl) (by first | exact .h (.head _) | exact .h (.tail _ (.head _)) | exact .h (.tail _ (.tail _ (.head _))) | exact .h (.tail _ (.tail _ (.tail _ (.head _)))) | exact .h (.tail _ (.tail _ (.tail _ (.tail _ (.head _))))) | exact .h (.tail _ (.tail _ (.tail _ (.tail _ (.tail _ (.head _)))))) | exact .h (.tail _ (.tail _ (.tail _ (.tail _ (.tail _ (.tail _ (.head _))))))) | exact .h (.tail _ (.tail _ (.tail _ (.tail _ (.tail _ (.tail _ (.tail _ (.head _)))))))) | exact .h (.tail _ (.tail _ (.tail _ (.tail _ (.tail _ (.tail _ (.tail _ (.tail _ (.head _))))))))) | exact .h (.tail _ (.tail _ (.tail _ (.tail _ (.tail _ (.tail _ (.tail _ (.tail _ (.tail _ (.head _)))))))))) | exact Rb.bo (by assumption) hx (by have hz := hx.size; repeat (first | exact trivial | exact KG.entS (by assumption) | refine ⟨by omega, ?_⟩))) (by with_reducible exact gn_vault _) (by first | exact List.not_mem_nil | assumption | (simp only [List.mem_cons, List.not_mem_nil, or_false, not_or]; repeat (first | exact trivial | refine ⟨by omega, ?_⟩ | omega))) (by rfl) (by rfl) ?_
    | refine r_ld1 (by rfl) (by rfl) (by first | exact .h (.head _) | exact .h (.tail _ (.head _)) | exact .h (.tail _ (.tail _ (.head _))) | exact .h (.tail _ (.tail _ (.tail _ (.head _)))) | exact .h (.tail _ (.tail _ (.tail _ (.tail _ (.head _))))) | exact .h (.tail _ (.tail _ (.tail _ (.tail _ (.tail _ (.head _)))))) | exact .h (.tail _ (.tail _ (.tail _ (.tail _ (.tail _ (.tail _ (.head _))))))) | exact .h (.tail _ (.tail _ (.tail _ (.tail _ (.tail _ (.tail _ (.tail _ (.head _)))))))) | exact .h (.tail _ (.tail _ (.tail _ (.tail _ (.tail _ (.tail _ (.tail _ (.tail _ (.head _))))))))) | exact .h (.tail _ (.tail _ (.tail _ (.tail _ (.tail _ (.tail _ (.tail _ (.tail _ (.tail _ (.head _)))))))))) | exact Rb.bo (by assumption) hx (by have hz := hx.size; repeat (first | exact trivial | exact KG.entS (by assumption) | refine ⟨by omega, ?_⟩))) (g1_flat (by rfl) (by rfl)) (by first | exact List.not_mem_nil | assumption | (simp only [List.mem_cons, List.not_mem_nil, or_false, not_or]; repeat (first | exact trivial | refine ⟨by omega, ?_⟩ | omega))) (by rfl) (by rfl) ?_
    | refine r_ldN (by rfl) (by rfl) (by first | exact .h (.head _) | exact .h (.tail _ (.head _)) | exact .h (.tail _ (.tail _ (.head _))) | exact .h (.tail _ (.tail _ (.tail _ (.head _)))) | exact .h (.tail _ (.tail _ (.tail _ (.tail _ (.head _))))) | exact .h (.tail _ (.tail _ (.tail _ (.tail _ (.tail _ (.head _)))))) | exact .h (.tail _ (.tail _ (.tail _ (.tail _ (.tail _ (.tail _ (.head _))))))) | exact .h (.tail _ (.tail _ (.tail _ (.tail _ (.tail _ (.tail _ (.tail _ (.head _)))))))) | exact .h (.tail _ (.tail _ (.tail _ (.tail _ (.tail _ (.tail _ (.tail _ (.tail _ (.head _))))))))) | exact .h (.tail _ (.tail _ (.tail _ (.tail _ (.tail _ (.tail _ (.tail _ (.tail _ (.tail _ (.head _)))))))))) | exact Rb.bo (by assumption) hx (by have hz := hx.size; repeat (first | exact trivial | exact KG.entS (by assumption) | refine ⟨by omega, ?_⟩))) (gN_flat (by rfl)) (by first | exact List.not_mem_nil | assumption | (simp only [List.mem_cons, List.not_mem_nil, or_false, not_or]; repeat (first | exact trivial | refine ⟨by omega, ?_⟩ | omega))) (by rfl) (by rfl) ?_
    | refine r_add (by rfl) (by rfl) (by first | exact ⟨by omega, by omega⟩ | (dsimp only [inR]; exact ⟨by omega, by omega⟩)) (by rfl) (by rfl) ?_
    | refine r_sub (by rfl) (by rfl) (by first | exact ⟨by omega, by omega⟩ | (dsimp only [inR]; exact ⟨by omega, by omega⟩)) (by rfl) (by rfl) ?_
    | refine r_cv (by rfl) (by rfl) (by rfl) (by first | exact ⟨by omega, by omega⟩ | (dsimp only [inR]; exact ⟨by omega, by omega⟩)) (by rfl) (by rfl) ?_)
  refine kx_nrm [] trivial (fun w' hG => ⟨⟨S.now, ⟨some ⟨b', 0, none⟩, S.past.length + 1, cap⟩, S.hM, S.past ++ [F'], S.marks⟩, fun t' c' => (hs2.chain hG.stp (KC.new (by simp only; omega) (KC.new (by simp only; omega) (KC.keep rfl KC.nil)))).key1, ⟨hG.own _ (.tail _ (.tail _ (.head _))), ?_⟩, ?_, rfl, rfl, rfl⟩)
  · have hnk : ∀ t, fT.contains t = true → Nk w2 t _ := fun t ht => .new (b := b') (t' := 100) (c' := arrC LFace.c (S.past ++ [F']) ++ sp) hb' (.new (b := be) (t' := 100) (c' := flat F'.c) hbe (.ty (hg2.ty.same (by rfl)) (tyOut_not ht (by rfl))))
    have hs3 := hG.stp
    refine ⟨hR2.now.tr hs3 hnk, ⟨by simp, by simpa using hcap, .inr ⟨b', sp, rfl, hG.own _ (.head _), by simpa using hsp⟩⟩, ?_, hR2.m.tr hs3 (.new hb' (.new hbe (.ty (hg2.ty.same (by rfl)) (by rfl)))), by simp only [List.length_append, List.length_singleton]; omega, hR2.nM, hR2.mi⟩
    intro F hF
    rcases List.mem_append.1 hF with hF | hF
    · exact (hR2.pf F hF).tr hs3 hnk
    · simp only [List.mem_singleton] at hF; subst hF; exact hF'.tr hs3 hnk
  · unfold LState.ms MState.remember
    simp [hm']

end Go.Proofs.YgvatwGreat
