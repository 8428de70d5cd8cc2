/-
  ENGINE, PART K: make, append, copy.
-/
import Derived.Test.YgvatwGreatEngJ
import Derived.Laws.AppendOwn
namespace Go.Proofs.YgvatwGreat
open Go Go.RowKit
set_option linter.unusedVariables false
set_option linter.unusedSimpArgs false

def repL (n : Nat) (Z : List Value) : List Value := (List.replicate n Z).flatten
theorem repL_len (n : Nat) (Z : List Value) : (repL n Z).length = n * Z.length := by simp [repL]
theorem repL_get (Z : List Value) (hz : 0 < Z.length) : ∀ (n i : Nat), i < n * Z.length → (repL n Z)[i]? = Z[i % Z.length]?
  | 0, i, h => by omega
  | n + 1, i, h => by
    have e : repL (n + 1) Z = Z ++ repL n Z := by simp [repL, List.replicate_succ]
    rw [e]
    by_cases hi : i < Z.length
    · rw [List.getElem?_append_left hi, Nat.mod_eq_of_lt hi]
    · rw [List.getElem?_append_right (by omega)]
      rw [Nat.succ_mul] at h
      rw [repL_get Z hz n (i - Z.length) (by omega), ← Nat.mod_eq_sub_mod (show i ≥ Z.length by omega)]
theorem zero_range (Z : List Value) (hz : 0 < Z.length) (n : Nat) : (Array.range (n * Z.length)).map (fun i => Z.toArray[i % Z.toArray.size]!) = (repL n Z).toArray := by
  apply Array.toList_inj.1
  apply List.ext_getElem?
  intro i
  by_cases hi : i < n * Z.length
  · have hm : i % Z.length < Z.length := Nat.mod_lt _ hz
    have := repL_get Z hz n i hi
    simp only [Array.toList_map, Array.toList_range, List.getElem?_map, List.getElem?_range hi, Option.map_some]
    rw [this]
    simp [hm]
  · rw [List.getElem?_eq_none (by simp; omega), List.getElem?_eq_none (by simp [repL_len]; omega)]

theorem arrC_rep {α : Type} {enc : α → List Chunk} {z : α} {cs0 : List Chunk} (h : enc z = cs0) : ∀ n, arrC enc (List.replicate n z) = repL n (flat cs0)
  | 0 => by simp [arrC, repL]
  | n + 1 => by
    have ih := arrC_rep h n
    simp only [List.replicate_succ, arrC, ih, h]
    simp [repL, List.replicate_succ]

def cByte (x : UInt8) : List Chunk := [cI .u8 (x.toNat : Int)]
theorem arrC_bytes : ∀ l : List UInt8, arrC cByte l = bL l
  | [] => rfl
  | x :: l => by simp [arrC, cByte, flat, cI, bL, arrC_bytes l]
def cI32 (x : Int) : List Chunk := [cI .i32 x]

section
variable {N : Nat} {ops : Array Oper} {X : List Nat} {K : World → Env → Hp → Prop} {wb : World} {E : Env} {H : Hp} {r : List (Bool × Bool × Oper)} {ns : Bool}
  {d ty : Nat} {pos : String} {af : Array Edge} {g : Option (Nat × Bool)} {t t' : Nat} {x y z : Operand} {b off : Nat} {c : List Value} {v : Value} {k k' : IntKind} {m n : Int}

theorem run_mk {cs0 : List Chunk} {e sz yy q : Nat} {ρ : Operand → Value} (ht : slc t = some (e, sz, yy)) (hx : ρ x = .int k (q : Int)) (hy : ρ y = .int k' (q : Int)) (hz : ZeroIs e cs0) (hl0 : flen cs0 = sz) (h0 : Nat.blt 0 sz = true)
    (hq : q < 9223372036854775808) (hb : q * yy ≤ 281474976710656) (w : World) :
    (execOp ρ ⟨some d, .makeSlice t x y, ty, pos, af, g⟩).run Hvat.prog w = .ok (.value (.slice (some ⟨w.heap.size, 0, none⟩) q q)) (w.alloc (.cells (repL q (flat cs0)).toArray e)) := by
  have hu := (slc_und ht).1
  have ⟨i, hi, hs, hy2⟩ := (slc_und ht).2
  have ⟨i', z, hi', hz1, hz2⟩ := hz.ex
  rw [hi] at hi'
  cases hi'
  unfold ValC at hz2
  have hsz : 0 < sz := by simpa [Nat.blt_eq] using h0
  have hfl : (flat cs0).length = sz := by rw [flat_len, hl0]
  have hbig : (i.bytes : Int) * (q : Int) ≤ 281474976710656 := by
    have : (i.bytes : Int) * (q : Int) = ((q * yy : Nat) : Int) := by rw [hy2, Nat.mul_comm]; simp
    omega
  have hr := run_make (P := Hvat.prog) w t e i z hu hi hz1 k k' (q : Int) (q : Int) (by omega) (by omega) hbig (by omega)
  have hzr := zero_range (flat cs0) (by omega) q
  rw [hfl] at hzr
  have hmc : madeCells z.cells ((q : Int).toNat * i.size) = (repL q (flat cs0)).toArray := by
    unfold madeCells
    rw [hz2, hs, Int.toNat_natCast]
    exact hzr
  rw [hmc] at hr
  simp only [Int.toNat_natCast] at hr
  simp [execOp, hx, hy, hr]

/-- 'make': n zeros. -/
theorem r_mk {α : Type} {enc : α → List Chunk} {z0 : α} {cs0 : List Chunk} {e sz yy q : Nat} {m n : Int} (hx : ev E x = some (.int k m)) (hm : m = (q : Int)) (hy : ev E y = some (.int k' n)) (hn : n = (q : Int)) (ht : slc t = some (e, sz, yy)) (hz : ZeroIs e cs0) (henc : enc z0 = cs0) (hl0 : flen cs0 = sz) (h0 : Nat.blt 0 sz = true)
    (hq : q < 9223372036854775808) (hb : q * yy ≤ 281474976710656)
    (hg : gd ops E ⟨some d, .makeSlice t x y, ty, pos, af, g⟩ = some true) (hN : Nat.blt d N = true)
    (h : ∀ b, wb.heap.size ≤ b → WR N ops X r K wb ((d, .slice (some ⟨b, 0, none⟩) q q) :: E) ((b, e, arrC enc (List.replicate q z0) ++ []) :: H)) :
    WR N ops X ((false, ns, ⟨some d, .makeSlice t x y, ty, pos, af, g⟩) :: r) K wb E H := by
  subst hm; subst hn
  refine wr_e hg (fun a w hs Q => ?_)
  unfold Oper.wp
  rw [run_mk ht (hs.on.eval hx) (hs.on.eval hy) hz hl0 h0 hq hb w]
  have e1 : repL q (flat cs0) = arrC enc (List.replicate q z0) ++ [] := by rw [arrC_rep henc, List.append_nil]
  rw [e1]
  refine ⟨fun _ => keepX_alloc _ _ _, wb, _, _, ⟨hs.on.put (by simpa [Nat.blt_eq] using hN) _, hs.good.new e _⟩, h _ hs.good.size⟩

/-! ### append -/
/-- The slice s holds xs, from its block's start; sp: what lies behind. -/
structure SlOwn (s : Sl) (sz n : Nat) (sp : List Value) : Prop where
  len : s.n = n
  cap : n ≤ s.c
  spare : sp.length = (s.c - n) * sz
  pt : (s.a = none ∧ s.c = 0) ∨ ∃ b, s.a = some ⟨b, 0, none⟩

def entS (s : Sl) (e : Nat) (c : List Value) : Hp := match s.a with
  | some a => [(a.block, e, c)]
  | none => []

def RemS (H : Hp) (s : Sl) (e : Nat) (c : List Value) (Hr : Hp) : Prop := ∃ H1 H2, H = H1 ++ (entS s e c ++ H2) ∧ Hr = H1 ++ H2
theorem rs_here {H : Hp} {s : Sl} {e : Nat} {c : List Value} : RemS (entS s e c ++ H) s e c H := ⟨[], H, rfl, rfl⟩
theorem rs_nil {H : Hp} {e : Nat} {c : List Value} : RemS H nilSl e c H := ⟨[], H, rfl, rfl⟩
theorem rs_some {H : Hp} {b n cp e : Nat} {c : List Value} : RemS ((b, e, c) :: H) ⟨some ⟨b, 0, none⟩, n, cp⟩ e c H := ⟨[], H, rfl, rfl⟩
theorem rs_there {H Hr : Hp} {x : Nat × TypeId × List Value} {s : Sl} {e : Nat} {c : List Value} (h : RemS H s e c Hr) : RemS (x :: H) s e c (x :: Hr) := by
  obtain ⟨H1, H2, rfl, rfl⟩ := h
  exact ⟨x :: H1, H2, rfl, rfl⟩

theorem good_sub {wb w : World} {H Hr : Hp} (h : Good wb H w) (hs : ∀ e ∈ Hr, e ∈ H) (hn : (keys Hr).Nodup) : Good w Hr w :=
  ⟨rfl, rfl, rfl, Nat.le_refl _, fun _ _ _ => rfl, fun e he => h.own e (hs e he), hn⟩

theorem arrC_snoc {α : Type} (enc : α → List Chunk) (xs : List α) (y : α) : arrC enc (xs ++ [y]) = arrC enc xs ++ flat (enc y) := by
  rw [arrC_append]; simp [arrC]

theorem r_app {α : Type} {enc : α → List Chunk} {s : Sl} {xs : List α} {el : α} {sp : List Value} {cs0 : List Chunk} {e sz yy b2 B : Nat} {ats : Array TypeId} {Hm Hr : Hp} {w0 : World}
    (hx : ev E x = some (.slice s.a s.n s.c)) (hy : ev E y = some (.slice (some ⟨b2, 0, none⟩) 1 1)) (hats : ats = #[t, t]) (ht : slc t = some (e, sz, yy)) (hsz : ∀ x, flen (enc x) = sz) (hz : ZeroIs e cs0) (hl0 : flen cs0 = sz) (h0 : Nat.blt 0 sz = true)
    (ho : SlOwn s sz xs.length sp) (hr : RemS H s e (arrC enc xs ++ sp) Hm) (hr2 : RemS Hm ⟨some ⟨b2, 0, none⟩, 1, 1⟩ e (flat (enc el)) Hr)
    (hb : (xs.length + 1) * yy ≤ 140737488355328) (hb2 : xs.length < 4611686018427387904) (hx0 : Below B w0 wb) (hB : B ≤ w0.heap.size) (hk : KG B H)
    (hns : ns = false ∨ ∀ a, s.a = some a → a.block ∈ X)
    (hg : gd ops E ⟨some d, .call { callee := .builtin .append, args := #[x, y], argTypes := ats }, ty, pos, af, g⟩ = some true) (hN : Nat.blt d N = true)
    (h : ∀ w' s' sp', Stp wb H w' → Below B w0 w' → (s'.a = s.a ∨ ∃ b', s'.a = some ⟨b', 0, none⟩ ∧ wb.heap.size ≤ b') → s'.a ≠ none → SlOwn s' sz (xs ++ [el]).length sp' →
      WR N ops X r K w' ((d, .slice s'.a s'.n s'.c) :: E) (entS s' e (arrC enc (xs ++ [el]) ++ sp') ++ Hr)) :
    WR N ops X ((false, ns, ⟨some d, .call { callee := .builtin .append, args := #[x, y], argTypes := ats }, ty, pos, af, g⟩) :: r) K wb E H := by
  subst hats
  have hu := (slc_und ht).1
  have ⟨i, hi, hs, hy2⟩ := (slc_und ht).2
  have ⟨i', z, hi', hz1, hz2⟩ := hz.ex
  rw [hi] at hi'
  cases hi'
  unfold ValC at hz2
  have hzs : z.cells.size = sz := by rw [hz2]; simp [flat_len, hl0]
  refine wr_e hg (fun a w hst Q => ?_)
  have hG := hst.good
  obtain ⟨H1, H2, hH, hHm⟩ := hr
  obtain ⟨H3, H4, hHm2, hHr⟩ := hr2
  -- membership
  have memb2 : (b2, e, flat (enc el)) ∈ H := by
    have : (b2, e, flat (enc el)) ∈ Hm := by rw [hHm2]; simp [entS]
    rw [hHm] at this
    rw [hH]
    rcases List.mem_append.1 this with h' | h'
    · exact List.mem_append.2 (.inl h')
    · exact List.mem_append.2 (.inr (List.mem_append.2 (.inr h')))
  have subHr : ∀ q ∈ Hr, q ∈ H1 ++ H2 := by
    intro q hq
    rw [hHr] at hq
    rw [← hHm, hHm2]
    rcases List.mem_append.1 hq with h' | h'
    · exact List.mem_append.2 (.inl h')
    · exact List.mem_append.2 (.inr (List.mem_append.2 (.inr h')))
  have subH : ∀ q ∈ H1 ++ H2, q ∈ H := by
    intro q hq
    rw [hH]
    rcases List.mem_append.1 hq with h' | h'
    · exact List.mem_append.2 (.inl h')
    · exact List.mem_append.2 (.inr (List.mem_append.2 (.inr h')))
  have nd := hG.nodup
  have nd12 : (keys (H1 ++ H2)).Nodup := by
    rw [hH] at nd
    simp only [keys, List.map_append] at nd ⊢
    rw [List.nodup_append] at nd ⊢
    obtain ⟨n1, n2, n3⟩ := nd
    rw [List.nodup_append] at n2
    exact ⟨n1, n2.2.1, fun p hp q hq => n3 p hp q (List.mem_append.2 (.inr hq))⟩
  have ndr : (keys Hr).Nodup := by
    rw [hHm] at hHm2
    rw [hHm2] at nd12
    rw [hHr]
    simp only [keys, List.map_append] at nd12 ⊢
    rw [List.nodup_append] at nd12 ⊢
    obtain ⟨n1, n2, n3⟩ := nd12
    rw [List.nodup_append] at n2
    exact ⟨n1, n2.2.1, fun p hp q hq => n3 p hp q (List.mem_append.2 (.inr hq))⟩
  have hown2 : Own w b2 e (flat (enc el)) := hG.own _ memb2
  have hel : (flat (enc el)).length = 1 * i.size := by rw [flat_len, hsz, hs]; omega
  have hnews : ∀ j u, (flat (enc el))[j]? = some u → w.cell? ((⟨b2, 0, none⟩ : Addr).add j) = some u := by
    intro j u hj
    rw [add_none, hown2.cell, Nat.zero_add]; exact hj
  have hlx : (arrC enc xs).length = xs.length * sz := arrC_len hsz xs
  have hg1 : Good w Hr w := good_sub hG (fun q hq => subH q (subHr q hq)) ndr
  -- growing
  have grow : ∀ (cap' : Nat), xs.length + 1 ≤ cap' →
      ((execOp a.eval ⟨some d, .call { callee := .builtin .append, args := #[x, y], argTypes := #[t, t] }, ty, pos, af, g⟩).run Hvat.prog w =
        .ok (.value (.slice (some ⟨w.heap.size, 0, none⟩) (xs.length + 1) cap')) (w.drew.alloc (.cells ((arrC enc xs).toArray ++ (flat (enc el)).toArray ++ Builtin.zeroCells z.cells (cap' - (xs.length + 1))) e))) →
      Oper.wp Hvat.prog ⟨some d, .call { callee := .builtin .append, args := #[x, y], argTypes := #[t, t] }, ty, pos, af, g⟩ a w
        (fun a' w' => (ns = true → KeepX X w w') ∧ ∃ wb' E' H', St N wb' E' H' a' w' ∧ WR N ops X r K wb' E' H') Q := by
    intro cap' hcap hrun
    unfold Oper.wp
    rw [hrun]
    have ecells : (arrC enc xs).toArray ++ (flat (enc el)).toArray ++ Builtin.zeroCells z.cells (cap' - (xs.length + 1)) = (arrC enc (xs ++ [el]) ++ (Builtin.zeroCells z.cells (cap' - (xs.length + 1))).toList).toArray := by
      rw [arrC_snoc]
      apply Array.toList_inj.1
      simp
    rw [ecells]
    have hgn := (Good.drew hg1).new e (arrC enc (xs ++ [el]) ++ (Builtin.zeroCells z.cells (cap' - (xs.length + 1))).toList)
    have hstp : Stp wb H (w.drew.alloc (.cells (arrC enc (xs ++ [el]) ++ (Builtin.zeroCells z.cells (cap' - (xs.length + 1))).toList).toArray e)) := by
      refine ⟨hG.os, hG.tape, hG.output, ?_, ?_⟩
      · have := hG.size
        show wb.heap.size ≤ (w.heap.push _).size
        rw [Array.size_push]; omega
      · intro b hb1 hb2
        have := hG.size
        show (w.heap.push _)[b]? = _
        rw [Array.getElem?_push_lt (by omega)]
        rw [← hG.base b hb1 hb2]
        simp [show b < w.heap.size by omega]
    refine ⟨fun _ => ?_, _, _, _, ⟨hst.on.put (by simpa [Nat.blt_eq] using hN) _, good_self hgn⟩,
      h _ ⟨some ⟨w.heap.size, 0, none⟩, xs.length + 1, cap'⟩ (Builtin.zeroCells z.cells (cap' - (xs.length + 1))).toList hstp (below_stp hx0 hstp hk hB) (.inr ⟨_, rfl, hG.size⟩) (by simp) ⟨by simp, by simpa using hcap, ?_, .inr ⟨_, rfl⟩⟩⟩
    · exact keepX_alloc X w _
    · simp [size_zeroCells, hzs]
  rcases ho.pt with ⟨ha, hc⟩ | ⟨b, ha⟩
  · -- nil
    have hx0' : xs.length = 0 := by have := ho.cap; omega
    have hxs : xs = [] := List.eq_nil_of_length_eq_zero hx0'
    have hn0 : s.n = 0 := by rw [ho.len, hx0']
    have hr := run_append_nil (P := Hvat.prog) w t ty e i z hu hi hz1 ⟨b2, 0, none⟩ 1 1 (flat (enc el)) hel hnews (by omega) (by omega) (by rw [hy2]; rw [hx0'] at hb; omega)
    refine grow (grownCap w 1 0 e) (by have := grownCap_ge w 1 0 e; omega) ?_
    have e1 : a.eval x = .slice none 0 0 := by rw [hst.on.eval hx, ha, hn0, hc]
    subst hxs
    simp [execOp, resolve, invoke, builtin, e1, hst.on.eval hy, hr, arrC]
  · -- a block
    have hent : entS s e (arrC enc xs ++ sp) = [(b, e, arrC enc xs ++ sp)] := by simp [entS, ha]
    rw [hent] at hH
    have hmem : (b, e, arrC enc xs ++ sp) ∈ H := by rw [hH]; simp
    have hown : Own w b e (arrC enc xs ++ sp) := hG.own _ hmem
    have e1 : a.eval x = .slice (some ⟨b, 0, none⟩) xs.length s.c := by rw [hst.on.eval hx, ha, ho.len]
    have hclen : (arrC enc xs ++ sp).length = s.c * sz := by
      have := ho.cap
      rw [List.length_append, hlx, ho.spare, ← Nat.add_mul, show xs.length + (s.c - xs.length) = s.c by omega]
    by_cases hroom : xs.length + 1 ≤ s.c
    · have hfit : xs.length * i.size + (flat (enc el)).length ≤ (arrC enc xs ++ sp).toArray.size := by
        rw [hel, hs]
        simp only [List.size_toArray, hclen]
        rw [← Nat.add_mul]
        exact Nat.mul_le_mul_right _ hroom
      have hr := run_append_room (P := Hvat.prog) w t ty e i hu hi b xs.length s.c (arrC enc xs ++ sp).toArray hown ⟨b2, 0, none⟩ 1 1 (flat (enc el)) hel hnews (fun u hu => flat_ok _ u hu) hroom hfit
      have hsplit : ((arrC enc xs ++ sp).toArray.toList.take (xs.length * i.size) ++ flat (enc el) ++ (arrC enc xs ++ sp).toArray.toList.drop (xs.length * i.size + (flat (enc el)).length)) = arrC enc (xs ++ [el]) ++ sp.drop sz := by
        rw [hel, hs, arrC_snoc]
        simp only [Nat.one_mul]
        rw [take_app (arrC enc xs) sp 0 _ (by rw [hlx]; omega), drop_app (arrC enc xs) sp sz _ (by rw [hlx])]
        simp
      rw [hsplit] at hr
      unfold Oper.wp
      have hrun : (execOp a.eval ⟨some d, .call { callee := .builtin .append, args := #[x, y], argTypes := #[t, t] }, ty, pos, af, g⟩).run Hvat.prog w =
          .ok (.value (.slice (some ⟨b, 0, none⟩) (xs.length + 1) s.c)) (w.setRow b (arrC enc (xs ++ [el]) ++ sp.drop sz).toArray) := by
        simp [execOp, resolve, invoke, builtin, e1, hst.on.eval hy, hr]
      rw [hrun]
      have hbn : b ∉ keys (H1 ++ H2) := by
        have nd' := hG.nodup
        rw [hH] at nd'
        simp only [keys, List.map_append, List.map_cons, List.map_nil] at nd' ⊢
        rw [List.nodup_append] at nd'
        obtain ⟨n1, n2, n3⟩ := nd'
        rw [List.nodup_append] at n2
        intro hm
        rcases List.mem_append.1 hm with h' | h'
        · exact n3 b h' b (List.mem_append.2 (.inl (List.mem_singleton.2 rfl))) rfl
        · exact n2.2.2 b (List.mem_singleton.2 rfl) b h' rfl
      have hg2 : Good w ((b, e, arrC enc xs ++ sp) :: Hr) w := good_sub hG (fun q hq => by
        rcases List.mem_cons.1 hq with rfl | hq
        · exact hmem
        · exact subH q (subHr q hq)) (by
          simp only [keys, List.map_cons]
          refine List.nodup_cons.2 ⟨fun hm => hbn ?_, ndr⟩
          obtain ⟨q, hq, hqb⟩ := List.mem_map.1 hm
          exact List.mem_map.2 ⟨q, subHr q hq, hqb⟩)
      have hg3 := hg2.set (upd_here (c' := arrC enc (xs ++ [el]) ++ sp.drop sz))
      have hstp : Stp wb H (w.setRow b (arrC enc (xs ++ [el]) ++ sp.drop sz).toArray) := by
        refine ⟨hG.os, hG.tape, hG.output, by simpa using hG.size, ?_⟩
        intro b' hb1 hb2
        have hne : b' ≠ b := fun e' => hb2 (by subst e'; exact List.mem_map.2 ⟨_, hmem, rfl⟩)
        rw [setRow_other w b b' _ hne]
        exact hG.base b' hb1 hb2
      refine ⟨fun hn => ?_, _, _, _, ⟨hst.on.put (by simpa [Nat.blt_eq] using hN) _, good_self hg3⟩,
        h _ ⟨some ⟨b, 0, none⟩, xs.length + 1, s.c⟩ (sp.drop sz) hstp (below_stp hx0 hstp hk hB) (.inl (by simp [ha])) (by simp) ⟨by simp, by simpa using hroom, ?_, .inr ⟨_, rfl⟩⟩⟩
      · rcases hns with h' | h'
        · rw [h'] at hn; cases hn
        · exact keepX_setRow _ (h' _ ha)
      · simp only [List.length_drop, ho.spare, List.length_append, List.length_singleton]
        rw [show s.c - xs.length = (s.c - (xs.length + 1)) + 1 by omega, Nat.succ_mul]
        omega
    · have hr := run_append_grow (P := Hvat.prog) w t ty e i z hu hi hz1 ⟨b, 0, none⟩ xs.length s.c (arrC enc xs) (by rw [hlx, hs]) (fun j u hj => by
          rw [add_none, hown.cell, Nat.zero_add]
          rw [List.getElem?_append_left (List.getElem?_eq_some_iff.1 hj).1]; exact hj)
        ⟨b2, 0, none⟩ 1 1 (flat (enc el)) hel hnews (by omega) (by omega) (growslice_fits (by omega) (by rw [hy2]; exact hb))
      refine grow (grownCap w (xs.length + 1) s.c e) (grownCap_ge w (xs.length + 1) s.c e) ?_
      simp [execOp, resolve, invoke, builtin, e1, hst.on.eval hy, hr]
end
end Go.Proofs.YgvatwGreat
