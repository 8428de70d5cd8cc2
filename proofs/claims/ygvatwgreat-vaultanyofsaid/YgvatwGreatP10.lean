/-
  P10: what the arguments of the row hold.
-/
import Derived.Test.YgvatwGreatC88
import Derived.Deep.Slices
import Derived.OpenShut
import GoSem.ClaimJoined
namespace Go.Proofs.YgvatwGreat
open Go Go.RowKit
set_option linter.unusedVariables false
set_option linter.unusedSimpArgs false

section
variable {H : Type} {en : TypeId × Value → H} {W : World}
/-- The cells cs read as data of type t. -/
def TR (en : TypeId × Value → H) (W : World) (fuel t : Nat) (cs : List Value) (x : DataW H × List MemPlace) : Prop := DataW.trod en Hvat.prog W 0 (fun _ => true) true fuel t cs = some x
def WOk (l : List Nat) : Prop := ∀ n ∈ l, n ≤ reachBytes
def Dec {α : Type} (en : TypeId × Value → H) (W : World) (t : Nat) (E : α → List Chunk) (R : α → Prop) : Prop :=
  ∀ fuel cs x, TR en W fuel t cs x → WOk (x.1.weights Hvat.prog t) → ∃ a, cs = flat (E a) ∧ R a
theorem dec_int {k : IntKind} {t fuel : Nat} {cs : List Value} {x : DataW H × List MemPlace} (hu : Hvat.prog.underlying t = some (.int k)) (h : TR en W fuel t cs x) : ∃ n, cs = [.int k n] ∧ k.min ≤ n ∧ n ≤ k.max := by
  obtain ⟨n, h1, _, h3⟩ := DataW.trod_int hu h
  unfold Lit.wf at h3
  simp only [Bool.and_eq_true, decide_eq_true_eq] at h3
  exact ⟨n, h1, h3⟩
theorem dec_u8 : Dec en W 5 (fun n : Nat => [cI .u8 (n : Int)]) (fun n => n < 256) := by
  intro fuel cs x h _
  obtain ⟨n, rfl, h1, h2⟩ := dec_int Hvat.underlying5 h
  have h1' : 0 ≤ n := h1
  have h2' : n ≤ 255 := h2
  exact ⟨n.toNat, by show _ = [Value.int .u8 (n.toNat : Int)]; rw [show ((n.toNat : Nat) : Int) = n by omega], by omega⟩
theorem dec_byte : Dec en W 5 (fun b : UInt8 => [cI .u8 (b.toNat : Int)]) (fun _ => True) := by
  intro fuel cs x h _
  obtain ⟨n, rfl, h1, h2⟩ := dec_int Hvat.underlying5 h
  have h1' : 0 ≤ n := h1
  have h2' : n ≤ 255 := h2
  refine ⟨UInt8.ofNat n.toNat, ?_, trivial⟩
  show _ = [Value.int .u8 ((UInt8.ofNat n.toNat).toNat : Int)]
  rw [UInt8.toNat_ofNat', Nat.mod_eq_of_lt (by omega), show ((n.toNat : Nat) : Int) = n by omega]
theorem dec_i32 : Dec en W 21 (fun n : Int => [cI .i32 n]) isI32 := by
  intro fuel cs x h _
  obtain ⟨n, rfl, h1, h2⟩ := dec_int Hvat.underlying21 h
  have h1' : -2147483648 ≤ n := h1
  have h2' : n ≤ 2147483647 := h2
  exact ⟨n, rfl, by omega, by omega⟩
theorem dec_u64 : Dec en W 27 (fun n : U64 => [cU n]) (fun _ => True) := by
  intro fuel cs x h _
  obtain ⟨n, rfl, h1, h2⟩ := dec_int Hvat.underlying27 h
  have h1' : 0 ≤ n := h1
  have h2' : n ≤ 18446744073709551615 := h2
  refine ⟨BitVec.ofNat 64 n.toNat, ?_, trivial⟩
  show _ = [Value.int .u64 ((BitVec.ofNat 64 n.toNat).toNat : Int)]
  rw [BitVec.toNat_ofNat, Nat.mod_eq_of_lt (by omega), show ((n.toNat : Nat) : Int) = n by omega]
theorem dec_bool : Dec en W 4 (fun b : Bool => [cB b]) (fun _ => True) := by
  intro fuel cs x h _
  obtain ⟨b, rfl, _⟩ := DataW.trod_bool Hvat.underlying4 h
  exact ⟨b, rfl, trivial⟩
/-! ### Arrays of numbers -/
theorem exists_fn {α : Type} [Inhabited α] {P : Nat → α → Prop} : ∀ n : Nat, (∀ i, i < n → ∃ a, P i a) → ∃ f : Nat → α, ∀ i, i < n → P i (f i)
  | 0, _ => ⟨fun _ => default, fun i hi => by omega⟩
  | n + 1, h => by
    obtain ⟨f, hf⟩ := exists_fn n (fun i hi => h i (by omega))
    obtain ⟨a, ha⟩ := h n (by omega)
    refine ⟨fun i => if i = n then a else f i, fun i hi => ?_⟩
    show P i (if i = n then a else f i)
    by_cases e : i = n
    · rw [if_pos e, e]; exact ha
    · rw [if_neg e]; exact hf i (by omega)
theorem dec_ints {k : IntKind} {t e N fuel : Nat} {cs : List Value} {x : DataW H × List MemPlace} (hu : Hvat.prog.underlying t = some (.array N e)) (he : Hvat.prog.underlying e = some (.int k)) (hc : Hvat.prog.cellsOf e = 1) (hN : Hvat.prog.cellsOf t = N) (h : TR en W fuel t cs x) :
    ∃ f : Nat → Int, cs = (List.range N).map (fun i => .int k (f i)) ∧ ∀ i, i < N → k.min ≤ f i ∧ f i ≤ k.max := by
  obtain ⟨xs, m, _, _, hl, hxl, hi⟩ := DataW.trod_array hu h
  rw [hN] at hl
  obtain ⟨f, hf⟩ := exists_fn (P := fun i n => cs[i]? = some (.int k n) ∧ k.min ≤ n ∧ n ≤ k.max) N (fun i hiN => by
    have h1 := hi i hiN
    rw [hc, Nat.mul_one, List.getElem?_eq_getElem (by omega)] at h1
    obtain ⟨n, e1, e2⟩ := dec_int (W := W) (en := en) he h1
    refine ⟨n, ?_, e2⟩
    have h2 : (List.take 1 (List.drop i cs))[0]? = some (.int k n) := by rw [e1]; rfl
    rw [List.getElem?_take, if_pos (by decide), List.getElem?_drop, Nat.add_zero] at h2
    exact h2)
  refine ⟨f, List.ext_getElem? fun i => ?_, fun i hi => (hf i hi).2⟩
  by_cases hiN : i < N
  · rw [(hf i hiN).1, List.getElem?_map, List.getElem?_range hiN]; rfl
  · rw [List.getElem?_eq_none (by omega), List.getElem?_eq_none (by simp; omega)]
theorem be_ex : ∀ (n : Nat) (f : Nat → Nat), (∀ i, i < n → f i < 256) → ∃ x, x < 256 ^ n ∧ ∀ i, i < n → x / 256 ^ (n - 1 - i) % 256 = f i
  | 0, f, _ => ⟨0, by simp, fun i hi => by omega⟩
  | n + 1, f, h => by
    obtain ⟨x, hx, hi⟩ := be_ex n f (fun i hi => h i (by omega))
    have hfn := h n (by omega)
    refine ⟨x * 256 + f n, ?_, fun i hin => ?_⟩
    · rw [Nat.pow_succ]; omega
    · by_cases e : i = n
      · rw [e, show n + 1 - 1 - n = 0 by omega, Nat.pow_zero, Nat.div_one]; omega
      · have e2 : n + 1 - 1 - i = (n - 1 - i) + 1 := by omega
        rw [e2, Nat.pow_succ, Nat.mul_comm (256 ^ (n - 1 - i)) 256, ← Nat.div_div_eq_div_mul, show (x * 256 + f n) / 256 = x by omega]
        exact hi i (by omega)
theorem dec_be {t N fuel : Nat} {cs : List Value} {x : DataW H × List MemPlace} (hu : Hvat.prog.underlying t = some (.array N 5)) (hN : Hvat.prog.cellsOf t = N) (h : TR en W fuel t cs x) : ∃ z, z < 256 ^ N ∧ cs = beL N z := by
  obtain ⟨f, e, hf⟩ := dec_ints hu Hvat.underlying5 (by kernel_rfl) hN h
  obtain ⟨z, hz, hi⟩ := be_ex N (fun i => (f i).toNat) (fun i hi => by
    have h1 : 0 ≤ f i := (hf i hi).1
    have h2 : f i ≤ 255 := (hf i hi).2
    omega)
  refine ⟨z, hz, ?_⟩
  rw [e]
  unfold beL
  refine List.map_congr_left fun i hi' => ?_
  have hiN := List.mem_range.1 hi'
  have h1 : 0 ≤ f i := (hf i hiN).1
  rw [hi i hiN, show (((f i).toNat : Nat) : Int) = f i by omega]
theorem dec_addr : Dec en W 34 (fun a : A160 => [cA a]) (fun _ => True) := by
  intro fuel cs x h _
  obtain ⟨z, hz, rfl⟩ := dec_be Hvat.underlying34 (by kernel_rfl) h
  refine ⟨BitVec.ofNat 160 z, ?_, trivial⟩
  show _ = beL 20 (BitVec.ofNat 160 z).toNat ++ []
  rw [BitVec.toNat_ofNat, Nat.mod_eq_of_lt (by rw [show (2 : Nat) ^ 160 = 256 ^ 20 by decide]; exact hz), List.append_nil]
theorem dec_y {t : Nat} (hu : Hvat.prog.underlying t = some (.array 32 5)) (hN : Hvat.prog.cellsOf t = 32) : Dec en W t (fun a : W256 => [cY a]) (fun _ => True) := by
  intro fuel cs x h _
  obtain ⟨z, hz, rfl⟩ := dec_be hu hN h
  refine ⟨BitVec.ofNat 256 z, ?_, trivial⟩
  show _ = beL 32 (BitVec.ofNat 256 z).toNat ++ []
  rw [BitVec.toNat_ofNat, Nat.mod_eq_of_lt (by rw [show (2 : Nat) ^ 256 = 256 ^ 32 by decide]; exact hz), List.append_nil]
theorem dec_w : Dec en W 45 (fun a : W256 => [cW a]) (fun _ => True) := by
  intro fuel cs x h _
  obtain ⟨f, rfl, hf⟩ := dec_ints Hvat.underlying45 Hvat.underlying27 (by kernel_rfl) (by kernel_rfl) h
  have hr : ∀ i, i < 4 → 0 ≤ f i ∧ f i ≤ 18446744073709551615 := hf
  have e : ∀ i, i < 4 → f i = ((BitVec.ofNat 64 (f i).toNat).toNat : Int) := fun i hi => by
    have := hr i hi
    rw [BitVec.toNat_ofNat, Nat.mod_eq_of_lt (by omega)]; omega
  refine ⟨mkW (BitVec.ofNat 64 (f 0).toNat) (BitVec.ofNat 64 (f 1).toNat) (BitVec.ofNat 64 (f 2).toNat) (BitVec.ofNat 64 (f 3).toNat), ?_, trivial⟩
  show _ = wordL _ ++ []
  obtain ⟨h0, h1, h2, h3⟩ := limb_mkW (BitVec.ofNat 64 (f 0).toNat) (BitVec.ofNat 64 (f 1).toNat) (BitVec.ofNat 64 (f 2).toNat) (BitVec.ofNat 64 (f 3).toNat)
  rw [List.append_nil, wordL_limbs, h0, h1, h2, h3, ← e 0 (by decide), ← e 1 (by decide), ← e 2 (by decide), ← e 3 (by decide)]
  rfl
theorem dec_tab {t N : Nat} (hu : Hvat.prog.underlying t = some (.array N 21)) (hN : Hvat.prog.cellsOf t = N) : Dec en W t (fun f : Nat → Int => [cT N f]) (fun f => ∀ i, i < N → isI32 (f i)) := by
  intro fuel cs x h _
  obtain ⟨f, rfl, hf⟩ := dec_ints hu Hvat.underlying21 (by kernel_rfl) hN h
  have hr : ∀ i, i < N → -2147483648 ≤ f i ∧ f i ≤ 2147483647 := hf
  refine ⟨f, ?_, fun i hi => ⟨by have := hr i hi; omega, by have := hr i hi; omega⟩⟩
  show _ = tabL N f ++ []
  rw [List.append_nil]; rfl
/-! ### Structs -/
theorem wEach_mem {P : Program} : ∀ {ts : List Nat} {ds : List (DataW H)} {i : Nat} {t : Nat} {d : DataW H}, ts[i]? = some t → ds[i]? = some d → ∀ n ∈ d.weights P t, n ∈ DataW.weightsEach P ts ds
  | [], ds, i, t, d, h, _ => by simp at h
  | t0 :: ts, [], i, t, d, _, h => by simp at h
  | t0 :: ts, d0 :: ds, 0, t, d, h1, h2 => by
    simp only [List.getElem?_cons_zero, Option.some.injEq] at h1 h2
    subst h1 h2
    intro n hn
    unfold DataW.weightsEach
    exact List.mem_append.2 (.inl hn)
  | t0 :: ts, d0 :: ds, i + 1, t, d, h1, h2 => by
    rw [List.getElem?_cons_succ] at h1 h2
    intro n hn
    unfold DataW.weightsEach
    exact List.mem_append.2 (.inr (wEach_mem h1 h2 n hn))
theorem wAll_mem {P : Program} {e : Nat} : ∀ {ds : List (DataW H)} {d : DataW H}, d ∈ ds → ∀ n ∈ d.weights P e, n ∈ DataW.weightsAll P e ds
  | [], d, h => by cases h
  | d0 :: ds, d, h => by
    intro n hn
    unfold DataW.weightsAll
    rcases List.mem_cons.1 h with rfl | h
    · exact List.mem_append.2 (.inl hn)
    · exact List.mem_append.2 (.inr (wAll_mem h n hn))
theorem dec_struct {t fuel : Nat} {fs : Array Field} {cs : List Value} {x : DataW H × List MemPlace} (hu : Hvat.prog.underlying t = some (.struct fs)) (h : TR en W fuel t cs x) (hw : WOk (x.1.weights Hvat.prog t)) :
    cs.length = Hvat.prog.cellsOf t ∧ ∀ (i : Nat) f, fs[i]? = some f → ∃ n y, TR en W n f.type ((cs.drop f.offset).take (Hvat.prog.cellsOf f.type)) y ∧ WOk (y.1.weights Hvat.prog f.type) := by
  obtain ⟨xs, n, _, hx, hl, hxl, hi⟩ := DataW.trod_struct hu h
  have hw' : WOk (DataW.weightsEach Hvat.prog (fs.toList.map (·.type)) (xs.map (·.1))) := by
    rw [hx] at hw
    simpa only [DataW.weights, hu] using hw
  clear hw hx
  refine ⟨hl, fun i f hf => ?_⟩
  have h1 := hi i f hf
  have hlt : i < xs.length := by
    have := (Array.getElem?_eq_some_iff.1 hf).1
    omega
  rw [List.getElem?_eq_getElem hlt] at h1
  refine ⟨n, xs[i], h1, fun k hk => hw' k ?_⟩
  refine wEach_mem (i := i) (t := f.type) (d := xs[i].1) ?_ ?_ k hk
  · rw [List.getElem?_map]
    have : fs.toList[i]? = some f := by simpa using hf
    rw [this]; rfl
  · rw [List.getElem?_map, List.getElem?_eq_getElem hlt]; rfl
theorem seg {cs : List Value} (o s : Nat) : cs.drop o = (cs.drop o).take s ++ cs.drop (o + s) := by
  rw [← List.drop_drop, List.take_append_drop]
/-! ### Slices -/
theorem cell_flat {a : Addr} {p q : Nat} {v : Value} (h : W.cell? ((a.add p).add q) = some v) : W.cell? ⟨a.block, a.off + p + q, none⟩ = some v ∧ (p = 0 → q = 0 → a.spot = none) := by
  unfold Addr.add at h
  by_cases hp : p = 0
  · subst hp
    simp only [if_true] at h
    by_cases hq : q = 0
    · subst hq
      simp only [if_true] at h
      have hs : a.spot = none := by
        unfold World.cell? at h
        cases hb : W.heap[a.block]? with
        | none => rw [hb] at h; cases h
        | some o =>
          rw [hb] at h
          cases o <;> simp only at h
          · split at h
            · cases h
            · rename_i hn; simpa using hn
          all_goals cases h
      obtain ⟨b, o, sp⟩ := a
      simp only at hs
      subst hs
      exact ⟨h, fun _ _ => rfl⟩
    · rw [if_neg hq] at h
      exact ⟨h, fun _ h0 => absurd h0 hq⟩
  · rw [if_neg hp] at h
    by_cases hq : q = 0
    · subst hq
      simp only [if_true] at h
      exact ⟨h, fun h0 => absurd h0 hp⟩
    · rw [if_neg hq] at h
      exact ⟨h, fun h0 => absurd h0 hp⟩
theorem exists_list {α : Type} {P : Nat → α → Prop} : ∀ n : Nat, (∀ i, i < n → ∃ a, P i a) → ∃ l : List α, l.length = n ∧ ∀ (i : Nat) a, l[i]? = some a → P i a
  | 0, _ => ⟨[], rfl, fun i a h => by simp at h⟩
  | n + 1, h => by
    obtain ⟨l, hl, hP⟩ := exists_list n (fun i hi => h i (by omega))
    obtain ⟨a, ha⟩ := h n (by omega)
    refine ⟨l ++ [a], by simp [hl], fun i b hb => ?_⟩
    by_cases hi : i < l.length
    · rw [List.getElem?_append_left hi] at hb; exact hP i b hb
    · rw [List.getElem?_append_right (by omega)] at hb
      have : i - l.length = 0 := by
        by_cases e : i - l.length = 0
        · exact e
        · rw [List.getElem?_eq_none (by simp; omega)] at hb; cases hb
      rw [this] at hb
      simp at hb
      subst hb
      rw [show i = n by omega]; exact ha
theorem cellsAt_app {b o : Nat} {l l' : List Value} (h : CellsAt W b o l) (h' : CellsAt W b (o + l.length) l') : CellsAt W b o (l ++ l') := by
  intro j v hv
  by_cases hj : j < l.length
  · rw [List.getElem?_append_left hj] at hv; exact h j v hv
  · rw [List.getElem?_append_right (by omega)] at hv
    have := h' (j - l.length) v hv
    rw [show o + l.length + (j - l.length) = o + j by omega] at this
    exact this
theorem cellsAt_arrG {α : Type} {E : α → List Chunk} {sz b o : Nat} (hE : ∀ a, flen (E a) = sz) : ∀ (l : List α) (k : Nat), (∀ (i : Nat) a, l[i]? = some a → CellsAt W b (o + (k + i) * sz) (flat (E a))) → CellsAt W b (o + k * sz) (arrC E l)
  | [], k, _ => fun j v hv => by simp [arrC] at hv
  | a :: l, k, h => by
    unfold arrC
    refine cellsAt_app (h 0 a rfl) ?_
    rw [flat_len, hE]
    have := cellsAt_arrG hE l (k + 1) (fun i x hx => by
      have := h (i + 1) x (by simpa using hx)
      rw [show k + 1 + i = k + (i + 1) by omega]; exact this)
    rw [show o + k * sz + sz = o + (k + 1) * sz by rw [Nat.succ_mul]; omega]
    exact this
theorem dec_slice {α : Type} {E : α → List Chunk} {R : α → Prop} {t e sz bz : Nat} (hu : Hvat.prog.underlying t = some (.slice e)) (hc : Hvat.prog.cellsOf e = sz) (hbz : Hvat.prog.bytesOf e = bz) (hsz : 0 < sz) (hE : ∀ a, flen (E a) = sz) (hd : Dec en W e E R) :
    Dec en W t (fun p : Sl × Option (List α) => [cS p.1]) (fun p => SlI W p.1 E (optL p.2) ∧ (p.1.a = none ↔ p.2 = none) ∧ (∀ a ∈ optL p.2, R a) ∧ (optL p.2).length * bz ≤ reachBytes) := by
  intro fuel cs x h hw
  rcases Go.Deep.open_slice hu h with ⟨rfl, rfl⟩ | ⟨a, len, cap, m, n, D, Pl, rfl, _, hlc, _, hm, rfl, hel⟩
  · exact ⟨(nilSl, none), rfl, ⟨rfl, fun _ => rfl, .inl rfl⟩, ⟨fun _ => rfl, fun _ => rfl⟩, fun a ha => (by cases ha), by simp [optL]⟩
  · simp only [if_true] at hm
    subst hm
    have hww : ∀ k ∈ DataW.weights Hvat.prog t (.slice ((List.range len).map D) ((List.range (m - len)).map fun j => D (len + j))), k ≤ reachBytes := hw
    simp only [DataW.weights, hu] at hww
    have hlen : len * bz ≤ reachBytes := by
      have := hww _ (.head _)
      simp only [List.length_map, List.length_range, hbz] at this
      exact Nat.le_trans (Nat.mul_le_mul_right bz (by omega)) this
    obtain ⟨l, hl, hP⟩ := exists_list (P := fun i (y : α) => (∃ cs', W.cells? 0 (a.add (i * sz)) sz = some cs' ∧ cs' = flat (E y)) ∧ R y) len (fun i hi => by
      obtain ⟨cs', h1, h2⟩ := hel i (by omega)
      rw [hc] at h1
      obtain ⟨y, e1, e2⟩ := hd n cs' (D i, Pl i) h2 (fun k hk => hww k (.tail _ (List.mem_append.2 (.inl (wAll_mem (List.mem_map.2 ⟨i, List.mem_range.2 hi, rfl⟩) k hk)))))
      exact ⟨y, ⟨cs', h1, e1⟩, e2⟩)
    have hcell : ∀ (i : Nat) y, l[i]? = some y → ∀ (j : Nat) v, (flat (E y))[j]? = some v → W.cell? ((a.add (i * sz)).add j) = some v := by
      intro i y hy j v hv
      obtain ⟨cs', h1, rfl⟩ := (hP i y hy).1
      unfold World.cells? at h1
      rw [if_pos (Nat.zero_le _)] at h1
      have hj : j < sz := by
        have := (List.getElem?_eq_some_iff.1 hv).1
        rw [flat_len, hE] at this; exact this
      have := mapM_some_get h1 j j (by simp [hj])
      rw [this, hv]
    refine ⟨(⟨some a, len, m⟩, some l), rfl, ⟨hl.symm, fun h0 => (by cases h0), ?_⟩, ⟨fun h0 => (by cases h0), fun h0 => (by cases h0)⟩, fun y hy => ?_, by rw [show optL (some l) = l from rfl, hl]; exact hlen⟩
    · by_cases h0 : l = []
      · exact .inl h0
      · right
        have hpos : 0 < l.length := List.length_pos_iff.2 h0
        have hy0 : l[0]? = some l[0] := List.getElem?_eq_getElem hpos
        have hfl : 0 < (flat (E l[0])).length := by rw [flat_len, hE]; exact hsz
        have hs := (cell_flat (hcell 0 _ hy0 0 _ (List.getElem?_eq_getElem hfl))).2 (by simp) rfl
        refine ⟨a.block, a.off, by obtain ⟨b, o, sp⟩ := a; simp only at hs; rw [hs], ?_⟩
        have := cellsAt_arrG (W := W) (b := a.block) (o := a.off) hE l 0 (fun i y hy j v hv => by
          have := (cell_flat (hcell i y hy j v hv)).1
          rw [Nat.zero_add]; exact this)
        rw [Nat.zero_mul, Nat.add_zero] at this
        exact this
    · obtain ⟨i, hi⟩ := List.mem_iff_getElem?.1 hy
      exact (hP i y hi).2
theorem arr_bL : ∀ l : List UInt8, arrC (fun b : UInt8 => [cI .u8 (b.toNat : Int)]) l = bL l
  | [] => rfl
  | b :: l => by
    have := arr_bL l
    unfold arrC
    rw [this]; rfl
theorem dec_code : Dec en W 36 (fun p : Sl × Option (List UInt8) => [cS p.1]) (fun p => CodeI W p.1 p.2 ∧ (oB p.2).length ≤ 140737488355328) := by
  intro fuel cs x h hw
  obtain ⟨⟨s, o⟩, h1, h2, h3, h4, h5⟩ := dec_slice (sz := 1) (bz := 1) Hvat.underlying36 (by kernel_rfl) (by kernel_rfl) (by decide) (fun _ => rfl) dec_byte fuel cs x h hw
  have ho : optL o = oB o := by cases o <;> rfl
  refine ⟨(s, o), h1, ?_, by rw [ho] at h5; unfold reachBytes at h5; simp only; omega⟩
  simp only at h2 h3
  cases o with
  | none => exact .inl ⟨rfl, h2.nil (h3.2 rfl)⟩
  | some l =>
    right
    cases ha : s.a with
    | none => exact absurd (h3.1 ha) (by simp)
    | some a =>
      refine ⟨a, l, rfl, rfl, h2.n, orMap h2.p id fun ⟨b, o, e1, e2⟩ => ⟨b, o, e1, ?_⟩⟩
      rw [show optL (some l) = l from rfl, arr_bL] at e2
      exact e2
end
end Go.Proofs.YgvatwGreat
