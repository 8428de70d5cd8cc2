/-
  ENGINE, PART E: memory in chunks; loads, stores, new blocks, calls.
-/
import Derived.Test.YgvatwGreatEngD
import Derived.Laws.Tables
namespace Go.Proofs.YgvatwGreat
open Go
set_option linter.unusedVariables false
set_option linter.unusedSimpArgs false

theorem take_app {α : Type} (A L : List α) (n m : Nat) (h : m = A.length + n) : (A ++ L).take m = A ++ L.take n := by
  subst h; rw [List.take_append, List.take_of_length_le (by omega), Nat.add_sub_cancel_left]
theorem drop_app {α : Type} (A L : List α) (n m : Nat) (h : m = A.length + n) : (A ++ L).drop m = L.drop n := by
  subst h; rw [List.drop_append, List.drop_of_length_le (by omega), Nat.add_sub_cancel_left, List.nil_append]

/-! ### Chunks -/
structure Chunk where
  n : Nat
  l : List Value
  len : l.length = n
  ok : ∀ v ∈ l, v.oneCell' = true

def flat : List Chunk → List Value
  | [] => []
  | c :: cs => c.l ++ flat cs
def flen : List Chunk → Nat
  | [] => 0
  | c :: cs => c.n + flen cs
theorem flat_len : ∀ cs : List Chunk, (flat cs).length = flen cs
  | [] => rfl
  | c :: cs => by simp [flat, flen, flat_len cs, c.len]
theorem flat_ok : ∀ (cs : List Chunk) (v : Value), v ∈ flat cs → v.oneCell' = true
  | [], v, h => by cases h
  | c :: cs, v, h => by
    simp only [flat, List.mem_append] at h
    rcases h with h | h
    · exact c.ok v h
    · exact flat_ok cs v h
theorem flat_append (a b : List Chunk) : flat (a ++ b) = flat a ++ flat b := by
  induction a with
  | nil => rfl
  | cons c a ih => simp [flat, ih]

/-- A struct or an array as a value. -/
def aggC (cs : List Chunk) : Value := .agg (flat cs).toArray

/-- A slice's header. -/
structure Sl where
  a : Option Addr
  n : Nat
  c : Nat
def Sl.v (s : Sl) : Value := .slice s.a s.n s.c
def nilSl : Sl := ⟨none, 0, 0⟩

def beL (n x : Nat) : List Value := (List.range n).map fun i => .int .u8 ((x / 256 ^ (n - 1 - i) % 256 : Nat) : Int)
def wordL (x : Nat) : List Value := (List.range 4).map fun i => .int .u64 ((x / 2 ^ (64 * i) % 2 ^ 64 : Nat) : Int)
def tabL (n : Nat) (f : Nat → Int) : List Value := (List.range n).map fun i => .int .i32 (f i)
def boolL (n : Nat) (f : Nat → Bool) : List Value := (List.range n).map fun i => .bool (f i)

theorem beL_len (n x : Nat) : (beL n x).length = n := by simp [beL]
theorem wordL_len (x : Nat) : (wordL x).length = 4 := by simp [wordL]
theorem tabL_len (n : Nat) (f : Nat → Int) : (tabL n f).length = n := by simp [tabL]
theorem boolL_len (n : Nat) (f : Nat → Bool) : (boolL n f).length = n := by simp [boolL]
theorem beL_ok (n x : Nat) : ∀ v ∈ beL n x, v.oneCell' = true := by
  intro v hv; simp only [beL, List.mem_map] at hv; obtain ⟨i, _, rfl⟩ := hv; rfl
theorem wordL_ok (x : Nat) : ∀ v ∈ wordL x, v.oneCell' = true := by
  intro v hv; simp only [wordL, List.mem_map] at hv; obtain ⟨i, _, rfl⟩ := hv; rfl
theorem tabL_ok (n : Nat) (f : Nat → Int) : ∀ v ∈ tabL n f, v.oneCell' = true := by
  intro v hv; simp only [tabL, List.mem_map] at hv; obtain ⟨i, _, rfl⟩ := hv; rfl
theorem boolL_ok (n : Nat) (f : Nat → Bool) : ∀ v ∈ boolL n f, v.oneCell' = true := by
  intro v hv; simp only [boolL, List.mem_map] at hv; obtain ⟨i, _, rfl⟩ := hv; rfl

abbrev A160 := BitVec 160
abbrev W256 := BitVec 256
abbrev U64 := BitVec 64

theorem one_ok (v : Value) (h : v.oneCell' = true) : ∀ u ∈ [v], u.oneCell' = true := by
  intro u hu; simp only [List.mem_singleton] at hu; subst hu; exact h

def cI (k : IntKind) (x : Int) : Chunk := ⟨1, [.int k x], rfl, one_ok _ rfl⟩
def cU (x : U64) : Chunk := ⟨1, [.int .u64 (x.toNat : Int)], rfl, one_ok _ rfl⟩
def cB (b : Bool) : Chunk := ⟨1, [.bool b], rfl, one_ok _ rfl⟩
def cS (s : Sl) : Chunk := ⟨1, [.slice s.a s.n s.c], rfl, one_ok _ rfl⟩
def cA (a : A160) : Chunk := ⟨20, beL 20 a.toNat, beL_len _ _, beL_ok _ _⟩
def cW (x : W256) : Chunk := ⟨4, wordL x.toNat, wordL_len _, wordL_ok _⟩
def cY (x : W256) : Chunk := ⟨32, beL 32 x.toNat, beL_len _ _, beL_ok _ _⟩
def cT (n : Nat) (f : Nat → Int) : Chunk := ⟨n, tabL n f, tabL_len _ _, tabL_ok _ _⟩
def cF (n : Nat) (f : Nat → Bool) : Chunk := ⟨n, boolL n f, boolL_len _ _, boolL_ok _ _⟩

/-- The chunk of a scalar. -/
def ck : Value → Option Chunk
  | .int k x => some (cI k x)
  | .bool b => some (cB b)
  | .slice a n c => some (cS ⟨a, n, c⟩)
  | _ => none
theorem ck_l {v : Value} {c : Chunk} (h : ck v = some c) : c.l = [v] ∧ c.n = 1 := by
  cases v <;> simp only [ck] at h <;> first | (cases h; done) | (cases h; exact ⟨rfl, rfl⟩)

def takeC : List Chunk → Nat → Option (List Chunk)
  | [], n => match Nat.beq n 0 with
    | true => some []
    | false => none
  | c :: cs, n => match Nat.beq n 0 with
    | true => some []
    | false => match Nat.ble c.n n with
      | true => match takeC cs (n - c.n) with
        | some l => some (c :: l)
        | none => none
      | false => none
def dropC : List Chunk → Nat → Option (List Chunk)
  | [], n => match Nat.beq n 0 with
    | true => some []
    | false => none
  | c :: cs, n => match Nat.beq n 0 with
    | true => some (c :: cs)
    | false => match Nat.ble c.n n with
      | true => dropC cs (n - c.n)
      | false => none
def getC : List Chunk → Nat → Nat → Option (List Chunk)
  | [], _, _ => none
  | c :: cs, o, n => match Nat.beq o 0 with
    | true => takeC (c :: cs) n
    | false => match Nat.ble c.n o with
      | true => getC cs (o - c.n) n
      | false => none
def setC : List Chunk → Nat → Nat → List Chunk → Option (List Chunk)
  | [], _, _, _ => none
  | c :: cs, o, n, ds => match Nat.beq o 0 with
    | true => match dropC (c :: cs) n with
      | some l => some (ds ++ l)
      | none => none
    | false => match Nat.ble c.n o with
      | true => match setC cs (o - c.n) n ds with
        | some l => some (c :: l)
        | none => none
      | false => none

theorem takeC_spec : ∀ (cs : List Chunk) (n : Nat) (ds : List Chunk), takeC cs n = some ds → (flat cs).take n = flat ds ∧ n ≤ flen cs ∧ flen ds = n
  | [], n, ds, h => by
    simp only [takeC] at h
    split at h
    · rename_i hn; cases h; have := Nat.eq_of_beq_eq_true hn; subst this; simp [flat, flen]
    · cases h
  | c :: cs, n, ds, h => by
    simp only [takeC] at h
    split at h
    · rename_i hn; cases h; have := Nat.eq_of_beq_eq_true hn; subst this; simp [flat, flen]
    · split at h
      · rename_i hle
        have hle := Nat.le_of_ble_eq_true hle
        split at h
        · rename_i l hl
          cases h
          obtain ⟨h1, h2, h3⟩ := takeC_spec cs (n - c.n) l hl
          refine ⟨?_, by simp only [flen]; omega, by simp only [flen]; omega⟩
          simp only [flat]
          rw [List.take_append, c.len, h1, List.take_of_length_le (by rw [c.len]; exact hle)]
        · cases h
      · cases h

theorem dropC_spec : ∀ (cs : List Chunk) (n : Nat) (ds : List Chunk), dropC cs n = some ds → (flat cs).drop n = flat ds ∧ n ≤ flen cs
  | [], n, ds, h => by
    simp only [dropC] at h
    split at h
    · rename_i hn; cases h; have := Nat.eq_of_beq_eq_true hn; subst this; simp [flat, flen]
    · cases h
  | c :: cs, n, ds, h => by
    simp only [dropC] at h
    split at h
    · rename_i hn; cases h; have := Nat.eq_of_beq_eq_true hn; subst this; simp [flat, flen]
    · split at h
      · rename_i hle
        have hle := Nat.le_of_ble_eq_true hle
        obtain ⟨h1, h2⟩ := dropC_spec cs (n - c.n) ds h
        refine ⟨?_, by simp only [flen]; omega⟩
        simp only [flat]
        rw [List.drop_append, c.len, h1, List.drop_of_length_le (by rw [c.len]; exact hle), List.nil_append]
      · cases h

theorem getC_spec : ∀ (cs : List Chunk) (o n : Nat) (ds : List Chunk), getC cs o n = some ds → ((flat cs).drop o).take n = flat ds ∧ o + n ≤ flen cs ∧ flen ds = n
  | [], _, _, _, h => by cases h
  | c :: cs, o, n, ds, h => by
    simp only [getC] at h
    split at h
    · rename_i ho
      have := Nat.eq_of_beq_eq_true ho; subst this
      obtain ⟨h1, h2, h3⟩ := takeC_spec _ _ _ h
      exact ⟨by simpa using h1, by simpa using h2, h3⟩
    · split at h
      · rename_i hle
        have hle := Nat.le_of_ble_eq_true hle
        obtain ⟨h1, h2, h3⟩ := getC_spec cs (o - c.n) n ds h
        refine ⟨?_, by simp only [flen]; omega, h3⟩
        simp only [flat]
        rw [List.drop_append, c.len, List.drop_of_length_le (by rw [c.len]; exact hle), List.nil_append]
        exact h1
      · cases h

theorem setC_spec : ∀ (cs : List Chunk) (o n : Nat) (ds cs' : List Chunk), setC cs o n ds = some cs' →
    flat cs' = (flat cs).take o ++ flat ds ++ (flat cs).drop (o + n) ∧ o + n ≤ flen cs
  | [], _, _, _, _, h => by cases h
  | c :: cs, o, n, ds, cs', h => by
    simp only [setC] at h
    split at h
    · rename_i ho
      have := Nat.eq_of_beq_eq_true ho; subst this
      split at h
      · rename_i l hl
        cases h
        obtain ⟨h1, h2⟩ := dropC_spec _ _ _ hl
        refine ⟨?_, by simpa using h2⟩
        rw [flat_append, ← h1]
        simp
      · cases h
    · split at h
      · rename_i hle
        have hle := Nat.le_of_ble_eq_true hle
        split at h
        · rename_i l hl
          cases h
          obtain ⟨h1, h2⟩ := setC_spec cs (o - c.n) n ds l hl
          refine ⟨?_, by simp only [flen]; omega⟩
          simp only [flat]
          rw [take_app c.l (flat cs) (o - c.n) o (by rw [c.len]; omega), drop_app c.l (flat cs) (o - c.n + n) (o + n) (by rw [c.len]; omega), h1]
          simp [List.append_assoc]
        · cases h
      · cases h

/-! ### What lies at a place of a block -/
def GetN (c : List Value) (o n : Nat) (ds : List Chunk) : Prop := (c.drop o).take n = flat ds ∧ o + n ≤ c.length ∧ flen ds = n
def Get1 (c : List Value) (o : Nat) (v : Value) : Prop := c[o]? = some v
def SetN (c : List Value) (o : Nat) (ds : List Chunk) (c' : List Value) : Prop := c' = c.take o ++ flat ds ++ c.drop (o + flen ds) ∧ o + flen ds ≤ c.length

theorem gN_flat {cs : List Chunk} {o n : Nat} {ds : List Chunk} (h : getC cs o n = some ds) : GetN (flat cs) o n ds := by
  obtain ⟨h1, h2, h3⟩ := getC_spec _ _ _ _ h
  exact ⟨h1, by rw [flat_len]; exact h2, h3⟩

theorem get1_of {c : List Value} {o : Nat} {ch : Chunk} {v : Value} (h : GetN c o 1 [ch]) (hv : ch.l = [v]) : Get1 c o v := by
  obtain ⟨h1, h2, h3⟩ := h
  simp only [flat, hv, List.append_nil] at h1
  unfold Get1
  have hlt : o < c.length := by omega
  have : (c.drop o)[0]? = some v := by
    have e : (List.take 1 (c.drop o))[0]? = some v := by rw [h1]; rfl
    rw [List.getElem?_take] at e
    simpa using e
  simpa using this

theorem g1_flat {cs : List Chunk} {o : Nat} {ch : Chunk} {v : Value} (h : getC cs o 1 = some [ch]) (hv : ch.l = [v]) : Get1 (flat cs) o v := get1_of (gN_flat h) hv

theorem g1_tab {cs : List Chunk} {o p n : Nat} {f : Nat → Int} (h : getC cs o n = some [cT n f]) (hp : p < n) : Get1 (flat cs) (o + p) (.int .i32 (f p)) := by
  obtain ⟨h1, h2, h3⟩ := getC_spec _ _ _ _ h
  have h4 : (flat [cT n f]) = tabL n f := by simp [flat, cT]
  rw [h4] at h1
  have e : (List.take n (List.drop o (flat cs)))[p]? = some (.int .i32 (f p)) := by rw [h1]; simp [tabL, hp]
  rw [List.getElem?_take] at e
  simp only [hp, if_true, List.getElem?_drop] at e
  exact e

/-- Elements of one size, one behind the other. -/
def arrC {α : Type} (enc : α → List Chunk) : List α → List Value
  | [] => []
  | x :: xs => flat (enc x) ++ arrC enc xs

theorem arrC_len {α : Type} {enc : α → List Chunk} {sz : Nat} (hsz : ∀ x, flen (enc x) = sz) : ∀ xs : List α, (arrC enc xs).length = xs.length * sz
  | [] => by simp [arrC]
  | x :: xs => by simp [arrC, flat_len, hsz, arrC_len hsz xs, Nat.succ_mul, Nat.add_comm]
theorem arrC_append {α : Type} (enc : α → List Chunk) (xs ys : List α) : arrC enc (xs ++ ys) = arrC enc xs ++ arrC enc ys := by
  induction xs with
  | nil => rfl
  | cons x xs ih => simp [arrC, ih]
theorem arrC_ok {α : Type} (enc : α → List Chunk) : ∀ (xs : List α) (v : Value), v ∈ arrC enc xs → v.oneCell' = true
  | [], v, h => by cases h
  | x :: xs, v, h => by
    simp only [arrC, List.mem_append] at h
    rcases h with h | h
    · exact flat_ok _ v h
    · exact arrC_ok enc xs v h

theorem arrC_drop {α : Type} {enc : α → List Chunk} {sz : Nat} (hsz : ∀ x, flen (enc x) = sz) : ∀ (xs : List α) (k : Nat) (x : α), xs[k]? = some x →
    (arrC enc xs).drop (k * sz) = flat (enc x) ++ arrC enc (xs.drop (k + 1))
  | [], k, x, h => by simp at h
  | y :: ys, 0, x, h => by simp at h; subst h; simp [arrC]
  | y :: ys, k + 1, x, h => by
    simp only [List.getElem?_cons_succ] at h
    have := arrC_drop hsz ys k x h
    simp only [arrC, List.drop_succ_cons]
    rw [List.drop_append, flat_len, hsz, List.drop_of_length_le (by rw [flat_len, hsz, Nat.succ_mul]; omega), List.nil_append,
      show (k + 1) * sz - sz = k * sz by rw [Nat.succ_mul]; omega]
    exact this

theorem gN_arr {α : Type} {enc : α → List Chunk} {sz : Nat} {xs : List α} {sp : List Value} {k f n : Nat} {x : α} {ds : List Chunk} (hsz : ∀ x, flen (enc x) = sz) (hx : xs[k]? = some x)
    (hg : getC (enc x) f n = some ds) : GetN (arrC enc xs ++ sp) (0 + k * sz + f) n ds := by
  obtain ⟨h1, h2, h3⟩ := getC_spec _ _ _ _ hg
  rw [hsz] at h2
  have hk : k < xs.length := (List.getElem?_eq_some_iff.1 hx).1
  have hlen := arrC_len hsz xs
  have hle : k * sz + sz ≤ xs.length * sz := by
    have := Nat.mul_le_mul_right sz (show k + 1 ≤ xs.length by omega)
    rw [Nat.succ_mul] at this; exact this
  refine ⟨?_, by simp only [List.length_append]; omega, h3⟩
  rw [Nat.zero_add, List.drop_append_of_le_length (by omega), ← List.drop_drop, arrC_drop hsz xs k x hx,
    List.drop_append_of_le_length (by rw [flat_len, hsz]; omega), List.append_assoc,
    List.take_append_of_le_length (by rw [List.length_drop, flat_len, hsz]; omega)]
  exact h1

theorem gN_arr0 {α : Type} {enc : α → List Chunk} {sz : Nat} {xs : List α} {sp : List Value} {k n : Nat} {x : α} {ds : List Chunk} (hsz : ∀ x, flen (enc x) = sz) (hx : xs[k]? = some x)
    (hg : getC (enc x) 0 n = some ds) : GetN (arrC enc xs ++ sp) (0 + k * sz) n ds := gN_arr (f := 0) hsz hx hg
theorem g1_arr {α : Type} {enc : α → List Chunk} {sz : Nat} {xs : List α} {sp : List Value} {k f : Nat} {x : α} {ch : Chunk} {v : Value} (hsz : ∀ x, flen (enc x) = sz) (hx : xs[k]? = some x)
    (hg : getC (enc x) f 1 = some [ch]) (hv : ch.l = [v]) : Get1 (arrC enc xs ++ sp) (0 + k * sz + f) v := get1_of (gN_arr hsz hx hg) hv
theorem g1_arr0 {α : Type} {enc : α → List Chunk} {sz : Nat} {xs : List α} {sp : List Value} {k : Nat} {x : α} {ch : Chunk} {v : Value} (hsz : ∀ x, flen (enc x) = sz) (hx : xs[k]? = some x)
    (hg : getC (enc x) 0 1 = some [ch]) (hv : ch.l = [v]) : Get1 (arrC enc xs ++ sp) (0 + k * sz) v := get1_of (gN_arr0 hsz hx hg) hv

theorem s_flat {cs : List Chunk} {o n : Nat} {ds cs' : List Chunk} (hn : flen ds = n) (h : setC cs o n ds = some cs') : SetN (flat cs) o ds (flat cs') := by
  obtain ⟨h1, h2⟩ := setC_spec _ _ _ _ _ h
  subst hn
  exact ⟨h1, by rw [flat_len]; exact h2⟩

theorem arrC_set {α : Type} {enc : α → List Chunk} {sz : Nat} (hsz : ∀ x, flen (enc x) = sz) : ∀ (xs : List α) (k : Nat) (x y : α) (sp : List Value), xs[k]? = some x →
    arrC enc (xs.set k y) ++ sp = (arrC enc xs ++ sp).take (k * sz) ++ flat (enc y) ++ (arrC enc xs ++ sp).drop (k * sz + sz)
  | [], k, x, y, sp, h => by simp at h
  | z :: zs, 0, x, y, sp, h => by
    simp only [List.set_cons_zero, arrC, Nat.zero_mul, List.take_zero, List.nil_append, Nat.zero_add]
    rw [List.append_assoc, List.append_assoc, List.drop_append, flat_len, hsz, List.drop_of_length_le (by rw [flat_len, hsz]; omega)]
    simp
  | z :: zs, k + 1, x, y, sp, h => by
    simp only [List.getElem?_cons_succ] at h
    have ih := arrC_set hsz zs k x y sp h
    simp only [List.set_cons_succ, arrC]
    have hl : (flat (enc z)).length = sz := by rw [flat_len, hsz]
    rw [List.append_assoc, ih, List.append_assoc (flat (enc z)), take_app (flat (enc z)) (arrC enc zs ++ sp) (k * sz) _ (by rw [hl, Nat.succ_mul]; omega),
      drop_app (flat (enc z)) (arrC enc zs ++ sp) (k * sz + sz) _ (by rw [hl, Nat.succ_mul]; omega)]
    simp only [List.append_assoc]

theorem s_arr {α : Type} {enc : α → List Chunk} {sz : Nat} {xs : List α} {sp : List Value} {k f n : Nat} {x : α} {ds : List Chunk} (y : α) (hsz : ∀ x, flen (enc x) = sz) (hx : xs[k]? = some x)
    (hn : flen ds = n) (hg : setC (enc x) f n ds = some (enc y)) : SetN (arrC enc xs ++ sp) (0 + k * sz + f) ds (arrC enc (xs.set k y) ++ sp) := by
  obtain ⟨h1, h2⟩ := setC_spec _ _ _ _ _ hg
  subst hn
  rw [hsz] at h2
  have hk : k < xs.length := (List.getElem?_eq_some_iff.1 hx).1
  have hlen := arrC_len hsz xs
  have hle : k * sz + sz ≤ xs.length * sz := by
    have := Nat.mul_le_mul_right sz (show k + 1 ≤ xs.length by omega)
    rw [Nat.succ_mul] at this; exact this
  refine ⟨?_, by simp only [List.length_append]; omega⟩
  have hd := arrC_drop hsz xs k x hx
  have e1 : (arrC enc xs ++ sp).drop (k * sz) = flat (enc x) ++ (arrC enc (xs.drop (k + 1)) ++ sp) := by
    rw [List.drop_append_of_le_length (by omega), hd, List.append_assoc]
  have hxl : (flat (enc x)).length = sz := by rw [flat_len, hsz]
  have e2 : (arrC enc xs ++ sp).drop (k * sz + sz) = arrC enc (xs.drop (k + 1)) ++ sp := by
    rw [← List.drop_drop, e1, drop_app (flat (enc x)) _ 0 sz (by omega), List.drop_zero]
  have htl : ((arrC enc xs ++ sp).take (k * sz)).length = k * sz := by rw [List.length_take]; simp only [List.length_append]; omega
  have hsplit : arrC enc xs ++ sp = (arrC enc xs ++ sp).take (k * sz) ++ (flat (enc x) ++ (arrC enc (xs.drop (k + 1)) ++ sp)) := by
    rw [← e1, List.take_append_drop]
  rw [arrC_set hsz xs k x y sp hx, h1, e2]
  generalize hA : (arrC enc xs ++ sp).take (k * sz) = A at *
  generalize (arrC enc (xs.drop (k + 1)) ++ sp) = B at *
  rw [hsplit, Nat.zero_add, take_app A _ f _ (by omega), show k * sz + f + flen ds = k * sz + (f + flen ds) by omega, drop_app A _ (f + flen ds) _ (by omega),
    List.take_append_of_le_length (by omega), List.drop_append_of_le_length (by omega)]
  simp only [List.append_assoc]

theorem s_arr0 {α : Type} {enc : α → List Chunk} {sz : Nat} {xs : List α} {sp : List Value} {k : Nat} {x : α} {ds : List Chunk} (y : α) (hsz : ∀ x, flen (enc x) = sz) (hx : xs[k]? = some x)
    (hd : ds = enc y) : SetN (arrC enc xs ++ sp) (0 + k * sz) ds (arrC enc (xs.set k y) ++ sp) := by
  subst hd
  have hk : k < xs.length := (List.getElem?_eq_some_iff.1 hx).1
  have hlen := arrC_len hsz xs
  have hle : k * sz + sz ≤ xs.length * sz := by
    have := Nat.mul_le_mul_right sz (show k + 1 ≤ xs.length by omega)
    rw [Nat.succ_mul] at this; exact this
  rw [Nat.zero_add]
  refine ⟨?_, by simp only [List.length_append, hsz]; omega⟩
  rw [hsz]
  exact arrC_set hsz xs k x y sp hx
end Go.Proofs.YgvatwGreat
