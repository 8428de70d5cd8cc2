/-
  ENGINE, PART C: the types' tables; memory in chunks.
-/
import Derived.Test.YgvatwGreatEngB
import Derived.Laws.Rows
import Derived.Laws.CopyRow
import Derived.Laws.Cells
import Derived.KernelRfl
namespace Go.Proofs.YgvatwGreat
open Go
set_option linter.unusedVariables false
set_option linter.unusedSimpArgs false

/-! ### Tables -/
def memN (t : Nat) : List Nat → Bool
  | [] => false
  | s :: l => match Nat.beq s t with
    | true => true
    | false => memN t l

theorem memN_mem {t : Nat} : ∀ {l : List Nat}, memN t l = true → t ∈ l
  | [], h => by cases h
  | s :: l, h => by
    simp only [memN] at h
    cases hb : Nat.beq s t with
    | true => have := Nat.eq_of_beq_eq_true hb; subst this; exact List.mem_cons_self ..
    | false => rw [hb] at h; exact List.mem_cons_of_mem _ (memN_mem h)

def lookN {α : Type} (t : Nat) : List (Nat × α) → Option α
  | [] => none
  | (s, x) :: l => match Nat.beq s t with
    | true => some x
    | false => lookN t l

theorem lookN_mem {α : Type} {t : Nat} {x : α} : ∀ {l : List (Nat × α)}, lookN t l = some x → (t, x) ∈ l
  | [], h => by cases h
  | (s, y) :: l, h => by
    simp only [lookN] at h
    cases hb : Nat.beq s t with
    | true =>
      rw [hb] at h
      have := Nat.eq_of_beq_eq_true hb
      subst this
      cases h
      exact List.mem_cons_self ..
    | false => rw [hb] at h; exact List.mem_cons_of_mem _ (lookN_mem h)

/-- Types of one cell that are neither structs nor arrays. -/
def tScal : List Nat := [21, 27, 5, 4, 3, 36, 22, 23, 25, 28, 29, 30, 37, 49, 54, 87, 96, 97, 98, 101, 107, 111, 125, 126, 129, 133, 136, 154, 123, 187, 188, 190, 193]
def scal (t : Nat) : Bool := memN t tScal
def scalOk (P : Program) (t : Nat) : Bool := (match P.underlying t with
  | some (.struct _) | some (.array _ _) | none => false
  | some _ => true) && (P.info? t).any (·.size == 1)
theorem tScal_ok : tScal.all (scalOk Hvat.prog) = true := by kernel_rfl

/-- Structs and arrays: their cells. -/
def tAgg : List (Nat × Nat) := [(45, 4), (34, 20), (35, 32), (57, 29), (119, 14), (122, 9), (60, 9), (89, 22), (32, 24584), (39, 89), (47, 7), (52, 25), (100, 5), (103, 7), (131, 6), (135, 32), (138, 55), (140, 64), (164, 25), (165, 29), (167, 33), (174, 28), (24, 4096), (26, 16384), (50, 4), (152, 8), (196, 2560)]
def aggN (t : Nat) : Option Nat := lookN t tAgg
def aggOk (P : Program) (x : Nat × Nat) : Bool := (match P.underlying x.1 with
  | some (.struct _) | some (.array _ _) => true
  | _ => false) && (P.info? x.1).any (·.size == x.2)
theorem tAgg_ok : tAgg.all (aggOk Hvat.prog) = true := by kernel_rfl

/-- Structs: their fields' places. -/
def tStruct : List (Nat × List Nat) := [(32, [0, 1, 2, 4098, 8194, 8195, 24579, 24580, 24581, 24582, 24583]), (57, [0, 20, 21, 25, 26, 27, 28]), (119, [0, 1, 5, 9, 13]), (122, [0, 1, 5]), (60, [0, 1, 2, 3, 7, 8]),
  (89, [0, 20, 21]), (39, [0, 1, 21, 53, 85, 86, 87, 88]), (47, [0, 4, 5, 6]), (52, [0, 1, 5, 9, 10, 11, 12, 13, 20, 21]), (100, [0, 1, 2, 3, 4]), (103, [0, 5, 6]), (131, [0, 1, 5]),
  (138, [0, 20, 21, 53, 54]), (140, [0, 32]), (164, [0, 1, 2, 3, 4, 5]), (165, [0, 20, 21, 25, 26, 27, 28]), (167, [0, 20, 24, 28, 32]), (174, [0, 20, 24])]
def foff (t f : Nat) : Option Nat := match lookN t tStruct with
  | some l => l[f]?
  | none => none
def structOk (P : Program) (x : Nat × List Nat) : Bool := match P.underlying x.1 with
  | some (.struct fs) => fs.toList.map (·.offset) == x.2 && fs.all fun f => (P.info? f.type).any (fun i => i.size != 0)
  | _ => false
theorem tStruct_ok : tStruct.all (structOk Hvat.prog) = true := by kernel_rfl

/-- Arrays of one-cell elements: their lengths. -/
def tArr : List (Nat × Nat) := [(24, 4096), (26, 16384), (34, 20), (35, 32), (45, 4), (50, 4), (135, 32), (152, 8), (196, 2560)]
def alen (t : Nat) : Option Nat := lookN t tArr
def arrOk (P : Program) (x : Nat × Nat) : Bool := match P.underlying x.1 with
  | some (.array n e) => n == x.2 && Nat.ble 2 n && (P.info? e).any (fun i => i.size == 1)
  | _ => false
theorem tArr_ok : tArr.all (arrOk Hvat.prog) = true := by kernel_rfl

/-- Slices: the element's type, its cells, its bytes. -/
def tSlc : List (Nat × Nat × Nat × Nat) := [(22, 57, 29, 96), (23, 119, 14, 112), (25, 60, 9, 80), (28, 89, 22, 72), (29, 122, 9, 72), (30, 21, 1, 4), (36, 5, 1, 1), (37, 35, 32, 32), (49, 138, 55, 112), (87, 135, 32, 32),
  (96, 165, 29, 96), (97, 167, 33, 128), (98, 174, 28, 88), (101, 100, 5, 104), (111, 47, 7, 56), (125, 45, 4, 32), (129, 131, 6, 48), (136, 140, 64, 64)]
def slc (t : Nat) : Option (Nat × Nat × Nat) := lookN t tSlc
def slcOk (P : Program) (x : Nat × Nat × Nat × Nat) : Bool := match P.underlying x.1 with
  | some (.slice e) => e == x.2.1 && (P.info? e).any (fun i => i.size == x.2.2.1 && i.bytes == x.2.2.2)
  | _ => false
theorem tSlc_ok : tSlc.all (slcOk Hvat.prog) = true := by kernel_rfl
end Go.Proofs.YgvatwGreat
