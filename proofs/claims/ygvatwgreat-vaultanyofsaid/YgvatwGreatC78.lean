/-  
  CONTRACTS 78: playVault; playState: what is owed
-/
import Derived.Test.YgvatwGreatC71
import Derived.Test.YgvatwGreatC72
import Derived.Test.YgvatwGreatC73
import Derived.Test.YgvatwGreatC74
import Derived.Test.YgvatwGreatC75
import Derived.Test.YgvatwGreatC76
import Derived.Test.YgvatwGreatC77
namespace Go.Proofs.YgvatwGreat
open Go Go.RowKit
set_option linter.unusedVariables false
set_option linter.unusedSimpArgs false


theorem c7 (b B : Nat) (L : VL) (p : LOp) (hk : p.kind ≤ 34) (w : World) (hV : VAt w b L) (hL : VLow B L) (hBb : B ≤ b) (hC : Chk L) (hO : OpI w p) : CM 7 [.pointer (some ⟨b, 0, none⟩), aggC (opC p)] w B vT (PV b B L p) := by
  have hd : p.kind = 0 ∨ p.kind = 1 ∨ p.kind = 2 ∨ p.kind = 3 ∨ p.kind = 4 ∨ p.kind = 5 ∨ p.kind = 6 ∨ p.kind = 7 ∨ p.kind = 8 ∨ p.kind = 9 ∨ p.kind = 10 ∨ p.kind = 11 ∨ p.kind = 12 ∨ p.kind = 13 ∨ p.kind = 14 ∨ p.kind = 15 ∨ p.kind = 16 ∨ p.kind = 17 ∨ p.kind = 18 ∨ p.kind = 19 ∨ p.kind = 20 ∨ p.kind = 21 ∨ p.kind = 22 ∨ p.kind = 23 ∨ p.kind = 24 ∨ p.kind = 25 ∨ p.kind = 26 ∨ p.kind = 27 ∨ p.kind = 28 ∨ p.kind = 29 ∨ p.kind = 30 ∨ p.kind = 31 ∨ p.kind = 32 ∨ p.kind = 33 ∨ p.kind = 34 := by omega
  rcases hd with h | h | h | h | h | h | h | h | h | h | h | h | h | h | h | h | h | h | h | h | h | h | h | h | h | h | h | h | h | h | h | h | h | h | h
  · exact p7_0 b B L p h w hV hL hBb hC hO
  · exact p7_1 b B L p h w hV hL hBb hC hO
  · exact p7_2 b B L p h w hV hL hBb hC hO
  · exact p7_3 b B L p h w hV hL hBb hC hO
  · exact p7_4 b B L p h w hV hL hBb hC hO
  · exact p7_5 b B L p h w hV hL hBb hC hO
  · exact p7_6 b B L p h w hV hL hBb hC hO
  · exact p7_7 b B L p h w hV hL hBb hC hO
  · exact p7_8 b B L p h w hV hL hBb hC hO
  · exact p7_9 b B L p h w hV hL hBb hC hO
  · exact p7_10 b B L p h w hV hL hBb hC hO
  · exact p7_11 b B L p h w hV hL hBb hC hO
  · exact p7_12 b B L p h w hV hL hBb hC hO
  · exact p7_13 b B L p h w hV hL hBb hC hO
  · exact p7_14 b B L p h w hV hL hBb hC hO
  · exact p7_15 b B L p h w hV hL hBb hC hO
  · exact p7_16 b B L p h w hV hL hBb hC hO
  · exact p7_17 b B L p h w hV hL hBb hC hO
  · exact p7_18 b B L p h w hV hL hBb hC hO
  · exact p7_19 b B L p h w hV hL hBb hC hO
  · exact p7_20 b B L p h w hV hL hBb hC hO
  · exact p7_21 b B L p h w hV hL hBb hC hO
  · exact p7_22 b B L p h w hV hL hBb hC hO
  · exact p7_23 b B L p h w hV hL hBb hC hO
  · exact p7_24 b B L p h w hV hL hBb hC hO
  · exact p7_25 b B L p h w hV hL hBb hC hO
  · exact p7_26 b B L p h w hV hL hBb hC hO
  · exact p7_27 b B L p h w hV hL hBb hC hO
  · exact p7_28 b B L p h w hV hL hBb hC hO
  · exact p7_29 b B L p h w hV hL hBb hC hO
  · exact p7_30 b B L p h w hV hL hBb hC hO
  · exact p7_31 b B L p h w hV hL hBb hC hO
  · exact p7_32 b B L p h w hV hL hBb hC hO
  · exact p7_33 b B L p h w hV hL hBb hC hO
  · exact p7_34 b B L p h w hV hL hBb hC hO

def MState.play (m : MState) (p : LOp) : MAns × MState := match p.kind with
  | 0 => ({ zA with val := (findMA m.now.accts p.addr).bal }, m)
  | 1 => ({ zA with n := (findMA m.now.accts p.addr).nonce }, m)
  | 2 => ({ zA with code := oB (findMA m.now.accts p.addr).code }, m)
  | 3 => ({ zA with ok := emptyM (findMA m.now.accts p.addr) }, m)
  | 4 => ({ zA with val := (findFS m.now.slots p.addr p.key).val, orig := (findFS m.now.slots p.addr p.key).orig }, m)
  | 5 => ({ zA with ok := (findMA m.now.accts p.addr).warm }, m)
  | 6 => ({ zA with ok := (findFS m.now.slots p.addr p.key).warm }, m)
  | 7 => ({ zA with val := findFT m.now.temps p.addr p.key }, m)
  | 8 => ({ zA with ok := (findMA m.now.accts p.addr).made }, m)
  | 9 => ({ zA with ok := (findMA m.now.accts p.addr).gone }, m)
  | 10 => ({ zA with val := (findFS m.now.slots p.addr p.key).val, orig := (findFS m.now.slots p.addr p.key).orig, ok := (findFS m.now.slots p.addr p.key).warm }, m)
  | 11 => ({ zA with n := m.now.ref }, m)
  | 12 => ({ zA with logs := m.now.logs }, m)
  | 13 => ({ zA with tot := m.at p.id }, m)
  | 14 => ({ zA with world := m.now.xport }, m)
  | 19 => ({ zA with ok := true }, m.putA p.addr (fun x => { x with bal := p.v }))
  | 20 => ({ zA with ok := true }, m.putA p.addr (fun x => { x with nonce := p.n }))
  | 21 => if p.b.length ≤ 256 then ({ zA with ok := true }, m.putA p.addr (fun x => { x with code := oN p.b })) else (zA, m)
  | 22 => ({ zA with ok := true }, m.putS p.addr p.key (fun x => { x with val := p.v }))
  | 23 => ({ zA with ok := true }, m.putA p.addr (fun x => { x with warm := true }))
  | 24 => ({ zA with ok := true }, m.putS p.addr p.key (fun x => { x with warm := true }))
  | 25 => let r := m.refundUp p.n; ({ zA with ok := r.1 }, r.2)
  | 26 => let r := m.refundDown p.n; ({ zA with ok := r.1 }, r.2)
  | 27 => let r := m.putLog (logM p); ({ zA with ok := r.1 }, r.2)
  | 28 => ({ zA with ok := true }, m.putT ⟨p.addr, p.key, p.v⟩)
  | 29 => ({ zA with ok := true }, m.putA p.addr (fun x => { x with made := true }))
  | 30 => ({ zA with ok := true }, m.putA p.addr (fun x => { x with gone := true }))
  | 31 => ({ zA with id := (m.marks.length : Int) }, m.snap)
  | 32 => let r := m.revertTo p.id; ({ zA with ok := r.1 }, r.2)
  | 33 => let r := m.undoOne; ({ zA with ok := r.1 }, r.2)
  | 34 => (zA, m.endTx)
  | _ => (zA, m)
theorem find_map {α β : Type} (f : α → β) (p : β → Bool) : ∀ (l : List α), (l.map f).find? p = (l.find? (fun x => p (f x))).map f
  | [] => rfl
  | x :: l => by
    simp only [List.map_cons, List.find?_cons]
    cases p (f x)
    · exact find_map f p l
    · rfl
theorem findLA_ms (S : LState) (a : A160) : (findLA S.now.accts a).m = findMA S.ms.now.accts a := by
  unfold findLA findMA LState.ms LFace.mf
  simp only [find_map]
  cases S.now.accts.find? (fun x => decide (x.m.addr = a)) <;> rfl
theorem below_to {w w' : World} {H : Hp} (h : Below w.heap.size w w') : Stp w H w' := ⟨h.os, h.tape, h.output, h.size, fun k hk _ => h.block k hk⟩
def PS (b : Nat) (S : LState) (p : LOp) (w : World) : Value → World → Prop := fun v w' => ∃ A S', (∀ t' c', Stp w [(b, t', c')] w') ∧ v = aggC (ansC A) ∧ AnsR w' A ∧ A.m = (S.ms.play p).1 ∧ StAt w' b S' ∧ S'.ms = (S.ms.play p).2
structure StP (S : LState) (p : LOp) : Prop where
  x : StX S
  np : S.past.length ≤ 65536
  a : S.now.accts.length ≤ 4094
  s : S.now.slots.length ≤ 4094
  t : S.now.temps.length ≤ 16382
  l : p.kind = 27 → S.now.logs.length < 2800
  m : p.kind = 31 → S.marks.length < 16384
theorem mexp_len (F : MFace) : F.xport.length ≤ F.accts.length := by
  unfold MFace.xport
  rw [List.length_map]; exact List.length_filter_le _ _
theorem mexp_st (F : MFace) : ∀ x ∈ F.xport, x.stor.length ≤ F.slots.length := by
  intro x hx
  unfold MFace.xport at hx
  obtain ⟨y, hy, rfl⟩ := List.mem_map.1 hx
  unfold xWA xSt
  simp only [List.length_map]
  exact List.length_filter_le _ _

end Go.Proofs.YgvatwGreat
