/-  
  CONTRACTS 45: the model state in memory
-/
import Derived.Test.YgvatwGreatM2
namespace Go.Proofs.YgvatwGreat
open Go Go.RowKit
set_option linter.unusedVariables false
set_option linter.unusedSimpArgs false


/-- A slice that lies at its block's start; what follows is not said. -/
structure SlP {α : Type} (w : World) (s : Sl) (t : Nat) (enc : α → List Chunk) (xs : List α) : Prop where
  n : s.n = xs.length
  p : xs = [] ∨ ∃ b r, s.a = some ⟨b, 0, none⟩ ∧ Own w b t (arrC enc xs ++ r)
theorem SlR.pth {α : Type} {w : World} {s : Sl} {t sz : Nat} {enc : α → List Chunk} {xs : List α} (h : SlR w s t sz enc xs) : ∀ a, s.a = some a → a.spot = none := fun a ha => by
  rcases h.p with ⟨h1, _⟩ | ⟨b, sp, h1, _⟩
  · rw [h1] at ha; cases ha
  · rw [h1] at ha; cases ha; rfl
theorem SlR.toP {α : Type} {w : World} {s : Sl} {t sz : Nat} {enc : α → List Chunk} {xs : List α} (h : SlR w s t sz enc xs) : SlP w s t enc xs := by
  refine ⟨h.n, ?_⟩
  rcases h.p with ⟨h1, h2⟩ | ⟨b, sp, h1, h2, _⟩
  · have := h.c
    exact .inl (List.eq_nil_of_length_eq_zero (by omega))
  · exact .inr ⟨b, sp, h1, h2⟩
theorem SlP.tr {α : Type} {wb w' : World} {H : Hp} {s : Sl} {t : Nat} {enc : α → List Chunk} {xs : List α} (h : SlP wb s t enc xs) (hs : Stp wb H w') (hn : Nk wb t H) : SlP w' s t enc xs :=
  ⟨h.n, orMap h.p id fun ⟨b, r, h1, h2⟩ => ⟨b, r, h1, h2.tr hs hn⟩⟩
theorem SlP.kp {α : Type} {w w' : World} {B : Nat} {T : List Nat} {s : Sl} {t : Nat} {enc : α → List Chunk} {xs : List α} (h : SlP w s t enc xs) (hF : Fr B T w w') (ht : T.contains t = false) : SlP w' s t enc xs :=
  ⟨h.n, orMap h.p id fun ⟨b, r, h1, h2⟩ => ⟨b, r, h1, hF.keep _ _ _ h2 ht⟩⟩
theorem SlP.up {α : Type} {w w' : World} {s : Sl} {t : Nat} {enc : α → List Chunk} {xs : List α} (h : SlP w s t enc xs) (hx : Below w.heap.size w w') : SlP w' s t enc xs :=
  ⟨h.n, orMap h.p id fun ⟨b, r, h1, h2⟩ => ⟨b, r, h1, h2.below hx h2.lt⟩⟩
theorem SlP.blk {α : Type} {w : World} {s : Sl} {t : Nat} {enc : α → List Chunk} {xs : List α} (h : SlP w s t enc xs) {k : Nat} (hk : k < xs.length) : ∃ b r, s.a = some ⟨b, 0, none⟩ ∧ Own w b t (arrC enc xs ++ r) := by
  rcases h.p with h | h
  · rw [h] at hk; simp at hk
  · exact h
theorem SlP.cut {α : Type} {w : World} {s : Sl} {t : Nat} {enc : α → List Chunk} {xs : List α} (h : SlP w s t enc xs) {k c : Nat} (hk : k ≤ xs.length) : SlP w ⟨s.a, k, c⟩ t enc (xs.take k) := by
  refine ⟨by rw [List.length_take]; simp only; omega, ?_⟩
  rcases h.p with h | ⟨b, r, h1, h2⟩
  · exact .inl (by rw [h]; simp)
  · exact .inr ⟨b, arrC enc (xs.drop k) ++ r, h1, by rw [← List.append_assoc, ← arrC_append, List.take_append_drop]; exact h2⟩
structure LFace where
  sA : Sl
  sS : Sl
  sL : Sl
  sT : Sl
  accts : List LAcct
  slots : List FSlot
  ref : U64
  logs : List LLog
  temps : List FTemp
structure MFace where
  accts : List Acct
  slots : List FSlot
  ref : U64
  logs : List Log
  temps : List FTemp
def LFace.c (F : LFace) : List Chunk := faceC F.sA F.sS F.ref F.sL F.sT
theorem LFace.c_sz (F : LFace) : flen F.c = 5 := rfl
def LFace.mf (F : LFace) : MFace := ⟨F.accts.map (·.m), F.slots, F.ref, F.logs.map (·.m), F.temps⟩
def zFace : LFace := ⟨nilSl, nilSl, nilSl, nilSl, [], [], 0#64, [], []⟩
structure FaceR (w : World) (F : LFace) : Prop where
  a : SlP w F.sA 165 acctC F.accts
  s : SlP w F.sS 167 fsC F.slots
  l : SlP w F.sL 89 logC F.logs
  t : SlP w F.sT 174 ftC F.temps
  ca : ∀ x ∈ F.accts, CodeR w x.hd x.m.code ∧ (oB x.m.code).length ≤ 140737488355328
  cl : ∀ x ∈ F.logs, LogR w x ∧ logLim x
  nA : F.accts.length ≤ 4096
  nS : F.slots.length ≤ 4096
  nT : F.temps.length ≤ 16384
  nL : F.logs.length ≤ 2800
def fT : List Nat := [165, 167, 89, 174, 5, 135]
theorem FaceR.tr {wb w' : World} {H : Hp} {F : LFace} (h : FaceR wb F) (hs : Stp wb H w') (hn : ∀ t, fT.contains t = true → Nk wb t H) : FaceR w' F :=
  ⟨h.a.tr hs (hn _ rfl), h.s.tr hs (hn _ rfl), h.l.tr hs (hn _ rfl), h.t.tr hs (hn _ rfl), fun x hx => ⟨(h.ca x hx).1.tr hs (hn _ rfl), (h.ca x hx).2⟩, fun x hx => ⟨(h.cl x hx).1.tr hs (hn _ rfl) (hn _ rfl), (h.cl x hx).2⟩, h.nA, h.nS, h.nT, h.nL⟩
theorem LogR.kp {w w' : World} {B : Nat} {T : List Nat} {x : LLog} (h : LogR w x) (hF : Fr B T w w') (h5 : T.contains 5 = false) (h135 : T.contains 135 = false) : LogR w' x :=
  ⟨⟨h.top.n, h.top.c, orMap h.top.p id fun ⟨b, sp, h1, h2, h3⟩ => ⟨b, sp, h1, hF.keep _ _ _ h2 h135, h3⟩⟩, exMap h.dat fun o h => ⟨h.1, h.2.kp hF h5⟩⟩
theorem FaceR.kp {w w' : World} {B : Nat} {T : List Nat} {F : LFace} (h : FaceR w F) (hF : Fr B T w w') (hn : ∀ t, fT.contains t = true → T.contains t = false) : FaceR w' F :=
  ⟨h.a.kp hF (hn _ rfl), h.s.kp hF (hn _ rfl), h.l.kp hF (hn _ rfl), h.t.kp hF (hn _ rfl), fun x hx => ⟨(h.ca x hx).1.kp hF (hn _ rfl), (h.ca x hx).2⟩, fun x hx => ⟨(h.cl x hx).1.kp hF (hn _ rfl) (hn _ rfl), (h.cl x hx).2⟩, h.nA, h.nS, h.nT, h.nL⟩
theorem FaceR.up {w w' : World} {F : LFace} (h : FaceR w F) (hx : Below w.heap.size w w') : FaceR w' F :=
  ⟨h.a.up hx, h.s.up hx, h.l.up hx, h.t.up hx, fun x hm => ⟨(h.ca x hm).1.up hx, (h.ca x hm).2⟩, fun x hm => ⟨(h.cl x hm).1.up hx, (h.cl x hm).2⟩, h.nA, h.nS, h.nT, h.nL⟩
/-- No followed block is of a face's types. -/
theorem nk_out {wb : World} {H : Hp} (hy : TyH wb H) (ho : tyOut fT H = true) : ∀ t, fT.contains t = true → Nk wb t H := fun t ht => .ty hy (tyOut_not ht ho)
theorem FaceR.zero (w : World) : FaceR w zFace :=
  ⟨⟨rfl, .inl rfl⟩, ⟨rfl, .inl rfl⟩, ⟨rfl, .inl rfl⟩, ⟨rfl, .inl rfl⟩, fun x hx => (by cases hx), fun x hx => (by cases hx), by simp [zFace], by simp [zFace], by simp [zFace], by simp [zFace]⟩
structure LState where
  now : LFace
  hP : Sl
  hM : Sl
  past : List LFace
  marks : List Int
structure MState where
  now : MFace
  past : List MFace
  marks : List Int
def LState.c (S : LState) : List Chunk := [cS S.now.sA, cS S.now.sS, cU S.now.ref, cS S.now.sL, cS S.now.sT, cS S.hP, cS S.hM]
def LState.ms (S : LState) : MState := ⟨S.now.mf, S.past.map (·.mf), S.marks⟩
structure StR (w : World) (S : LState) : Prop where
  now : FaceR w S.now
  p : SlR w S.hP 100 5 LFace.c S.past
  pf : ∀ F ∈ S.past, FaceR w F
  m : SlR w S.hM 21 1 cI32 S.marks
  nP : S.past.length ≤ 65537
  nM : S.marks.length ≤ 16384
  mi : ∀ x ∈ S.marks, isI32 x
/-- What AbsVault makes has no spare room. -/
structure StX (S : LState) : Prop where
  l : S.now.sL.c = S.now.sL.n
  lp : ∀ a, S.now.sL.a = some a → a.spot = none
  p : S.hP.c = S.hP.n
  m : S.hM.c = S.hM.n
def sT : List Nat := [165, 167, 89, 174, 5, 135, 100, 21]
theorem sT_fT {t : Nat} (h : fT.contains t = true) : sT.contains t = true := by
  simp only [fT, sT, List.contains_cons, List.contains_nil, Bool.or_false, Bool.or_eq_true] at h ⊢
  rcases h with h | h | h | h | h | h
  · exact .inl h
  · exact .inr (.inl h)
  · exact .inr (.inr (.inl h))
  · exact .inr (.inr (.inr (.inl h)))
  · exact .inr (.inr (.inr (.inr (.inl h))))
  · exact .inr (.inr (.inr (.inr (.inr (.inl h)))))
theorem StR.tr {wb w' : World} {H : Hp} {S : LState} (h : StR wb S) (hs : Stp wb H w') (hn : ∀ t, sT.contains t = true → Nk wb t H) : StR w' S :=
  ⟨h.now.tr hs (fun t ht => hn t (sT_fT ht)), h.p.tr hs (hn _ rfl), fun F hF => (h.pf F hF).tr hs (fun t ht => hn t (sT_fT ht)), h.m.tr hs (hn _ rfl), h.nP, h.nM, h.mi⟩
theorem StR.up {w w' : World} {S : LState} (h : StR w S) (hx : Below w.heap.size w w') : StR w' S :=
  ⟨h.now.up hx, h.p.up hx, fun F hF => (h.pf F hF).up hx, h.m.up hx, h.nP, h.nM, h.mi⟩
def faceM (m : MV) : MFace := ⟨acctsF m.accts, slotsF m.accts m.slots, m.ref, m.logs, tempsF m.accts m.temps⟩
def absM (m : MV) : MState := ⟨faceM m, (List.range m.jr.length).map (fun k => faceM (m.layTo k)), (List.range m.nm.toNat).map (fun i => m.marks i)⟩
theorem VMem.up {w w' : World} {L : VL} (h : VMem w L) (hx : Below w.heap.size w w') : VMem w' L :=
  ⟨h.sA.up hx, h.sS.up hx, h.sJ.up hx, h.sL.up hx, h.sT.up hx, ⟨h.sTT.1.up hx, h.sTT.2⟩, fun x hm => (h.cA x hm).up hx, fun x hm => (h.cJ x hm).up hx, fun x hm => (h.cL x hm).up hx, h.rng⟩
theorem VMem.toIn {w : World} {L : VL} (h : VMem w L) : VIn w L :=
  ⟨h.sA.toI, h.sS.toI, h.sJ.toI, h.sL.toI, h.sT.toI, ⟨h.sTT.1.toI, h.sTT.2⟩, fun x hm => (h.cA x hm).toI, fun x hm => (h.cJ x hm).toI, fun x hm => (h.cL x hm).toI, h.rng⟩
theorem Fresh.mono {B B' : Nat} {s : Sl} (h : Fresh B s) (hb : B' ≤ B) : Fresh B' s := ⟨h.1, fun a ha => Nat.le_trans hb (h.2 a ha)⟩
theorem VFresh.mono {B B' : Nat} {L : VL} (h : VFresh B L) (hb : B' ≤ B) : VFresh B' L := ⟨h.a.mono hb, h.s.mono hb, h.j.mono hb, h.l.mono hb, h.t.mono hb, h.tt.mono hb⟩
theorem c5' (B : Nat) (L : VL) (w : World) (hV : VIn w L) (hB : B ≤ w.heap.size) :
    CE 5 [aggC (vaultC L)] w (fun v w' => ∃ L' : VL, v = aggC (vaultC L') ∧ VMem w' L' ∧ L'.mv = L.mv ∧ VFresh B L') :=
  CE.mono (c5 L w hV) (fun v w' ⟨L', h1, h2, h3, h4⟩ => ⟨L', h1, h2, h3, h4.mono hB⟩)

end Go.Proofs.YgvatwGreat
