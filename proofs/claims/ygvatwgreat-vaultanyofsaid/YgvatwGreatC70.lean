/-  
  CONTRACTS 70: playVault: what is owed
-/
import Derived.Test.YgvatwGreatC69
namespace Go.Proofs.YgvatwGreat
open Go Go.RowKit
set_option linter.unusedVariables false
set_option linter.unusedSimpArgs false


def MV.acctO (m : MV) (a : A160) : Option Acct := if (m.findA a).1 < 0 then none else m.accts[(m.findA a).1.toNat]?
def MV.getA (m : MV) (a : A160) : Acct := (m.acctO a).getD (newAcct a)
def MV.placeS (m : MV) (a : A160) (key : W256) : Int := if (m.findA a).1 < 0 then -1 else (m.findS (m.findA a).1.toNat key).1
def MV.slotO (m : MV) (a : A160) (key : W256) : Option Slot := if m.placeS a key < 0 then none else m.slots[(m.placeS a key).toNat]?
def MV.getS (m : MV) (a : A160) (key : W256) : Slot := (m.slotO a key).getD ⟨-1, key, 0#256, 0#256, false⟩
def MV.tempO (m : MV) (a : A160) (key : W256) : Option Temp := if m.placeT a key < 0 then none else m.temps[(m.placeT a key).toNat]?
def MV.getT (m : MV) (a : A160) (key : W256) : W256 := match m.tempO a key with
  | some x => x.val
  | none => 0#256
theorem acctO_mv (L : VL) (a : A160) : L.mv.acctO a = (acctOf L a).map (·.m) := by
  unfold MV.acctO acctOf
  rw [findA_mv]
  split
  · rfl
  · simp [VL.mv]
theorem getA_f {β : Type} (f : Acct → β) (L : VL) (a : A160) : f (L.mv.getA a) = match acctOf L a with | some x => f x.m | none => f (newAcct a) := by
  unfold MV.getA
  rw [acctO_mv]
  cases acctOf L a <;> rfl
theorem slotO_mv (L : VL) (a : A160) (key : W256) : L.mv.slotO a key = slotOfV L a key := by
  unfold MV.slotO slotOfV MV.placeS placeS
  rw [findA_mv]; rfl
theorem tempO_mv (L : VL) (a : A160) (key : W256) : L.mv.tempO a key = tempOfV L a key := by
  unfold MV.tempO tempOfV MV.placeT placeT
  rw [findA_mv]; rfl
def MV.mid (m : MV) (id : Int) (todo : Nat) : Bool := decide (0 ≤ id ∧ id < m.nm ∧ id < 16384 ∧ id = m.nm - 1 ∧ (m.jr.length : Int) = m.marks id.toNat + todo)
def szF (m : MV) : Nat → Int := fun i => match i with
  | 0 => m.accts.length
  | 1 => m.slots.length
  | 2 => m.jr.length
  | 3 => m.nm
  | _ => 0

theorem c13' (b : Nat) (L : VL) (a : A160) (w : World) (hV : VAt w b L) : CE 13 [.pointer (some ⟨b, 0, none⟩), aggC [cA a]] w (fun v _ => v = aggC [cW (L.mv.getA a).bal]) :=
  CE.mono (c13 b L a w hV) (fun v w' h => by rw [h]; unfold MV.getA; rw [acctO_mv]; cases acctOf L a <;> rfl)
theorem c14' (b : Nat) (L : VL) (a : A160) (w : World) (hV : VAt w b L) : CE 14 [.pointer (some ⟨b, 0, none⟩), aggC [cA a]] w (fun v _ => v = .int .u64 ((L.mv.getA a).nonce.toNat : Int)) :=
  CE.mono (c14 b L a w hV) (fun v w' h => by rw [h]; unfold MV.getA; rw [acctO_mv]; cases acctOf L a <;> rfl)
theorem c16' (b : Nat) (L : VL) (a : A160) (w : World) (hV : VAt w b L) : CE 16 [.pointer (some ⟨b, 0, none⟩), aggC [cA a]] w (fun v _ => v = .bool (emptyM (L.mv.getA a))) :=
  CE.mono (c16 b L a w hV) (fun v w' h => by rw [h]; unfold MV.getA; rw [acctO_mv]; cases acctOf L a <;> rfl)
theorem c18' (b : Nat) (L : VL) (a : A160) (w : World) (hV : VAt w b L) : CE 18 [.pointer (some ⟨b, 0, none⟩), aggC [cA a]] w (fun v _ => v = .bool (L.mv.getA a).warm) :=
  CE.mono (c18 b L a w hV) (fun v w' h => by rw [h]; unfold MV.getA; rw [acctO_mv]; cases acctOf L a <;> rfl)
theorem c21' (b : Nat) (L : VL) (a : A160) (w : World) (hV : VAt w b L) : CE 21 [.pointer (some ⟨b, 0, none⟩), aggC [cA a]] w (fun v _ => v = .bool (L.mv.getA a).made) :=
  CE.mono (c21 b L a w hV) (fun v w' h => by rw [h]; unfold MV.getA; rw [acctO_mv]; cases acctOf L a <;> rfl)
theorem c22' (b : Nat) (L : VL) (a : A160) (w : World) (hV : VAt w b L) : CE 22 [.pointer (some ⟨b, 0, none⟩), aggC [cA a]] w (fun v _ => v = .bool (L.mv.getA a).gone) :=
  CE.mono (c22 b L a w hV) (fun v w' h => by rw [h]; unfold MV.getA; rw [acctO_mv]; cases acctOf L a <;> rfl)
theorem c15' (b : Nat) (L : VL) (a : A160) (w : World) (hV : VAt w b L) : CE 15 [.pointer (some ⟨b, 0, none⟩), aggC [cA a]] w (fun v w' => ∃ s' : Sl, v = .slice s'.a s'.n s'.c ∧ CodeR w' s' (oN (oB (L.mv.getA a).code))) :=
  CE.mono (c15 b L a w hV) (fun v w' ⟨s', h1, h2⟩ => ⟨s', h1, by
    have e : oB (L.mv.getA a).code = match acctOf L a with | some x => oB x.m.code | none => [] := by unfold MV.getA; rw [acctO_mv]; cases acctOf L a <;> rfl
    rw [e]; exact h2⟩)
theorem c17' (b : Nat) (L : VL) (a : A160) (key : W256) (w : World) (hV : VAt w b L) : CE 17 [.pointer (some ⟨b, 0, none⟩), aggC [cA a], aggC [cW key]] w (fun v _ => v = .tuple #[aggC [cW (L.mv.getS a key).val], aggC [cW (L.mv.getS a key).orig]]) :=
  CE.mono (c17 b L a key w hV) (fun v w' h => by rw [h]; unfold MV.getS; rw [slotO_mv]; cases slotOfV L a key <;> rfl)
theorem c19' (b : Nat) (L : VL) (a : A160) (key : W256) (w : World) (hV : VAt w b L) : CE 19 [.pointer (some ⟨b, 0, none⟩), aggC [cA a], aggC [cW key]] w (fun v _ => v = .bool (L.mv.getS a key).warm) :=
  CE.mono (c19 b L a key w hV) (fun v w' h => by rw [h]; unfold MV.getS; rw [slotO_mv]; cases slotOfV L a key <;> rfl)
theorem c23' (b : Nat) (L : VL) (a : A160) (key : W256) (w : World) (hV : VAt w b L) : CE 23 [.pointer (some ⟨b, 0, none⟩), aggC [cA a], aggC [cW key]] w (fun v _ => v = .tuple #[aggC [cW (L.mv.getS a key).val], aggC [cW (L.mv.getS a key).orig], .bool (L.mv.getS a key).warm]) :=
  CE.mono (c23 b L a key w hV) (fun v w' h => by rw [h]; unfold MV.getS; rw [slotO_mv]; cases slotOfV L a key <;> rfl)
theorem c20' (b : Nat) (L : VL) (a : A160) (key : W256) (w : World) (hV : VAt w b L) : CE 20 [.pointer (some ⟨b, 0, none⟩), aggC [cA a], aggC [cW key]] w (fun v _ => v = aggC [cW (L.mv.getT a key)]) :=
  CE.mono (c20 b L a key w hV) (fun v w' h => by rw [h]; unfold MV.getT; rw [tempO_mv]; cases tempOfV L a key <;> rfl)

def MV.play (m : MV) (p : LOp) : MAns × MV := match p.kind with
  | 0 => ({ zA with val := (m.getA p.addr).bal }, m)
  | 1 => ({ zA with n := (m.getA p.addr).nonce }, m)
  | 2 => ({ zA with code := oB (m.getA p.addr).code }, m)
  | 3 => ({ zA with ok := emptyM (m.getA p.addr) }, m)
  | 4 => ({ zA with val := (m.getS p.addr p.key).val, orig := (m.getS p.addr p.key).orig }, m)
  | 5 => ({ zA with ok := (m.getA p.addr).warm }, m)
  | 6 => ({ zA with ok := (m.getS p.addr p.key).warm }, m)
  | 7 => ({ zA with val := m.getT p.addr p.key }, m)
  | 8 => ({ zA with ok := (m.getA p.addr).made }, m)
  | 9 => ({ zA with ok := (m.getA p.addr).gone }, m)
  | 10 => ({ zA with val := (m.getS p.addr p.key).val, orig := (m.getS p.addr p.key).orig, ok := (m.getS p.addr p.key).warm }, m)
  | 11 => ({ zA with n := m.ref }, m)
  | 12 => ({ zA with logs := m.logs }, m)
  | 13 => ({ zA with tot := m.at p.id }, m)
  | 14 => ({ zA with world := m.xport }, m)
  | 15 => ({ zA with sz := szF m }, m)
  | 16 => ({ zA with ok := true }, m)
  | 17 => ({ zA with ok := m.mid p.id (todoOf p) }, m)
  | 18 => ({ zA with ok := true }, m)
  | 19 => let r := m.setA p.addr (fun k x => ⟨0, (k : Int), 0#64, x.bal, none, false⟩) (fun x => { x with bal := p.v }); ({ zA with ok := r.1 }, r.2)
  | 20 => let r := m.setA p.addr (fun k x => ⟨1, (k : Int), x.nonce, 0#256, none, false⟩) (fun x => { x with nonce := p.n }); ({ zA with ok := r.1 }, r.2)
  | 21 => let r := m.putCode p.addr p.b; ({ zA with ok := r.1 }, r.2)
  | 22 => let r := m.setS p.addr p.key (fun k x => ⟨3, (k : Int), 0#64, x.val, none, false⟩) (fun x => { x with val := p.v }); ({ zA with ok := r.1 }, r.2)
  | 23 => let r := m.setA p.addr (fun k x => ⟨4, (k : Int), 0#64, 0#256, none, x.warm⟩) (fun x => { x with warm := true }); ({ zA with ok := r.1 }, r.2)
  | 24 => let r := m.setS p.addr p.key (fun k x => ⟨5, (k : Int), 0#64, 0#256, none, x.warm⟩) (fun x => { x with warm := true }); ({ zA with ok := r.1 }, r.2)
  | 25 => let r := m.refundUp p.n; ({ zA with ok := r.1 }, r.2)
  | 26 => let r := m.refundDown p.n; ({ zA with ok := r.1 }, r.2)
  | 27 => let r := m.putLog (logM p); ({ zA with ok := r.1 }, r.2)
  | 28 => let r := m.setT p.addr p.key (fun k x => ⟨8, (k : Int), 0#64, x.val, none, false⟩) (fun x => { x with val := p.v }); ({ zA with ok := r.1 }, r.2)
  | 29 => let r := m.setA p.addr (fun k x => ⟨9, (k : Int), 0#64, 0#256, none, x.made⟩) (fun x => { x with made := true }); ({ zA with ok := r.1 }, r.2)
  | 30 => let r := m.setA p.addr (fun k x => ⟨10, (k : Int), 0#64, 0#256, none, x.gone⟩) (fun x => { x with gone := true }); ({ zA with ok := r.1 }, r.2)
  | 31 => let r := m.snap; ({ zA with id := r.1 }, r.2)
  | 32 => let r := m.revertTo p.id; ({ zA with ok := r.1 }, r.2)
  | 33 => let r := m.undoOne; ({ zA with ok := r.1 }, r.2)
  | 34 => (zA, m.endTx)
  | _ => (zA, m)
theorem AnsR.wk {w : World} {A : LAns} (h : AnsR w zAns) (h1 : A.hc = nilSl := by rfl) (h2 : A.code = none := by rfl) (h3 : A.hl = nilSl := by rfl) (h4 : A.logs = [] := by rfl) (h5 : A.hw = nilSl := by rfl) (h6 : A.world = [] := by rfl) : AnsR w A :=
  ⟨by rw [h1, h2]; exact h.c, by rw [h3, h4]; exact h.l, by rw [h4]; exact h.cl, by rw [h5, h6]; exact h.wd, by rw [h6]; exact h.cw, by rw [h4]; exact h.nl, by rw [h6]; exact h.nw, by rw [h6]; exact h.ns⟩
def PV (b B : Nat) (L : VL) (p : LOp) : Value → World → Prop := fun v w' => ∃ A L', v = aggC (ansC A) ∧ AnsR w' A ∧ A.m = (L.mv.play p).1 ∧ VAt w' b L' ∧ VLow B L' ∧ L'.mv = (L.mv.play p).2

theorem z52a : ZeroIs 52 (ansC zAns) := z52
theorem gn_ans (A : LAns) : GetN (flat (ansC A)) 0 25 (ansC A) := ⟨by rw [List.drop_zero, List.take_of_length_le (by rw [flat_len, ansC_sz]; exact Nat.le_refl _)], by rw [flat_len, ansC_sz]; exact Nat.le_refl _, ansC_sz A⟩
theorem s_ans (A B : LAns) : SetN (flat (ansC A)) 0 (ansC B) (flat (ansC B)) := ⟨by rw [List.take_zero, List.nil_append, ansC_sz, List.drop_of_length_le (by rw [flat_len, ansC_sz]; exact Nat.le_refl _), List.append_nil], by rw [flat_len, ansC_sz, ansC_sz]; exact Nat.le_refl _⟩
section
variable {N : Nat} {ops : Array Oper} {X : List Nat} {K : World → Env → Hp → Prop} {wb : World} {E : Env} {H : Hp} {r : List (Bool × Bool × Oper)} {ns : Bool}
  {d ty : Nat} {pos : String} {af : Array Edge} {g : Option (Nat × Bool)} {x y z u : Operand}
theorem z50c : ∃ i, Hvat.prog.info? 50 = some i ∧ i.zero = some (.agg #[.int .i32 0, .int .i32 0, .int .i32 0, .int .i32 0]) := by
  have h : (Hvat.prog.info? 50).bind (·.zero) = some (.agg #[.int .i32 0, .int .i32 0, .int .i32 0, .int .i32 0]) := by kernel_rfl
  exact Option.bind_eq_some_iff.1 h
theorem i21 : ∃ i, Hvat.prog.info? 21 = some i ∧ i.size = 1 := by
  have h : (Hvat.prog.info? 21).map (·.size) = some 1 := by kernel_rfl
  have ⟨i, hi, hs⟩ := Option.map_eq_some_iff.1 h
  exact ⟨i, hi, hs⟩
theorem und50 : Hvat.prog.underlying 50 = some (.array 4 21) := Hvat.underlying50
theorem r_b50 {a b c e : Int} (f : Nat → Int) (h0 : ev E x = some (.int .i32 a)) (h1 : ev E y = some (.int .i32 b)) (h2 : ev E z = some (.int .i32 c)) (h3 : ev E u = some (.int .i32 e))
    (f0 : f 0 = a) (f1 : f 1 = b) (f2 : f 2 = c) (f3 : f 3 = e)
    (hg : gd ops E ⟨some d, .build 50 #[(0, x), (1, y), (2, z), (3, u)], ty, pos, af, g⟩ = some true) (hN : Nat.blt d N = true)
    (h : WR N ops X r K wb ((d, aggC [cT 4 f]) :: E) H) : WR N ops X ((true, ns, ⟨some d, .build 50 #[(0, x), (1, y), (2, z), (3, u)], ty, pos, af, g⟩) :: r) K wb E H := by
  have ⟨i, hi, hz⟩ := z50c
  have ⟨j, hj, hs⟩ := i21
  refine wr_q hg rfl hN (fun ac w hst w' _ => ?_) h
  have e : aggC [cT 4 f] = .agg #[.int .i32 (f 0), .int .i32 (f 1), .int .i32 (f 2), .int .i32 (f 3)] := rfl
  rw [e, f0, f1, f2, f3]
  simp [execOp, Instr.build, zeroValue, typeInfo, hi, hz, underlying, und50, sizeOf, hj, hs, Value.cells, Instr.fill, hst.on.eval h0, hst.on.eval h1, hst.on.eval h2, hst.on.eval h3]
end

theorem mid_mv (L : VL) (id : Int) (todo : Nat) : L.mv.mid id todo = midB L id todo := by
  unfold MV.mid midB
  rw [lenJ_mv]; rfl
theorem keysA_len2 : ∀ (l : List Acct) (i : Nat), (keysA i l).length ≤ l.length
  | [], _ => Nat.le_refl _
  | x :: l, i => by
    have := keysA_len2 l (i + 1)
    unfold keysA
    split <;> simp <;> omega
theorem keysS_len2 (R : List Int) : ∀ (l : List Slot) (i : Nat), (keysS R i l).length ≤ l.length
  | [], _ => Nat.le_refl _
  | x :: l, i => by
    have := keysS_len2 R l (i + 1)
    unfold keysS
    split <;> simp <;> omega
theorem exp_len (m : MV) : m.xport.length ≤ m.accts.length := by
  unfold MV.xport expW expA
  rw [List.length_mapIdx, (sortK_perm _).length_eq]
  exact keysA_len2 _ _
theorem exp_st (m : MV) : ∀ x ∈ m.xport, x.stor.length ≤ m.slots.length := by
  intro x hx
  unfold MV.xport expW at hx
  obtain ⟨r, hr, rfl⟩ := List.mem_mapIdx.1 hx
  simp only [List.length_map]
  refine Nat.le_trans (List.length_filter_le _ _) ?_
  rw [List.length_take]
  refine Nat.le_trans (Nat.min_le_right _ _) ?_
  unfold expS
  rw [(sortK_perm _).length_eq]
  exact keysS_len2 _ _ _

end Go.Proofs.YgvatwGreat
