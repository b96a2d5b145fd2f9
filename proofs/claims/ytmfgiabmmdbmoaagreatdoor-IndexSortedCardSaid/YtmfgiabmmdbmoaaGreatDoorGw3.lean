/-
  A part of the proofs of the laws of the index: what the functions of this program compute. Conditions: none beyond those that its theorems name.
-/
import Derived.Test.YtmfgiabmmdbmoaaGreatDoorGw2
import Derived.Laws.AppendOwn
import Derived.Laws.OwnMore
import Derived.Laws.MakeOwn
/-
  THE GROUND OF THE WALKS (3): the heap: what a slice's cells read as; loads, stores, new blocks.
-/
namespace Go.Gw

/-- A world over a heap, for what speaks of the heap alone. -/
def mkW (h : Hp) : World := { heap := h, tape := fun _ _ => 0, drawn := 0, os := default, output := #[] }

def hcell (h : Hp) (a : Addr) : Option Value := (mkW h).cell? a

theorem cell_of {w : World} {h : Hp} (hw : w.heap = h) (a : Addr) : w.cell? a = hcell h a := by subst hw; rfl

/-- Nothing that lay below block number B has turned. -/
structure Bel (B : Nat) (h h' : Hp) : Prop where
  size : h.size ≤ h'.size
  old : ∀ k, k < B → h'[k]? = h[k]?

/-- New blocks at most. -/
abbrev Ext (h h' : Hp) : Prop := Bel h.size h h'

theorem Bel.refl (B : Nat) (h : Hp) : Bel B h h := ⟨Nat.le_refl _, fun _ _ => rfl⟩
theorem Bel.trans {B : Nat} {h h' h'' : Hp} (a : Bel B h h') (b : Bel B h' h'') : Bel B h h'' :=
  ⟨Nat.le_trans a.size b.size, fun k hk => (b.old k hk).trans (a.old k hk)⟩
theorem Bel.mono {B B' : Nat} {h h' : Hp} (a : Bel B h h') (hB : B' ≤ B) : Bel B' h h' := ⟨a.size, fun k hk => a.old k (Nat.lt_of_lt_of_le hk hB)⟩
/-- One more step, which turns nothing old. -/
theorem Bel.ext {B : Nat} {h h' h'' : Hp} (a : Bel B h h') (hB : B ≤ h'.size) (b : Ext h' h'') : Bel B h h'' := a.trans (b.mono hB)
theorem Ext.trans {h h' h'' : Hp} (a : Ext h h') (b : Ext h' h'') : Ext h h'' := Bel.ext a a.size b
theorem Ext.refl (h : Hp) : Ext h h := Bel.refl _ h

theorem lt_of_get {h : Hp} {b : Nat} {o : Obj} (hb : h[b]? = some o) : b < h.size := (Array.getElem?_eq_some_iff.1 hb).1
theorem Bel.get {B : Nat} {h h' : Hp} (a : Bel B h h') {b : Nat} {o : Obj} (hb : h[b]? = some o) (hB : b < B) : h'[b]? = some o := (a.old b hB).trans hb
theorem Ext.get {h h' : Hp} (a : Ext h h') {b : Nat} {o : Obj} (hb : h[b]? = some o) : h'[b]? = some o := Bel.get a hb (lt_of_get hb)

theorem lt_of_hcell {h : Hp} {a : Addr} {v : Value} (hc : hcell h a = some v) : a.block < h.size := by
  unfold hcell World.cell? mkW at hc
  simp only at hc
  split at hc
  · rename_i hb; exact lt_of_get hb
  · cases hc
theorem Bel.cell {B : Nat} {h h' : Hp} (e : Bel B h h') {a : Addr} {v : Value} (hc : hcell h a = some v) (hB : a.block < B) : hcell h' a = some v := by
  rw [← hc]; unfold hcell World.cell? mkW; simp only; rw [e.old _ hB]
theorem Ext.cell {h h' : Hp} (e : Ext h h') {a : Addr} {v : Value} (hc : hcell h a = some v) : hcell h' a = some v := Bel.cell e hc (lt_of_hcell hc)

@[simp] theorem add_block (a : Addr) (n : Nat) : (a.add n).block = a.block := by unfold Addr.add; split <;> rfl
theorem add_add (a : Addr) (m n : Nat) : (a.add m).add n = a.add (m + n) := by
  unfold Addr.add
  by_cases hm : m = 0 <;> by_cases hn : n = 0 <;> simp [hm, hn]; omega
@[simp] theorem add_zero (a : Addr) : a.add 0 = a := by simp [Addr.add]
theorem add_head (b n : Nat) : (⟨b, 0, none⟩ : Addr).add n = ⟨b, n, none⟩ := by unfold Addr.add; split <;> simp_all
theorem add_at (b o n : Nat) : (⟨b, o, none⟩ : Addr).add n = ⟨b, o + n, none⟩ := by unfold Addr.add; split <;> simp_all

theorem hcell_block {h : Hp} {b : Nat} {c : Array Value} {e : TypeId} {fz : Nat × Nat} (hb : h[b]? = some (.cells c e fz)) (o : Nat) : hcell h ⟨b, o, none⟩ = c[o]? := by
  simp [hcell, World.cell?, mkW, hb]

/-- The slice v holds these elements, one cell each. -/
def Sl (h : Hp) (v : Value) (xs : List Value) : Prop :=
  ∃ a cap, v = .slice a xs.length cap ∧ xs.length ≤ cap ∧ ∀ i x, xs[i]? = some x → ∃ p, a = some p ∧ hcell h (p.add i) = some x

theorem Sl.nil (h : Hp) : Sl h (.slice none 0 0) [] := ⟨none, 0, rfl, Nat.le_refl _, fun i x e => by simp at e⟩
theorem Sl.bel {B : Nat} {h h' : Hp} {v : Value} {xs : List Value} (s : Sl h v xs) (e : Bel B h h') (hB : h.size ≤ B) : Sl h' v xs := by
  obtain ⟨a, cap, rfl, hc, hx⟩ := s
  exact ⟨a, cap, rfl, hc, fun i x hi => by obtain ⟨p, hp, hcell⟩ := hx i x hi; exact ⟨p, hp, e.cell hcell (Nat.lt_of_lt_of_le (lt_of_hcell hcell) hB)⟩⟩
theorem Sl.ext {h h' : Hp} {v : Value} {xs : List Value} (s : Sl h v xs) (e : Ext h h') : Sl h' v xs := s.bel e (Nat.le_refl _)

/-- A list of strings, of numbers. -/
abbrev Strs (h : Hp) (v : Value) (l : List Bs) : Prop := Sl h v (l.map S)
abbrev I (n : Int) : Value := .int .i64 n
abbrev Ints (h : Hp) (v : Value) (l : List Int) : Prop := Sl h v (l.map I)

/-- Opened: an address (any, if there is no element), the length as a plain number. -/
theorem Strs.open {h : Hp} {v : Value} {l : List Bs} (s : Strs h v l) : ∃ a cap, v = .slice a l.length cap ∧ l.length ≤ cap ∧ ∀ i x, l[i]? = some x → ∃ p, a = some p ∧ hcell h (p.add i) = some (S x) := by
  obtain ⟨a, cap, hv, hc, hx⟩ := s
  simp only [List.length_map] at hv hc
  exact ⟨a, cap, hv, hc, fun i x hi => hx i (S x) (by simp [hi])⟩
theorem Ints.open {h : Hp} {v : Value} {l : List Int} (s : Ints h v l) : ∃ a cap, v = .slice a l.length cap ∧ l.length ≤ cap ∧ ∀ i x, l[i]? = some x → ∃ p, a = some p ∧ hcell h (p.add i) = some (I x) := by
  obtain ⟨a, cap, hv, hc, hx⟩ := s
  simp only [List.length_map] at hv hc
  exact ⟨a, cap, hv, hc, fun i x hi => hx i (I x) (by simp [hi])⟩

/-! ### Operations on memory -/
section ops
variable {C : Cx} {T : List (Nat × TI)} {all rest : List Oper} {K : Env → Hp → Prop} {E : Env} {h : Hp} {ty : TypeId} {pos : String} {af : Array Edge} {d : Tmp} {t : TypeId}

def scalK : TK → Bool
  | .struct _ | .arr .. => false
  | _ => true

theorem scal_agg {P : Program} {t : TypeId} {k : TK} (hk : KOk P t k) (hs : scalK k = true) (w : World) : (isAgg t).run P w = .ok false w := by
  cases k with
  | scal => obtain ⟨d, hd, ha⟩ := hk; rw [run_isAgg hd, ha]
  | bool => exact run_isAgg (d := .bool) hk
  | int k => exact run_isAgg (d := .int k) hk
  | str => exact run_isAgg (d := .string) hk
  | slice e s b => exact run_isAgg hk.1
  | struct _ => cases hs
  | arr _ _ _ _ => cases hs
  | map k e => exact run_isAgg (d := .map k e) hk

theorem agg_agg {P : Program} {t : TypeId} {k : TK} (hk : KOk P t k) (hs : scalK k = false) (w : World) : (isAgg t).run P w = .ok true w := by
  cases k with
  | struct fs => obtain ⟨gs, hg, _⟩ := hk; exact run_isAgg hg
  | arr n e s g => exact run_isAgg hk.1
  | _ => cases hs

theorem ops_load {ti : TI} {x : Operand} {a : Addr} {v : Value} (hT : TabOk C.P T) (ht : lookT T t = some ti) (hs : scalK ti.kind = true) (hd : Nat.blt d C.n = true)
    (hx : ev E x = some (.pointer (some a))) (hc : hcell h a = some v) (hk : Ops C all rest K ((d, v) :: E) h) : Ops C all (⟨some d, .load t x, ty, pos, af, none⟩ :: rest) K E h := by
  refine ops_value (v := v) rfl (by simp) hd (fun a' w hA hw => ⟨w, ?_, hw⟩) hk
  have hcw : w.cell? a = some v := (cell_of hw.heap a).trans hc
  simp [execOp, Instr.loadAt, ev_eval hA hx, Instr.sureAddr, loadVar, scal_agg (tab_look hT ht).1 hs, hcw]

/-- The cells from a on. -/
def Cells (h : Hp) (a : Addr) (vs : List Value) : Prop := ∀ i v, vs[i]? = some v → hcell h (a.add i) = some v

theorem run_loadCellsFrom {P : Program} {w : World} {h : Hp} (hw : w.heap = h) (a : Addr) : ∀ (vs : List Value) (i : Nat) (acc : Array Value), (∀ j v, vs[j]? = some v → hcell h (a.add (i + j)) = some v) →
    (loadCellsFrom a i vs.length acc).run P w = .ok (acc ++ vs.toArray) w
  | [], i, acc, _ => by simp [loadCellsFrom]
  | v :: vs, i, acc, hc => by
    have h0 : w.cell? (a.add i) = some v := (cell_of hw _).trans (by simpa using hc 0 v rfl)
    have ih := run_loadCellsFrom (P := P) hw a vs (i + 1) (acc.push v) (fun j u hj => by have := hc (j + 1) u (by simpa using hj); rwa [show i + 1 + j = i + (j + 1) by omega])
    simp only [List.length_cons, loadCellsFrom, Sem.run_bind, run_load, h0, Result.andThen_ok, ih]
    simp

theorem ops_loads {ti : TI} {x : Operand} {a : Addr} {vs : List Value} (hT : TabOk C.P T) (ht : lookT T t = some ti) (hs : scalK ti.kind = false) (hn : ti.size = vs.length) (hd : Nat.blt d C.n = true)
    (hx : ev E x = some (.pointer (some a))) (hc : Cells h a vs) (hk : Ops C all rest K ((d, .agg ⟨vs⟩) :: E) h) : Ops C all (⟨some d, .load t x, ty, pos, af, none⟩ :: rest) K E h := by
  refine ops_value (v := .agg ⟨vs⟩) rfl (by simp) hd (fun a' w hA hw => ⟨w, ?_, hw⟩) hk
  obtain ⟨i, h1, h2, _, _⟩ := (tab_look hT ht).info
  have := run_loadCellsFrom (P := C.P) hw.heap a vs 0 #[] (fun j v hj => by simpa using hc j v hj)
  simp [execOp, Instr.loadAt, ev_eval hA hx, Instr.sureAddr, loadVar, agg_agg (tab_look hT ht).1 hs, sizeOf, run_typeInfo' h1, h2, hn, loadCells, this]

end ops
end Go.Gw
