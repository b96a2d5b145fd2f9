/-
  A part of the proofs of the laws of the index: what the functions of this program compute. Conditions: none beyond those that its theorems name.
-/
import Derived.Test.YtmfgiabmmdbmoaaGreatDoorGw8
import Derived.Test.YtmfgiabmmdbmoaaGreatDoorCards
import Derived.Test.YtmfgiabmmdbmoaaGreatDoorTie
import Derived.ProofKit
import Derived.Lay
import Derived.LaidOnce
import Derived.SevenTiedAt
import Derived.Carry
import Derived.SliceStrings
import Derived.ChangeMaps5
namespace Go.Proofs.YtmfgiabmmdbmoaaGreatDoor
open Go.ChangeShapes Go.WideShapes Go.ChangeAt Go.RowKit Go.ChangeMaps
set_option maxRecDepth 100000

theorem below_of {W W' : World} (hi : Gw.Is W W'.heap W') (he : Gw.Ext W.heap W'.heap) : Below W.heap.size W W' := ⟨hi.os, hi.tape, hi.output, he.size, he.old⟩
theorem ownK : ownKnob Tryz.prog.godebug = none := by kernel_rfl
theorem laidOutK : laidOutB Tryz.prog = true := by kernel_rfl
theorem cells9K : Tryz.prog.cellsOf 9 = 1 := by kernel_rfl
section
variable {H : Type} {enc : TypeId × Value → H}
/-- Arguments read behind the call as they read before. -/
theorem trodAll_below {W W' : World} (hb : Below W.heap.size W W') : ∀ {ts : List TypeId} {vs : List Value} {ds : List (DataW H)} {ps : List MemPlace}, (∀ t ∈ ts, Tryz.prog.readableRec t = true ∧ t < Tryz.prog.types.size) →
    DataW.TrodAll enc Tryz.prog W 0 (fun _ => true) true ts vs ds ps → (∀ x ∈ ps, x.block < W.heap.size) → DataW.TrodAll enc Tryz.prog W' 0 (fun b => decide (b < W.heap.size)) true ts vs ds ps
  | [], vs, ds, ps, _, h, _ => by
    obtain ⟨rfl, rfl, rfl⟩ := trodAll_nil h
    exact trodAll_mk0
  | t :: ts, vs, ds, ps, hall, h, hlt => by
    match vs, ds, h with
    | v :: vs, d :: ds, h =>
      obtain ⟨p, q, h1, h2, rfl⟩ := h
      obtain ⟨hr, hs⟩ := hall t (by simp)
      exact ⟨p, q, Below.trod laidOutK hr hs h1 hb (fun x hx => hlt x (List.mem_append_left _ hx)), trodAll_below hb (fun u hu => hall u (by simp [hu])) h2 (fun x hx => hlt x (List.mem_append_right _ hx)), rfl⟩
theorem trodAll_K1 {W : World} {t0 : TypeId} {args : Array Value} {ds : List (DataW H)} {ps : List MemPlace} (h : DataW.TrodAll enc Tryz.prog W 0 (fun _ => true) true [t0] args.toList ds ps) :
    ∃ (v0 : Value) (d0 : DataW H) (p0 : List MemPlace), args = #[v0] ∧ ds = [d0] ∧ DataW.Trod enc Tryz.prog W 0 (fun _ => true) true t0 v0 d0 p0 := by
  obtain ⟨v0, vs0, d0, ds0, p0, q0, e0, rfl, rfl, a0, h0⟩ := trodAll_cons h
  obtain ⟨rfl, rfl, rfl⟩ := trodAll_nil h0
  exact ⟨v0, d0, p0, by cases args; simp_all, rfl, a0⟩
theorem trodAll_K2 {W : World} {t0 t1 : TypeId} {args : Array Value} {ds : List (DataW H)} {ps : List MemPlace} (h : DataW.TrodAll enc Tryz.prog W 0 (fun _ => true) true [t0, t1] args.toList ds ps) :
    ∃ (v0 v1 : Value) (d0 d1 : DataW H) (p0 p1 : List MemPlace), args = #[v0, v1] ∧ ds = [d0, d1] ∧ DataW.Trod enc Tryz.prog W 0 (fun _ => true) true t0 v0 d0 p0 ∧ DataW.Trod enc Tryz.prog W 0 (fun _ => true) true t1 v1 d1 p1 := by
  obtain ⟨v0, vs0, d0, ds0, p0, q0, e0, rfl, rfl, a0, h0⟩ := trodAll_cons h
  obtain ⟨v1, vs1, d1, ds1, p1, q1, e1, rfl, rfl, a1, h1⟩ := trodAll_cons h0
  obtain ⟨rfl, rfl, rfl⟩ := trodAll_nil h1
  subst e1
  exact ⟨v0, v1, d0, d1, p0, p1, by cases args; simp_all, rfl, a0, a1⟩
theorem trodAll_K3 {W : World} {t0 t1 t2 : TypeId} {args : Array Value} {ds : List (DataW H)} {ps : List MemPlace} (h : DataW.TrodAll enc Tryz.prog W 0 (fun _ => true) true [t0, t1, t2] args.toList ds ps) :
    ∃ (v0 v1 v2 : Value) (d0 d1 d2 : DataW H) (p0 p1 p2 : List MemPlace), args = #[v0, v1, v2] ∧ ds = [d0, d1, d2] ∧ DataW.Trod enc Tryz.prog W 0 (fun _ => true) true t0 v0 d0 p0 ∧ DataW.Trod enc Tryz.prog W 0 (fun _ => true) true t1 v1 d1 p1 ∧ DataW.Trod enc Tryz.prog W 0 (fun _ => true) true t2 v2 d2 p2 := by
  obtain ⟨v0, vs0, d0, ds0, p0, q0, e0, rfl, rfl, a0, h0⟩ := trodAll_cons h
  obtain ⟨v1, vs1, d1, ds1, p1, q1, e1, rfl, rfl, a1, h1⟩ := trodAll_cons h0
  obtain ⟨v2, vs2, d2, ds2, p2, q2, e2, rfl, rfl, a2, h2⟩ := trodAll_cons h1
  obtain ⟨rfl, rfl, rfl⟩ := trodAll_nil h2
  subst e2
  subst e1
  exact ⟨v0, v1, v2, d0, d1, d2, p0, p1, p2, by cases args; simp_all, rfl, a0, a1, a2⟩
theorem trodAll_K4 {W : World} {t0 t1 t2 t3 : TypeId} {args : Array Value} {ds : List (DataW H)} {ps : List MemPlace} (h : DataW.TrodAll enc Tryz.prog W 0 (fun _ => true) true [t0, t1, t2, t3] args.toList ds ps) :
    ∃ (v0 v1 v2 v3 : Value) (d0 d1 d2 d3 : DataW H) (p0 p1 p2 p3 : List MemPlace), args = #[v0, v1, v2, v3] ∧ ds = [d0, d1, d2, d3] ∧ DataW.Trod enc Tryz.prog W 0 (fun _ => true) true t0 v0 d0 p0 ∧ DataW.Trod enc Tryz.prog W 0 (fun _ => true) true t1 v1 d1 p1 ∧ DataW.Trod enc Tryz.prog W 0 (fun _ => true) true t2 v2 d2 p2 ∧ DataW.Trod enc Tryz.prog W 0 (fun _ => true) true t3 v3 d3 p3 := by
  obtain ⟨v0, vs0, d0, ds0, p0, q0, e0, rfl, rfl, a0, h0⟩ := trodAll_cons h
  obtain ⟨v1, vs1, d1, ds1, p1, q1, e1, rfl, rfl, a1, h1⟩ := trodAll_cons h0
  obtain ⟨v2, vs2, d2, ds2, p2, q2, e2, rfl, rfl, a2, h2⟩ := trodAll_cons h1
  obtain ⟨v3, vs3, d3, ds3, p3, q3, e3, rfl, rfl, a3, h3⟩ := trodAll_cons h2
  obtain ⟨rfl, rfl, rfl⟩ := trodAll_nil h3
  subst e3
  subst e2
  subst e1
  exact ⟨v0, v1, v2, v3, d0, d1, d2, d3, p0, p1, p2, p3, by cases args; simp_all, rfl, a0, a1, a2, a3⟩
theorem trodAll_K5 {W : World} {t0 t1 t2 t3 t4 : TypeId} {args : Array Value} {ds : List (DataW H)} {ps : List MemPlace} (h : DataW.TrodAll enc Tryz.prog W 0 (fun _ => true) true [t0, t1, t2, t3, t4] args.toList ds ps) :
    ∃ (v0 v1 v2 v3 v4 : Value) (d0 d1 d2 d3 d4 : DataW H) (p0 p1 p2 p3 p4 : List MemPlace), args = #[v0, v1, v2, v3, v4] ∧ ds = [d0, d1, d2, d3, d4] ∧ DataW.Trod enc Tryz.prog W 0 (fun _ => true) true t0 v0 d0 p0 ∧ DataW.Trod enc Tryz.prog W 0 (fun _ => true) true t1 v1 d1 p1 ∧ DataW.Trod enc Tryz.prog W 0 (fun _ => true) true t2 v2 d2 p2 ∧ DataW.Trod enc Tryz.prog W 0 (fun _ => true) true t3 v3 d3 p3 ∧ DataW.Trod enc Tryz.prog W 0 (fun _ => true) true t4 v4 d4 p4 := by
  obtain ⟨v0, vs0, d0, ds0, p0, q0, e0, rfl, rfl, a0, h0⟩ := trodAll_cons h
  obtain ⟨v1, vs1, d1, ds1, p1, q1, e1, rfl, rfl, a1, h1⟩ := trodAll_cons h0
  obtain ⟨v2, vs2, d2, ds2, p2, q2, e2, rfl, rfl, a2, h2⟩ := trodAll_cons h1
  obtain ⟨v3, vs3, d3, ds3, p3, q3, e3, rfl, rfl, a3, h3⟩ := trodAll_cons h2
  obtain ⟨v4, vs4, d4, ds4, p4, q4, e4, rfl, rfl, a4, h4⟩ := trodAll_cons h3
  obtain ⟨rfl, rfl, rfl⟩ := trodAll_nil h4
  subst e4
  subst e3
  subst e2
  subst e1
  exact ⟨v0, v1, v2, v3, v4, d0, d1, d2, d3, d4, p0, p1, p2, p3, p4, by cases args; simp_all, rfl, a0, a1, a2, a3, a4⟩
/-- A list of strings that came in. -/
theorem strs_of {W : World} {base : Nat} {v : Value} {d : DataW H} {ps : List MemPlace} (hok : Value.okWide Tryz.prog W .any base 22 v) (h : DataW.Trod enc Tryz.prog W 0 (fun _ => true) true 22 v d ps) : ∃ l : List Gw.Bs, Gw.Strs W.heap v l := by
  obtain ⟨a0, len, cap, rfl⟩ := okWide_slice Tryz.underlying22 hok
  obtain ⟨fuel, hf⟩ := h
  rcases open_strings Tryz.underlying22 Tryz.underlying9 cells9K hf with ⟨hcs, _⟩ | ⟨a, len', cap', ss, hcs, _, hl, _, hz, _, hcell, _⟩
  · simp [Value.cells] at hcs
    obtain ⟨rfl, rfl, rfl⟩ := hcs
    exact ⟨[], Gw.Sl.nil _⟩
  · simp [Value.cells] at hcs
    obtain ⟨rfl, rfl, rfl⟩ := hcs
    simp only [if_true] at hz
    refine ⟨(ss.take len).map (·.data.toList), some a, cap, ?_, ?_, fun i x hi => ⟨a, rfl, ?_⟩⟩
    · simp; omega
    · simp; omega
    · simp only [List.getElem?_map, Option.map_eq_some_iff] at hi
      obtain ⟨y, ⟨s, hs, rfl⟩, rfl⟩ := hi
      rw [List.getElem?_take] at hs
      split at hs
      · rename_i hlt
        have hlt2 : i < ss.length := by omega
        have hc := hcell i hlt2
        have e : ss.getD i ByteArray.empty = s := by simp [List.getD, hs]
        rw [e] at hc
        exact hc
      · cases hs
theorem string_of {W : World} {base : Nat} {v : Value} {d : DataW H} {ps : List MemPlace} (hok : Value.okWide Tryz.prog W .any base 9 v) (h : DataW.Trod enc Tryz.prog W 0 (fun _ => true) true 9 v d ps) : ∃ l : Gw.Bs, v = Gw.S l := by
  obtain ⟨⟨⟨l⟩⟩, rfl, _, _, _⟩ := open_string Tryz.underlying9 hok h
  exact ⟨l, rfl⟩
theorem byte_of {W : World} {base : Nat} {v : Value} {d : DataW H} {ps : List MemPlace} (hok : Value.okWide Tryz.prog W .any base 5 v) (h : DataW.Trod enc Tryz.prog W 0 (fun _ => true) true 5 v d ps) : ∃ n : Nat, v = .int .u8 (n : Int) ∧ n ≤ 255 := by
  obtain ⟨x, rfl, _, _, wx⟩ := open_int Tryz.underlying5 hok h
  have hx : 0 ≤ x ∧ x ≤ 255 := by simpa [Lit.wf, IntKind.min, IntKind.max, IntKind.signed, IntKind.bits] using wx
  exact ⟨x.toNat, by rw [show ((x.toNat : Nat) : Int) = x by omega], by omega⟩
end
end Go.Proofs.YtmfgiabmmdbmoaaGreatDoor
