/-
  A part of the proofs of the laws of the index: what the functions of this program compute. Conditions: none beyond those that its theorems name.
-/
import Derived.Test.YtmfgiabmmdbmoaaGreatDoorGw8
import Derived.Shelf.SlSortCmp.NoneTotal
import Derived.Shelf.Strings.SlTrimAscii
/-
  THE SHELF'S WORDS AND OURS: rows that are sorted, compacted.
-/
namespace Go.Gw
open Go.Sort Go.Proofs

theorem callsH_same {P : Program} {f : FuncId} {args : Array Value} {h : Hp} {v : Value} (hok : FnOk P f) (hc : ∀ w, Calls P f args w fun e w' => e = .returned v ∧ w' = w) : CallsH P f args h (fun r h' => r = v ∧ h' = h) :=
  ⟨hok, fun w hw => (hc w).mono (by rintro _ _ ⟨rfl, rfl⟩; subst hw; exact ⟨v, rfl, Is.refl _, rfl, rfl⟩)⟩

theorem putRow_heap {α : Type} [Inhabited α] (enc : α → Value) (w : World) (blk off : Nat) (d : Array α) {cs : Array Value} {e : TypeId} {fz : Nat × Nat} (hb : w.heap[blk]? = some (.cells cs e fz)) :
    (putRow enc w blk off d).heap[blk]? = some (.cells (putCells enc off d cs) e fz) := by
  simp only [putRow, mapBlock, Array.getElem?_modify, if_true, hb, Option.map_some, onCells]
theorem putRow_other {α : Type} [Inhabited α] (enc : α → Value) (w : World) (blk off : Nat) (d : Array α) {k : Nat} (hk : k ≠ blk) : (putRow enc w blk off d).heap[k]? = w.heap[k]? := by
  simp only [putRow, mapBlock, Array.getElem?_modify, Ne.symm hk, if_false]

theorem putCells_take {α : Type} [Inhabited α] (enc : α → Value) (l : List α) (cs : Array Value) (h : l.length ≤ cs.size) : (putCells enc 0 l.toArray cs).toList.take l.length = l.map enc := by
  apply List.ext_getElem?
  intro j
  rw [List.getElem?_take]
  split
  · rename_i hj
    have hj2 : j < cs.size := by omega
    simp [putCells, hj, hj2]
  · rename_i hj
    rw [List.getElem?_eq_none (by simp; omega)]

/-- What holds of an own row whose cells are put anew, blocks behind it besides. -/
theorem own_putRow {α : Type} [Inhabited α] (enc : α → Value) {B : Nat} {w : World} {e : TypeId} {g n cap : Nat} {xs : List Value} (own : Own B w.heap e 1 (.slice (some ⟨g, 0, none⟩) n cap) n xs) (l : List α) (hl : l.length = n) (q : Nat) (os : Array Obj) :
    Own B (grow (putRow enc (Sort.ahead w q) g 0 l.toArray) os).heap e 1 (.slice (some ⟨g, 0, none⟩) n cap) n (l.map enc) ∧ Gr w.heap (grow (putRow enc (Sort.ahead w q) g 0 l.toArray) os).heap (some g) := by
  rcases own.2 with ⟨h0, _⟩ | ⟨g', cap', cur, hv, hB, hg, hnc, hcm, hcs, _⟩
  · cases h0
  · cases hv
    have hg' : (Sort.ahead w q).heap[g]? = some (.cells cur e (0, 0)) := hg
    have hsz : (putRow enc (Sort.ahead w q) g 0 l.toArray).heap.size = w.heap.size := by simp [Sort.ahead]
    have hlt : g < w.heap.size := lt_of_get hg
    have hput := putRow_heap enc (Sort.ahead w q) g 0 l.toArray hg'
    refine ⟨⟨by simp [hl], .inr ⟨g, cap, putCells enc 0 l.toArray cur, rfl, hB, ?_, hnc, hcm, by simpa [putCells] using hcs, ?_⟩⟩, ⟨by simp [grow, hsz], fun k hk hne => ?_⟩⟩
    · show ((putRow enc (Sort.ahead w q) g 0 l.toArray).heap ++ os)[g]? = _
      rw [Array.getElem?_append_left (by rw [hsz]; exact hlt)]
      exact hput
    · rw [Nat.mul_one, ← hl]
      exact putCells_take enc l cur (by rw [hl]; simp at hcs; omega)
    · show ((putRow enc (Sort.ahead w q) g 0 l.toArray).heap ++ os)[k]? = _
      rw [Array.getElem?_append_left (by rw [hsz]; exact hk), putRow_other enc _ _ _ _ (fun e => hne (by rw [e]))]
      rfl

theorem holds_own {α : Type} [Inhabited α] (enc : α → Value) {B : Nat} {w : World} {e : TypeId} {g n cap : Nat} {l : List α} (own : Own B w.heap e 1 (.slice (some ⟨g, 0, none⟩) n cap) n (l.map enc)) : Holds enc w g 0 l.toArray := by
  intro j hj
  have hj' : j < l.length := by simpa using hj
  have hc := Own.cells own rfl j (enc l[j]) (by simp [hj'])
  rw [add_head] at hc
  refine ⟨?_, ?_⟩
  · rw [Nat.zero_add, cell_of rfl, hc]; simp [hj']
  · rcases own.2 with ⟨h0, _⟩ | ⟨g', cap', cur, hv, _, hg, _⟩
    · cases h0
    · cases hv
      unfold World.frozen?
      have hg' : w.heap[g]? = some (.cells cur e (0, 0)) := hg
      simp [hg']
theorem is_grow {α : Type} [Inhabited α] (enc : α → Value) (w : World) (q g : Nat) (d : Array α) (os : Array Obj) : Is w (grow (putRow enc (Sort.ahead w q) g 0 d) os).heap (grow (putRow enc (Sort.ahead w q) g 0 d) os) :=
  ⟨rfl, rfl, rfl, rfl, by show w.drawn ≤ w.drawn + q; omega⟩
/-- A world that has only grown, in the words of the shelf. -/
theorem grow_of_is {w w' : World} (hi : Is w w'.heap w') (he : Ext w.heap w'.heap) : ∃ q os, w' = grow (w.drewN q) os := by
  refine ⟨w'.drawn - w.drawn, w'.heap.extract w.heap.size w'.heap.size, ?_⟩
  obtain ⟨hp, tp, dr, o, out⟩ := w'
  have h1 := hi.os; have h2 := hi.tape; have h3 := hi.output; have h4 := hi.drawn
  simp only at h1 h2 h3 h4 he
  subst h1 h2 h3
  unfold grow World.drewN
  simp only [World.mk.injEq, and_true, true_and]
  refine ⟨?_, by omega⟩
  apply Array.ext_getElem?
  intro k
  rcases Nat.lt_or_ge k w.heap.size with hk | hk
  · rw [Array.getElem?_append_left hk]; exact he.old k hk
  · rw [Array.getElem?_append_right hk, Array.getElem?_extract]
    have hs := he.size
    by_cases hk2 : k < hp.size
    · rw [if_pos (by omega)]; congr 1; omega
    · rw [if_neg (by omega)]; rw [Array.getElem?_eq_none (by omega)]
end Go.Gw
