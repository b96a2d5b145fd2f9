/-
  A part of the proofs of the laws of the index: what the functions of this program compute. Conditions: none beyond those that its theorems name.
-/
import Derived.Test.YtmfgiabmmdbmoaaGreatDoorGw8
import Derived.ChangeKeysEq
/-
  THE GROUND OF THE WALKS (9): a slice of its own, written into.
-/
namespace Go.Gw

theorem patch_get {cs vs : List Value} {o i : Nat} (ho : o ≤ cs.length) : (patch cs o vs)[i]? = if i < o then cs[i]? else if i < o + vs.length then vs[i - o]? else cs[i]? := by
  unfold patch
  by_cases h1 : i < o
  · rw [if_pos h1, List.getElem?_append_left (by rw [List.length_take]; omega), List.getElem?_take, if_pos h1]
  · rw [if_neg h1, List.getElem?_append_right (by rw [List.length_take]; omega), List.length_take, Nat.min_eq_left ho]
    by_cases h2 : i < o + vs.length
    · rw [if_pos h2, List.getElem?_append_left (by omega)]
    · rw [if_neg h2, List.getElem?_append_right (by omega), List.getElem?_drop]
      congr 1; omega
theorem patch_length {cs vs : List Value} {o : Nat} (ho : o + vs.length ≤ cs.length) : (patch cs o vs).length = cs.length := by
  unfold patch; simp; omega
theorem patch_take {cs vs : List Value} {o n : Nat} (ho : o + vs.length ≤ n) (hn : n ≤ cs.length) : (patch cs o vs).take n = patch (cs.take n) o vs := by
  apply List.ext_getElem?
  intro i
  rw [List.getElem?_take, patch_get (by omega), patch_get (by rw [List.length_take]; omega), List.getElem?_take]
  by_cases h1 : i < n
  · simp [h1]
  · simp only [h1, if_false]
    rw [if_neg (by omega), if_neg (by omega)]
theorem patch_set {cs : List Value} {o : Nat} {x : Value} (ho : o < cs.length) : patch cs o [x] = cs.set o x := by
  apply List.ext_getElem?
  intro i
  rw [patch_get (by omega), List.getElem?_set]
  by_cases h1 : i < o
  · rw [if_pos h1, if_neg (by omega)]
  · rw [if_neg h1]
    by_cases h2 : i = o
    · subst h2; simp [ho]
    · simp only [List.length_cons, List.length_nil]
      rw [if_neg (by omega), if_neg (by omega)]

/-- A slice of its own that is not nil: its row, and how to write into it. -/
theorem Own.row {B : Nat} {h : Hp} {e : TypeId} {g cap n : Nat} {xs : List Value} (o : Own B h e 1 (.slice (some ⟨g, 0, none⟩) n cap) n xs) :
    ∃ cs : List Value, h[g]? = some (.cells ⟨cs⟩ e (0, 0)) ∧ cs.length = cap ∧ n ≤ cap ∧ B ≤ g ∧ cs.take n = xs ∧
      ∀ j ys h', j + ys.length ≤ n → Put h h' g (.cells ⟨patch cs j ys⟩ e (0, 0)) → Own B h' e 1 (.slice (some ⟨g, 0, none⟩) n cap) n (patch xs j ys) := by
  rcases o.2 with ⟨h0, _⟩ | ⟨g', cap', cur, hv, hB, hg, hnc, hcm, hcs, ht⟩
  · cases h0
  · cases hv
    obtain ⟨cs⟩ := cur
    have hl : cs.length = cap := by simpa using hcs
    have hx : cs.take n = xs := by simpa using ht
    refine ⟨cs, hg, hl, hnc, hB, hx, fun j ys h' hj hp => ?_⟩
    have hxl : xs.length = n := by rw [← hx, List.length_take]; omega
    have h2 := patch_take (cs := cs) (vs := ys) hj (by omega)
    rw [hx] at h2
    exact ⟨by rw [patch_length (by omega), hxl]; omega, .inr ⟨g, cap, ⟨patch cs j ys⟩, rfl, hB, hp.get, hnc, hcm, by show (patch cs j ys).length = _; rw [patch_length (by omega), hl]; omega, by show (patch cs j ys).take (n * 1) = _; rw [Nat.mul_one]; exact h2⟩⟩
theorem Put.own_bel {B : Nat} {h h' : Hp} {g : Nat} {o : Obj} (p : Put h h' g o) (hB : B ≤ g) : Bel B h h' := p.bel hB
/-- Cut to its first elements. -/
theorem Own.cut {B : Nat} {h : Hp} {e : TypeId} {g cap n j : Nat} {xs : List Value} (o : Own B h e 1 (.slice (some ⟨g, 0, none⟩) n cap) n xs) (hj : j ≤ n) : Own B h e 1 (.slice (some ⟨g, 0, none⟩) j cap) j (xs.take j) := by
  rcases o.2 with ⟨h0, _⟩ | ⟨g', cap', cur, hv, hB, hg, hnc, hcm, hcs, ht⟩
  · cases h0
  · cases hv
    have hl := o.1
    refine ⟨by rw [List.length_take]; omega, .inr ⟨g, cap, cur, rfl, hB, hg, by omega, hcm, hcs, ?_⟩⟩
    rw [← ht, List.take_take]
    congr 1; omega
end Go.Gw

/-
  THE GROUND OF THE WALKS (10): arrays of whole numbers, compared.
-/
namespace Go.Gw

theorem run_eqItems_ints {P : Program} {e : TypeId} (d : Nat) (he : P.underlying e = some (.int .i64)) (h1 : P.cellsOf e = 1) (cs ds : List Int) (w : World) : ∀ (is : List Nat), (∀ i ∈ is, i < cs.length ∧ i < ds.length) →
    (Op.eqItems (d + 1) e (P.cellsOf e) ⟨cs.map I⟩ ⟨ds.map I⟩ is).run P w = .ok (decide (∀ i ∈ is, cs[i]? = ds[i]?)) w := by
  have part_of : ∀ (l : List Int) (i : Nat) (hi : i < l.length), (part e ⟨l.map I⟩ (i * P.cellsOf e)).run P w = .ok (I l[i]) w := fun l i hi => by
    rw [h1, Nat.mul_one]
    simp [part, run_isAgg he, aggD, hi]
  intro is
  induction is with
  | nil => intro _; simp [Op.eqItems]
  | cons i is ih =>
    intro h
    obtain ⟨hi1, hi2⟩ := h i (by simp)
    have ih' := ih (fun j hj => h j (by simp [hj]))
    simp only [Op.eqItems, Sem.run_bind, part_of cs i hi1, part_of ds i hi2, Result.andThen_ok]
    rw [run_equalIn_int w d e .i64 .i64 _ _ he]
    simp only [Result.andThen_ok]
    by_cases e2 : cs[i] = ds[i]
    · simp only [e2, beq_self_eq_true, Bool.not_true, Bool.false_eq_true, if_false, ih', List.mem_cons, forall_eq_or_imp, List.getElem?_eq_getElem hi1, List.getElem?_eq_getElem hi2, true_and]
    · have hb : (cs[i] == ds[i]) = false := by simpa using e2
      simp only [hb, Bool.not_false, if_true, Sem.run_pure]
      congr 1
      symm
      rw [decide_eq_false_iff_not]
      intro hall
      have := hall i (by simp)
      rw [List.getElem?_eq_getElem hi1, List.getElem?_eq_getElem hi2] at this
      exact e2 (by simpa using this)
theorem run_equal_ints {P : Program} {t e : TypeId} {n : Nat} (hu : P.underlying t = some (.array n e)) (he : P.underlying e = some (.int .i64)) (hi : ∃ i, P.info? e = some i) (h1 : P.cellsOf e = 1) (cs ds : List Int) (hc : cs.length = n) (hd : ds.length = n) (w : World) :
    (Op.equal t (.agg ⟨cs.map I⟩) (.agg ⟨ds.map I⟩)).run P w = .ok (decide (cs = ds)) w := by
  obtain ⟨i, hi⟩ := hi
  obtain ⟨d, hd'⟩ : ∃ d, Op.maxDepth = d + 1 + 1 := ⟨9998, rfl⟩
  unfold Op.equal
  rw [hd', run_equalIn_array w (d + 1) _ _ hu hi, run_eqItems_ints d he h1 cs ds w _ (fun j hj => by rw [List.mem_range] at hj; omega)]
  congr 1
  rw [Bool.eq_iff_iff, decide_eq_true_eq, decide_eq_true_eq]
  refine ⟨fun h => List.ext_getElem? fun j => ?_, fun h => by subst h; simp⟩
  by_cases hj : j < n
  · exact h j (List.mem_range.2 hj)
  · rw [List.getElem?_eq_none (by omega), List.getElem?_eq_none (by omega)]
end Go.Gw

/-
  THE GROUND OF THE WALKS (11): regions in which two operations that act may come in either order: a plan that forks.
-/
namespace Go.Gw

inductive PT where
  | done
  | q (i : Nat) (r : PT)
  | act (i : Nat) (r : PT)
  | fork (i : Nat) (ri : PT) (j : Nat) (rj : PT)

def PT.len : PT → Nat
  | .done => 0
  | .q _ r => r.len + 1
  | .act _ r => r.len + 1
  | .fork _ r _ _ => r.len + 1

def PT.ok (ops : Array Oper) : PT → Array Bool → Bool
  | .done, listed => Region.ready .any ops listed == []
  | .q i r, listed => (Region.ready .any ops listed).contains i && apartAll ops listed i && r.ok ops (listed.setIfInBounds i true)
  | .act i r, listed => Region.ready .any ops listed == [i] && r.ok ops (listed.setIfInBounds i true)
  | .fork i ri j rj, listed => Region.ready .any ops listed == [i, j] && Nat.beq ri.len rj.len && ri.ok ops (listed.setIfInBounds i true) && rj.ok ops (listed.setIfInBounds j true)

section
variable {P : Program} {ρ : Option Nat} {ops : Array Oper} {In : World → Prop} {Q0 : Act → World → Prop}

def SeqT (P : Program) (ρ : Option Nat) (ops : Array Oper) (In : World → Prop) (Q0 : Act → World → Prop) : PT → Act → World → Prop
  | .done, a, w => Q0 a w
  | .q i r, a, w => ∃ o v, ops[i]? = some o ∧ Yc P ops In o v a ∧ SeqT P ρ ops In Q0 r (a.put o.dst v) w
  | .act i r, a, w => ∃ o, ops[i]? = some o ∧ wpListIn (Fr ρ) 0 P ops (fin fun a' w' => In w' ∧ SeqT P ρ ops In Q0 r a' w') [o] a w
  | .fork i ri j rj, a, w => (∃ o, ops[i]? = some o ∧ wpListIn (Fr ρ) 0 P ops (fin fun a' w' => In w' ∧ SeqT P ρ ops In Q0 ri a' w') [o] a w) ∧ (∃ o, ops[j]? = some o ∧ wpListIn (Fr ρ) 0 P ops (fin fun a' w' => In w' ∧ SeqT P ρ ops In Q0 rj a' w') [o] a w)

theorem tree_sound (hns : ∀ (j : Nat) (o : Oper), ops[j]? = some o → noDS o.op = true) : ∀ (p : PT) (listed : Array Bool) (a : Act) (w : World), Closed ops listed → p.ok ops listed = true → In w → SeqT P ρ ops In Q0 p a w → AnyC P ρ ops In [] Q0 p.len listed a w
  | .done, listed, a, w, _, hok, _, h => by
    simp only [PT.ok, beq_iff_eq] at hok
    exact ⟨hok, h⟩
  | .q i r, listed, a, w, hc, hok, hw, h => by
    obtain ⟨o, v, ho', hy, hs⟩ := h
    simp only [PT.ok, Bool.and_eq_true, List.contains_iff_mem] at hok
    obtain ⟨⟨h1, h2⟩, h4⟩ := hok
    refine AnyC.first ho' hns (fun j hj => by cases hj) _ listed a w hc ?_ h1 hy hw (tree_sound hns r _ _ w (hc.set h1) h4 hw hs)
    intro j oj hoj hne hun hno
    unfold apartAll at h2
    simp only [ho'] at h2
    have h5 := List.all_eq_true.1 h2 j (List.mem_range.2 (Array.getElem?_eq_some_iff.1 hoj).1)
    simp only [hoj, Bool.or_eq_true, beq_iff_eq] at h5
    rcases h5 with ((h5 | h5) | h5) | h5
    · exact absurd h5 hne
    · rw [hun] at h5; cases h5
    · obtain ⟨e, he, hb⟩ := List.any_eq_true.1 h5
      simp only [Bool.and_eq_true, beq_iff_eq] at hb
      exact absurd hb.2 (hno e (by simpa using he) hb.1)
    · exact h5
  | .act i r, listed, a, w, hc, hok, hw, h => by
    obtain ⟨o, ho', h⟩ := h
    simp only [PT.ok, Bool.and_eq_true, beq_iff_eq] at hok
    obtain ⟨h1, h4⟩ := hok
    refine ⟨fun h0 => (by rw [h1] at h0; cases h0), fun j hj => ?_⟩
    have hji : j = i := by rw [h1, List.mem_singleton] at hj; exact hj
    subst hji
    refine op_of_list ho' (fun a' w' h' => ?_) h
    obtain ⟨_, hin, hs⟩ := h'
    exact ⟨fun _ => hin, tree_sound hns r _ a' w' (hc.set hj) h4 hin hs⟩
  | .fork i ri k rk, listed, a, w, hc, hok, hw, h => by
    obtain ⟨⟨o, ho, h⟩, ⟨o', ho', h'⟩⟩ := h
    simp only [PT.ok, Bool.and_eq_true, beq_iff_eq] at hok
    obtain ⟨⟨⟨h1, hl⟩, h4⟩, h5⟩ := hok
    have hl := Nat.eq_of_beq_eq_true hl
    refine ⟨fun h0 => (by rw [h1] at h0; cases h0), fun j hj => ?_⟩
    have hj' := hj
    rw [h1] at hj'
    rcases List.mem_cons.1 hj' with hji | hj'
    · subst hji
      refine op_of_list ho (fun a' w' h' => ?_) h
      obtain ⟨_, hin, hs⟩ := h'
      exact ⟨fun _ => hin, tree_sound hns ri _ a' w' (hc.set hj) h4 hin hs⟩
    · rw [List.mem_singleton] at hj'
      subst hj'
      refine op_of_list ho' (fun a' w' h' => ?_) h'
      obtain ⟨_, hin, hs⟩ := h'
      rw [hl]
      exact ⟨fun _ => hin, tree_sound hns rk _ a' w' (hc.set hj) h5 hin hs⟩
end

section
variable {C : Cx} {all : List Oper} {K : Env → Hp → Prop} {E : Env} {h : Hp}

def SeqE (C : Cx) (all : List Oper) (p : PT) (K : Env → Hp → Prop) (E : Env) (h : Hp) : Prop :=
  ∀ a w, Agree C.n C.D E a → Is C.w0 h w → SeqT C.P C.ρ all.toArray (InOf C fun _ => True) (EndOf C K) p a w

theorem t_done (hk : K E h) : SeqE C all .done K E h := fun _ _ hA hw => ⟨E, h, hA, hw, hk⟩
theorem t_pv {T : List (Nat × TI)} (hT : TabOk C.P T) {i : Nat} {r : PT} {dst : Option Tmp} {op : Op} {ty : TypeId} {pos : String} {af : Array Edge} {v : Value} {c : Option Prop} (hi : all[i]? = some ⟨dst, op, ty, pos, af, none⟩)
    (hp : pv T E op = some (v, c)) (hc : ∀ φ, c = some φ → φ) (hd : dstOk C.n dst = true) (hx : SeqE C all r K (bind dst v E) h) : SeqE C all (.q i r) K E h := fun a w hA hw =>
  ⟨_, v, by simpa using hi, .inl ⟨by simp [Region.wanted], fun w' ⟨_, hw', _⟩ => pv_sound hT hA hp hc dst ty pos af w'⟩, hx _ _ (hA.bind hd v) hw⟩
theorem t_act {i : Nat} {r : PT} {o : Oper} (hi : all[i]? = some o) (hx : Ops C all [o] (fun E' h' => SeqE C all r K E' h') E h) : SeqE C all (.act i r) K E h := fun a w hA hw => by
  refine ⟨o, by simpa using hi, wpListIn_mono' ?_ (hx a w hA hw)⟩
  rintro e a' w' ⟨rfl, E', h', hA', hw', hs⟩
  exact ⟨rfl, ⟨h', hw', trivial⟩, hs a' w' hA' hw'⟩
theorem t_fork {i j : Nat} {ri rj : PT} {o o' : Oper} (hi : all[i]? = some o) (hj : all[j]? = some o') (hx : Ops C all [o] (fun E' h' => SeqE C all ri K E' h') E h) (hy : Ops C all [o'] (fun E' h' => SeqE C all rj K E' h') E h) : SeqE C all (.fork i ri j rj) K E h := fun a w hA hw => by
  refine ⟨⟨o, by simpa using hi, wpListIn_mono' ?_ (hx a w hA hw)⟩, ⟨o', by simpa using hj, wpListIn_mono' ?_ (hy a w hA hw)⟩⟩
  · rintro e a' w' ⟨rfl, E', h', hA', hw', hs⟩
    exact ⟨rfl, ⟨h', hw', trivial⟩, hs a' w' hA' hw'⟩
  · rintro e a' w' ⟨rfl, E', h', hA', hw', hs⟩
    exact ⟨rfl, ⟨h', hw', trivial⟩, hs a' w' hA' hw'⟩

/-- A region that draws its order, by a plan that may fork. -/
theorem x_tree {k : List Item} {Q : Post} {id : Nat} {l : List Oper} (plan : PT) (K : Env → Hp → Prop) (hm : C.P.follows .mixedOrders = true)
    (hok : (l.all (fun o => noDS o.op) && (plan.len == l.length) && plan.ok l.toArray (Array.replicate l.length false)) = true)
    (hx : SeqE C l plan K E h) (hk : ∀ E' h', K E' h' → X C .normal k Q E' h') : X C .normal (.code (.region id l.toArray true) :: k) Q E h := fun a w hA hw => by
  simp only [Bool.and_eq_true, beq_iff_eq] at hok
  obtain ⟨⟨hns, hlen⟩, hok⟩ := hok
  simp only [items]
  have hw' : Is C.w0 h { w with drawn := w.drawn + 1 } := ⟨hw.heap, hw.os, hw.tape, hw.output, Nat.le_succ_of_le hw.drawn⟩
  have hns' : ∀ (j : Nat) (o : Oper), l.toArray[j]? = some o → noDS o.op = true := fun j o hj => List.all_eq_true.1 hns o (List.mem_of_getElem? (by simpa using hj))
  have h1 := tree_sound (P := C.P) (ρ := C.ρ) (ops := l.toArray) (In := InOf C fun _ => True) (Q0 := EndOf C K) hns' plan (Array.replicate l.length false) a { w with drawn := w.drawn + 1 }
    ⟨by simp, fun j oj _ hl => by rw [getD_replicate_false'] at hl; cases hl⟩ hok ⟨h, hw', trivial⟩ (hx a _ hA hw')
  rw [hlen] at h1
  refine wpIn_mono (wpIn_region_any hm ?_) (Q := fin (EndOf C K)) ?_
  · have h2 := h1.any
    simpa using h2
  · rintro e a' w' ⟨rfl, E', h', hA', hw', hx'⟩
    exact hk E' h' hx' a' w' hA' hw'
end
end Go.Gw
