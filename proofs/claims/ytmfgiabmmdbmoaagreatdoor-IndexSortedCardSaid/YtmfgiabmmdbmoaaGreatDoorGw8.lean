/-
  A part of the proofs of the laws of the index: what the functions of this program compute. Conditions: none beyond those that its theorems name.
-/
import Derived.Test.YtmfgiabmmdbmoaaGreatDoorGw7
/-
  THE GROUND OF THE WALKS (8): a test in the middle of a region; lists in memory, opened.
-/
namespace Go.Gw
section
variable {C : Cx} {Cl : Hp → Prop} {all tail l : List Oper} {p : List (Oper × Bool)} {K : Env → Hp → Prop} {E : Env} {h : Hp}

theorem sub_cons_same {t : Nat} {v : Value} {E : Env} (ht : look E t = some v) : Sub ((t, v) :: E) E := fun u x hx => by
  rw [look_cons] at hx
  split at hx
  · rename_i e; cases hx; subst e; exact ht
  · exact hx

theorem ops_dec {φ : Prop} [Decidable φ] (t : Nat) (ht : look E t = some (.bool (decide φ))) (hy : φ → Ops C all l K ((t, .bool true) :: E) h) (hn : ¬ φ → Ops C all l K ((t, .bool false) :: E) h) : Ops C all l K E h := by
  by_cases hp : φ
  · rw [decide_eq_true hp] at ht; exact (hy hp).weaken (sub_cons_same ht)
  · rw [decide_eq_false hp] at ht; exact (hn hp).weaken (sub_cons_same ht)
theorem ops_bool {b : Bool} (t : Nat) (ht : look E t = some (.bool b)) (hy : b = true → Ops C all l K ((t, .bool true) :: E) h) (hn : b = false → Ops C all l K ((t, .bool false) :: E) h) : Ops C all l K E h := by
  cases b with
  | true => exact (hy rfl).weaken (sub_cons_same ht)
  | false => exact (hn rfl).weaken (sub_cons_same ht)
theorem seq_dec {φ : Prop} [Decidable φ] (t : Nat) (ht : look E t = some (.bool (decide φ))) (hy : φ → Seq C Cl all p tail K ((t, .bool true) :: E) h) (hn : ¬ φ → Seq C Cl all p tail K ((t, .bool false) :: E) h) : Seq C Cl all p tail K E h := by
  by_cases hp : φ
  · rw [decide_eq_true hp] at ht; exact (hy hp).weaken (sub_cons_same ht)
  · rw [decide_eq_false hp] at ht; exact (hn hp).weaken (sub_cons_same ht)
theorem seq_bool {b : Bool} (t : Nat) (ht : look E t = some (.bool b)) (hy : b = true → Seq C Cl all p tail K ((t, .bool true) :: E) h) (hn : b = false → Seq C Cl all p tail K ((t, .bool false) :: E) h) : Seq C Cl all p tail K E h := by
  cases b with
  | true => exact (hy rfl).weaken (sub_cons_same ht)
  | false => exact (hn rfl).weaken (sub_cons_same ht)
/-- A test whose value is known otherwise. -/
theorem x_ifp {φ : Prop} {c : Operand} {x y : Code} {b : Bool} {k : List Item} {Q : Post} (hc : ev E c = some (.bool b)) (hb : b = true ↔ φ) (ht : φ → X C .normal (.code x :: k) Q E h) (hf : ¬ φ → X C .normal (.code y :: k) Q E h) :
    X C .normal (.code (.cond c x y) :: k) Q E h :=
  x_if hc (fun e => ht (hb.1 e)) (fun e => hf fun hp => by rw [hb.2 hp] at e; cases e)
end

theorem Sl.op {h : Hp} {v : Value} {xs : List Value} (s : Sl h v xs) : ∃ a cap, v = .slice a xs.length cap ∧ xs.length ≤ cap ∧ ∀ i (hi : i < xs.length), ∃ p, a = some p ∧ hcell h (p.add i) = some xs[i] := by
  obtain ⟨a, cap, hv, hc, hx⟩ := s
  exact ⟨a, cap, hv, hc, fun i hi => hx i xs[i] (by simp [hi])⟩
theorem Strs.op {h : Hp} {v : Value} {l : List Bs} (s : Strs h v l) : ∃ a cap, v = .slice a l.length cap ∧ l.length ≤ cap ∧ ∀ i (hi : i < l.length), ∃ p, a = some p ∧ hcell h (p.add i) = some (S l[i]) := by
  obtain ⟨a, cap, hv, hc, hx⟩ := s.open
  exact ⟨a, cap, hv, hc, fun i hi => hx i l[i] (by simp [hi])⟩
theorem Ints.op {h : Hp} {v : Value} {l : List Int} (s : Ints h v l) : ∃ a cap, v = .slice a l.length cap ∧ l.length ≤ cap ∧ ∀ i (hi : i < l.length), ∃ p, a = some p ∧ hcell h (p.add i) = some (I l[i]) := by
  obtain ⟨a, cap, hv, hc, hx⟩ := s.open
  exact ⟨a, cap, hv, hc, fun i hi => hx i l[i] (by simp [hi])⟩
/-- A store at an address that is known otherwise. -/
theorem ops_storeA {C : Cx} {T : List (Nat × TI)} {all rest : List Oper} {K : Env → Hp → Prop} {E : Env} {h : Hp} {ty : TypeId} {pos : String} {af : Array Edge} {t : TypeId} {ti : TI} {x y : Operand} {a : Addr} {b o : Nat} {v : Value} {vs cs cs' : List Value} {e : TypeId}
    (hT : TabOk C.P T) (ht : lookT T t = some ti) (hx : ev E x = some (.pointer (some a))) (ha : a = ⟨b, o, none⟩) (hy : ev E y = some v)
    (hv : v.cells = ⟨vs⟩) (hs : ti.size = vs.length) (h1 : vs.all (·.oneCell') = true) (hb : h[b]? = some (.cells ⟨cs⟩ e (0, 0))) (hle : o + vs.length ≤ cs.length) (hcs : patch cs o vs = cs')
    (hk : ∀ h', Put h h' b (.cells ⟨cs'⟩ e (0, 0)) → Ops C all rest K E h') : Ops C all (⟨none, .store t x y, ty, pos, af, none⟩ :: rest) K E h := by
  subst ha
  exact ops_store hT ht hx hy hv hs h1 hb hle hcs hk

/-- A result that lives in a cell of its own. -/
theorem at_ret_cell {C : Cx} {T : List (Nat × TI)} {fn : Func} {R : Value → Hp → Prop} {E : Env} {h : Hp} {t : Tmp} {ty : TypeId} {ti : TI} {a : Addr} {vs : List Value} (hT : TabOk C.P T) (hD : C.D = [])
    (hr : fn.results = #[.cell t ty]) (ht : lookT T ty = some ti) (hs : scalK ti.kind = false) (hn : ti.size = vs.length) (hl : look E t = some (.pointer (some a))) (hc : Cells h a vs) (hR : R (.agg ⟨vs⟩) h) {e : Exit} (he : e = .ret ∨ e = .normal) :
    At C (bodyQ C.P fn C.w0 R) e E h := fun a' w hA hw => by
  refine ⟨he, ?_⟩
  rw [hA.defers, hD]
  refine ⟨.agg ⟨vs⟩, ?_, _, rfl, by rw [hw.heap]; exact hw, by rw [hw.heap]; exact hR⟩
  obtain ⟨i, h1, h2, _, _⟩ := (tab_look hT ht).info
  have := run_loadCellsFrom (P := C.P) hw.heap a vs 0 #[] (fun j v hj => by simpa using hc j v hj)
  have hv : a'.tmps[t]?.getD undef = .pointer (some a) := by simpa using hA.slots t _ hl
  simp [results, hr, asAddr, hv, loadVar, agg_agg (tab_look hT ht).1 hs, sizeOf, run_typeInfo' h1, h2, hn, loadCells, this]

theorem Own.one {B : Nat} {h : Hp} {e : TypeId} {sz : Nat} {v : Value} {n : Nat} {xs : List Value} (o : Own B h e sz v n xs) : v.cells = ⟨[v]⟩ ∧ v.oneCell' = true := by
  rcases o.2 with ⟨rfl, _⟩ | ⟨g, cap, cur, rfl, _⟩ <;> exact ⟨rfl, rfl⟩

/-- A new row is the maker's own. -/
theorem Own.of_new {B : Nat} {h h' : Hp} {e : TypeId} {sz cap n : Nat} {cs : List Value} (hn : New h h' (.cells ⟨cs⟩ e (0, 0))) (hB : B ≤ h.size) (hc : cs.length = cap * sz) (hnc : n ≤ cap) (hm : cap ≤ 9223372036854775807) :
    Own B h' e sz (.slice (some ⟨h.size, 0, none⟩) n cap) n (cs.take (n * sz)) := by
  have hle : n * sz ≤ cap * sz := Nat.mul_le_mul_right _ hnc
  exact ⟨by rw [List.length_take, hc]; omega, .inr ⟨h.size, cap, ⟨cs⟩, rfl, hB, hn.get, hnc, by simpa [maxLen] using hm, by simpa using hc, rfl⟩⟩
theorem Sl.app {h : Hp} {v : Value} {xs : List Value} (s : Sl h v xs) : ∃ ad c, v = .slice ad xs.length c ∧ xs.length = xs.length * 1 ∧ ∀ j u, xs[j]? = some u → ∃ p, ad = some p ∧ hcell h (p.add j) = some u := by
  obtain ⟨a, cap, rfl, _, hx⟩ := s
  exact ⟨a, cap, rfl, by omega, hx⟩
theorem Sl.none_nil {h : Hp} {n c : Nat} {xs : List Value} (s : Sl h (.slice none n c) xs) : xs = [] := by
  obtain ⟨a, cap, hv, _, hx⟩ := s
  cases hv
  cases xs with
  | nil => rfl
  | cons x xs => obtain ⟨_, hq, _⟩ := hx 0 x rfl; cases hq
/-- A new row of so many cells, as a slice. -/
theorem Sl.of_new {h h' : Hp} {e : TypeId} {fz : Nat × Nat} {cs : List Value} (hn : New h h' (.cells ⟨cs⟩ e fz)) {n c : Nat} (hnl : n = cs.length) (hc : n ≤ c) : Sl h' (.slice (some ⟨h.size, 0, none⟩) n c) cs := by
  subst hnl
  refine ⟨_, c, rfl, hc, fun i x hi => ⟨_, rfl, ?_⟩⟩
  rw [add_head, hcell_block hn.get]
  simpa using hi
theorem Put.sl {h h' : Hp} {b : Nat} {o : Obj} (p : Put h h' b o) {v : Value} {xs : List Value} (s : Sl h v xs) (hb : v.ownBlock ≠ some b) : Sl h' v xs := p.gr.sl s (.inr hb)
theorem all_one_S (l : List Bs) : (l.map S).all (·.oneCell') = true := by simp [List.all_eq_true, Value.oneCell']
theorem all_one_I (l : List Int) : (l.map I).all (·.oneCell') = true := by simp [List.all_eq_true, Value.oneCell']
theorem Own.strs {B : Nat} {h : Hp} {e : TypeId} {v : Value} {n : Nat} {l : List Bs} (o : Own B h e 1 v n (l.map S)) : Strs h v l := o.sl
end Go.Gw
