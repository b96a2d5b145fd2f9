/-
  A part of the proofs of the laws of the index: what the functions of this program compute. Conditions: none beyond those that its theorems name.
-/
import Derived.Test.YtmfgiabmmdbmoaaGreatDoorGw3
/-
  THE GROUND OF THE WALKS (4): a region whose order Go leaves open. Operations that leave the heap alone (reads, reckoning) may be carried out first, in whatever order stands in the plan; what acts comes in the plan's order, where no other can come up. 'In': what holds of the heap as long as some reading operation may still be to come.
-/
namespace Go.Gw

theorem getD_replicate_false' (m j : Nat) : (Array.replicate m false).getD j false = false := by
  rcases Nat.lt_or_ge j m with h | h
  · simp [h]
  · simp [h]

section any
variable {P : Program} {ρ : Option Nat} {ops : Array Oper} {In : World → Prop} {late : List Nat} {Q0 : Act → World → Prop}

abbrev fin (Q0 : Act → World → Prop) : Post := fun e a w => e = .normal ∧ Q0 a w

/-- Whatever order is picked from here on. -/
def AnyC (P : Program) (ρ : Option Nat) (ops : Array Oper) (In : World → Prop) (late : List Nat) (Q0 : Act → World → Prop) : Nat → Array Bool → Act → World → Prop
  | 0, listed, a, w => Region.ready .any ops listed = [] ∧ Q0 a w
  | f + 1, listed, a, w => (Region.ready .any ops listed = [] → Q0 a w) ∧
      ∀ i ∈ Region.ready .any ops listed, wpOpIn (Fr ρ) 0 P ops (fin Q0) i (fun a' w' => (i ∉ late → In w') ∧ AnyC P ρ ops In late Q0 f (listed.setIfInBounds i true) a' w') a w

theorem AnyC.any : ∀ (f : Nat) (listed : Array Bool) (a : Act) (w : World), AnyC P ρ ops In late Q0 f listed a w → wpAnyIn (Fr ρ) 0 P .any ops (fin Q0) f listed a w
  | 0, _, _, _, h => ⟨h.1, rfl, h.2⟩
  | f + 1, _, _, _, h => ⟨fun h0 => ⟨rfl, h.1 h0⟩, fun i hi => wpOpIn_mono (fun a w hh => AnyC.any f _ a w hh.2) (h.2 i hi)⟩

def noDS : Op → Bool
  | .defer _ | .select .. => false
  | _ => true
theorem noDS_defer {o : Op} (h : noDS o = true) : ∀ c, o ≠ .defer c := fun c e => by subst e; cases h
theorem noDS_select {o : Op} (h : noDS o = true) : ∀ c b, o ≠ .select c b := fun c b e => by subst e; cases h

/-- In every world of the class this operation leaves v, and the world as it is. -/
def Yc (P : Program) (ops : Array Oper) (In : World → Prop) (o : Oper) (v : Value) (a : Act) : Prop :=
  (Region.wanted o (yielded ops a.tmps) = true ∧ ∀ w, In w → (execOp a.eval o).run P w = .ok (.value v) w) ∨
  (Region.wanted o (yielded ops a.tmps) = false ∧ v = undef)

theorem Yc.step {o : Oper} {v : Value} {a : Act} {w : World} {i : Nat} {K : Act → World → Prop} (hi : ops[i]? = some o) (hn : noDS o.op = true) (hy : Yc P ops In o v a) (hw : In w) (hk : K (a.put o.dst v) w) :
    wpOpIn (Fr ρ) 0 P ops (fin Q0) i K a w := by
  unfold wpOpIn
  simp only [hi]
  rcases hy with ⟨h1, h2⟩ | ⟨h1, rfl⟩
  · simp only [h1, if_true]
    refine ⟨fun _ _ => trivial, ?_⟩
    rw [Oper.semAt_eq _ _ _ (noDS_defer hn), h2 w hw]
    exact hk
  · simp only [h1]
    exact ⟨fun _ _ => trivial, hk⟩

theorem Yc.put {oi oj : Oper} {v u : Value} {a : Act} (hn : noDS oi.op = true) (h3 : ∀ d, oj.dst = some d → d ∉ oi.looksAt ops) (hy : Yc P ops In oi v a) : Yc P ops In oi v (a.put oj.dst u) := by
  unfold Yc at *
  rw [wanted_put oi a oj.dst u h3, execOp_put oi (noDS_select hn) a oj.dst u h3]
  exact hy

/-- One operation apart from another: the one's value being there makes no difference. -/
theorem step_put {j : Nat} {oi oj : Oper} {v : Value} (hj : ops[j]? = some oj) (hap : oi.apart ops oj = true) (hni : noDS oi.op = true) (hnj : noDS oj.op = true) {K : Act → World → Prop} {a : Act} {w : World}
    (hy : Yc P ops In oi v a) (h : wpOpIn (Fr ρ) 0 P ops (fin Q0) j K (a.put oi.dst v) w) :
    wpOpIn (Fr ρ) 0 P ops (fin Q0) j (fun a' w' => Yc P ops In oi v a' ∧ K (a'.put oi.dst v) w') a w := by
  obtain ⟨h1, h2, h3⟩ := Oper.apart_spec hap
  unfold wpOpIn at *
  simp only [hj] at *
  rw [wanted_put oj a oi.dst v h1] at h
  split
  · rename_i hw
    simp only [hw, if_true] at h
    refine ⟨fun _ _ => trivial, ?_⟩
    have h := h.2
    rw [Oper.semAt_eq _ _ _ (noDS_defer hnj), execOp_put oj (noDS_select hnj) a oi.dst v h1] at h
    rw [Oper.semAt_eq _ _ _ (noDS_defer hnj)]
    generalize (execOp a.eval oj).run P w = r at *
    cases r with
    | ok x w' =>
      cases x <;> simp only [Oper.uponIn] at h ⊢
      case value u => exact ⟨hy.put hni h3, by rw [← Act.put_comm a v u h2]; exact h⟩
      case skip => exact ⟨hy.put hni h3, by rw [← Act.put_comm a v undef h2]; exact h⟩
      case defer d =>
        refine ⟨Yc.put (a := { a with defers := d :: a.defers }) hni h3 hy, ?_⟩
        rw [← Act.put_comm _ v undef h2, ← Act.put_defers]
        exact h
      case enter f args =>
        refine ⟨h.1, h.2.mono fun e w'' he => ?_⟩
        cases e with
        | returned u => exact ⟨hy.put hni h3, by rw [← Act.put_comm a v u h2]; exact he⟩
        | panicked c => exact absurd he.1 (by simp)
        | outgrown => obtain ⟨_, _, he⟩ := he; exact absurd he.1 (by simp)
      case row row args => exact ⟨h.1, h.2.mono fun u w'' he => ⟨hy.put hni h3, by rw [← Act.put_comm a v u h2]; exact he⟩⟩
      case round l f tmps assign body =>
        refine ⟨h.1, h.2.mono fun e w'' he => ?_⟩
        cases e with
        | returned u => exact ⟨hy.put hni h3, by rw [← Act.put_comm a v u h2]; exact he⟩
        | panicked c => exact absurd he.1 (by simp)
        | outgrown => obtain ⟨_, _, he⟩ := he; exact absurd he.1 (by simp)
    | halt x w' =>
      cases x <;> simp only [Oper.uponIn] at h ⊢
      case panic u => exact absurd h.1 (by simp)
  · rename_i hw
    simp only [hw] at h
    exact ⟨fun _ _ => trivial, hy.put hni h3, by rw [← Act.put_comm a v undef h2]; exact h.2⟩

/-- What has been carried out bears all that it waited for. -/
def Closed (ops : Array Oper) (listed : Array Bool) : Prop :=
  listed.size = ops.size ∧ ∀ j oj, ops[j]? = some oj → listed.getD j false = true → ∀ e ∈ oj.after, Region.binds .any e = true → listed.getD e.on false = true

theorem Closed.set {listed : Array Bool} {i : Nat} (hc : Closed ops listed) (hi : i ∈ Region.ready .any ops listed) : Closed ops (listed.setIfInBounds i true) := by
  obtain ⟨_, oi, hoi, hall⟩ := mem_ready.1 hi
  refine ⟨by simp [hc.1], fun j oj hj hl e he hb => ?_⟩
  by_cases hij : i = j
  · subst hij
    have : oj = oi := Option.some.inj (hj.symm.trans hoi)
    subst this
    exact getD_set_true (hall e he hb)
  · rw [getD_set_ne false hij] at hl
    exact getD_set_true (hc.2 j oj hj hl e he hb)

/-- Does j wait for i, if over others? -/
def needs (ops : Array Oper) : Nat → Nat → Nat → Bool
  | 0, _, _ => false
  | f + 1, j, i => match ops[j]? with
    | some oj => oj.after.toList.any fun e => Region.binds .any e && (e.on == i || needs ops f e.on i)
    | none => false

theorem needs_listed {listed : Array Bool} (hc : Closed ops listed) {i : Nat} : ∀ (f j : Nat), listed.getD j false = true → needs ops f j i = true → listed.getD i false = true
  | 0, _, _, h => by simp [needs] at h
  | f + 1, j, hj, h => by
    simp only [needs] at h
    split at h
    · rename_i oj hoj
      obtain ⟨e, he, hb⟩ := List.any_eq_true.1 h
      simp only [Bool.and_eq_true, Bool.or_eq_true, beq_iff_eq] at hb
      have hl := hc.2 j oj hoj hj e (by simpa using he) hb.1
      rcases hb.2 with h1 | h1
      · rw [← h1]; exact hl
      · exact needs_listed hc f e.on hl h1
    · cases h

theorem needs_ready {listed : Array Bool} (hc : Closed ops listed) {i j f : Nat} (hj : j ∈ Region.ready .any ops listed) (h : needs ops f j i = true) : listed.getD i false = true := by
  obtain ⟨_, oj, hoj, hall⟩ := mem_ready.1 hj
  cases f with
  | zero => simp [needs] at h
  | succ f =>
    simp only [needs, hoj] at h
    obtain ⟨e, he, hb⟩ := List.any_eq_true.1 h
    simp only [Bool.and_eq_true, Bool.or_eq_true, beq_iff_eq] at hb
    have hl := hall e (by simpa using he) hb.1
    rcases hb.2 with h1 | h1
    · rw [← h1]; exact hl
    · exact needs_listed hc f e.on hl h1

/-- An operation that leaves the world alone may come first. -/
theorem AnyC.first {i : Nat} {oi : Oper} {v : Value} (hi : ops[i]? = some oi) (hns : ∀ (j : Nat) (o : Oper), ops[j]? = some o → noDS o.op = true) (hlate : ∀ j ∈ late, needs ops ops.size j i = true) :
    ∀ (f : Nat) (listed : Array Bool) (a : Act) (w : World), Closed ops listed →
      (∀ j oj, ops[j]? = some oj → j ≠ i → listed.getD j true = false → (∀ e ∈ oj.after, Region.binds .any e = true → e.on ≠ i) → oi.apart ops oj = true) →
      i ∈ Region.ready .any ops listed → Yc P ops In oi v a → In w →
      AnyC P ρ ops In late Q0 f (listed.setIfInBounds i true) (a.put oi.dst v) w → AnyC P ρ ops In late Q0 (f + 1) listed a w := by
  intro f
  induction f with
  | zero =>
    intro listed a w hc _ hr hy hw H
    refine ⟨fun h => (by rw [h] at hr; cases hr), fun j hj => ?_⟩
    by_cases hji : j = i
    · subst hji; exact hy.step hi (hns j oi hi) hw ⟨fun _ => hw, H⟩
    · have := ready_mono hj hji
      rw [H.1] at this
      cases this
  | succ f ih =>
    intro listed a w hc hfree hr hy hw H
    refine ⟨fun h => (by rw [h] at hr; cases hr), fun j hj => ?_⟩
    by_cases hji : j = i
    · subst hji; exact hy.step hi (hns j oi hi) hw ⟨fun _ => hw, H⟩
    · have h1 := H.2 j (ready_mono hj hji)
      obtain ⟨hjun, oj, hoj, hall⟩ := mem_ready.1 hj
      have hiun := (mem_ready.1 hr).1
      have hisz : i < listed.size := by rw [hc.1]; exact (Array.getElem?_eq_some_iff.1 hi).1
      have hiun' : listed.getD i false = false := by simpa [hisz] using hiun
      have hnot : ∀ e ∈ oj.after, Region.binds .any e = true → e.on ≠ i := fun e he hb heq => by
        have h2 := hall e he hb
        rw [heq, hiun'] at h2
        cases h2
      have hnl : j ∉ late := fun hl => by
        have := needs_ready hc hj (hlate j hl)
        rw [hiun'] at this
        cases this
      have h2 := step_put hoj (hfree j oj hoj hji hjun hnot) (hns i oi hi) (hns j oj hoj) hy h1
      refine wpOpIn_mono ?_ h2
      rintro a' w' ⟨hy', hin, H'⟩
      refine ⟨fun _ => hin hnl, ih (listed.setIfInBounds j true) a' w' (hc.set hj) ?_ (ready_mono hr (Ne.symm hji)) hy' (hin hnl) ?_⟩
      · intro k ok hk hki hun hno
        refine hfree k ok hk hki ?_ hno
        by_cases hjk : j = k
        · subst hjk; exact hjun
        · rw [getD_set_ne true hjk] at hun; exact hun
      · rw [Array.setIfInBounds_comm _ _ hji]
        exact H'

/-! ### The plan -/

def apartAll (ops : Array Oper) (listed : Array Bool) (i : Nat) : Bool :=
  match ops[i]? with
  | none => false
  | some oi => (List.range ops.size).all fun j => match ops[j]? with
    | none => true
    | some oj => j == i || listed.getD j true || oj.after.toList.any (fun e => Region.binds .any e && e.on == i) || oi.apart ops oj

/-- The operations of the plan: 'true': leaves the world alone. Behind them the tail, of which each comes alone. -/
def planOk (ops : Array Oper) (tail : List Nat) : List (Nat × Bool) → Array Bool → Bool
  | [], listed => tailOk ops tail listed
  | (i, true) :: p, listed => (Region.ready .any ops listed).contains i && apartAll ops listed i && tail.all (fun j => needs ops ops.size j i) && planOk ops tail p (listed.setIfInBounds i true)
  | (i, false) :: p, listed => Region.ready .any ops listed == [i] && !tail.contains i && planOk ops tail p (listed.setIfInBounds i true)
where tailOk (ops : Array Oper) : List Nat → Array Bool → Bool
  | [], listed => Region.ready .any ops listed == []
  | i :: t, listed => Region.ready .any ops listed == [i] && tailOk ops t (listed.setIfInBounds i true)

def picks (l : List Oper) : List Nat → Option (List Oper)
  | [] => some []
  | i :: t => match l[i]?, picks l t with
    | some o, some t' => some (o :: t')
    | _, _ => none
def pick (l : List Oper) : List (Nat × Bool) → Option (List (Oper × Bool))
  | [] => some []
  | (i, b) :: t => match l[i]?, pick l t with
    | some o, some t' => some ((o, b) :: t')
    | _, _ => none

/-- The walk of the plan. -/
def SeqW (P : Program) (ρ : Option Nat) (ops : Array Oper) (In : World → Prop) (tail : List Oper) (Q0 : Act → World → Prop) : List (Oper × Bool) → Act → World → Prop
  | [], a, w => wpListIn (Fr ρ) 0 P ops (fin Q0) tail a w
  | (o, true) :: p, a, w => ∃ v, Yc P ops In o v a ∧ SeqW P ρ ops In tail Q0 p (a.put o.dst v) w
  | (o, false) :: p, a, w => wpListIn (Fr ρ) 0 P ops (fin fun a' w' => In w' ∧ SeqW P ρ ops In tail Q0 p a' w') [o] a w

theorem wpIn_fin {o : Oper} {a : Act} {w : World} {K K' : Act → World → Prop} {Q1 Q2 : Act → World → Prop} (hk : ∀ a w, K a w → K' a w) (h : o.wpIn (Fr ρ) 0 P a w K (fin Q1)) : o.wpIn (Fr ρ) 0 P a w K' (fin Q2) := by
  unfold Oper.wpIn at *
  refine ⟨h.1, ?_⟩
  have h := h.2
  generalize (o.semAt (Fr ρ).round a.eval).run P w = r at *
  cases r with
  | ok x w' =>
    cases x <;> simp only [Oper.uponIn] at h ⊢ <;>
      first
        | exact hk _ _ h
        | exact ⟨h.1, CallsIn.mono h.2 (fun e w'' he => by cases e <;> first | exact hk _ _ he | exact absurd he.1 (by simp) | (obtain ⟨_, _, he⟩ := he; exact absurd he.1 (by simp)))⟩
        | exact ⟨h.1, RowsIn.mono h.2 (fun _ _ he => hk _ _ he)⟩
        | exact ⟨h.1, RoundIn.mono h.2 (fun e w'' he => by cases e <;> first | exact hk _ _ he | exact absurd he.1 (by simp) | (obtain ⟨_, _, he⟩ := he; exact absurd he.1 (by simp)))⟩
  | halt x w' => cases x <;> simp only [Oper.uponIn] at h ⊢ <;> first | exact h | exact absurd h.1 (by simp)

theorem op_of_list {o : Oper} {i : Nat} {rest : List Oper} {a : Act} {w : World} {K K' : Act → World → Prop} (hi : ops[i]? = some o) (hK : ∀ a w, wpListIn (Fr ρ) 0 P ops (fin K) rest a w → K' a w) (h : wpListIn (Fr ρ) 0 P ops (fin K) (o :: rest) a w) :
    wpOpIn (Fr ρ) 0 P ops (fin Q0) i K' a w := by
  unfold wpOpIn
  simp only [hi, wpListIn] at h ⊢
  split
  · rename_i hw
    simp only [hw, if_true] at h
    exact wpIn_fin hK h
  · rename_i hw
    simp only [hw] at h
    exact ⟨fun _ _ => trivial, hK _ _ h.2⟩

theorem tail_sound (hns : ∀ (j : Nat) (o : Oper), ops[j]? = some o → noDS o.op = true) (hl : ∀ i ∈ late, True) : ∀ (t : List Nat) (to : List Oper) (listed : Array Bool) (a : Act) (w : World), picks ops.toList t = some to → planOk.tailOk ops t listed = true → (∀ i ∈ t, i ∈ late) →
    wpListIn (Fr ρ) 0 P ops (fin Q0) to a w → AnyC P ρ ops In late Q0 t.length listed a w
  | [], to, listed, a, w, hp, hok, _, h => by
    simp only [picks, Option.some.injEq] at hp
    subst hp
    simp only [planOk.tailOk, beq_iff_eq] at hok
    exact ⟨hok, h.2⟩
  | i :: t, to, listed, a, w, hp, hok, hm, h => by
    simp only [picks] at hp
    split at hp <;> simp only [Option.some.injEq, reduceCtorEq] at hp
    rename_i o to' ho hp'
    subst hp
    simp only [planOk.tailOk, Bool.and_eq_true, beq_iff_eq] at hok
    refine ⟨fun h0 => (by rw [hok.1] at h0; cases h0), fun j hj => ?_⟩
    rw [hok.1, List.mem_singleton] at hj
    subst hj
    have ho' : ops[j]? = some o := by simpa using ho
    exact op_of_list ho' (fun a' w' h' => ⟨fun hn => absurd (hm j (by simp)) hn, tail_sound hns hl t to' _ a' w' hp' hok.2 (fun i hi => hm i (by simp [hi])) h'⟩) h

theorem plan_sound (hns : ∀ (j : Nat) (o : Oper), ops[j]? = some o → noDS o.op = true) {tail : List Nat} {to : List Oper} (ht : picks ops.toList tail = some to) : ∀ (p : List (Nat × Bool)) (po : List (Oper × Bool)) (listed : Array Bool) (a : Act) (w : World),
    pick ops.toList p = some po → Closed ops listed → planOk ops tail p listed = true → In w → SeqW P ρ ops In to Q0 po a w → AnyC P ρ ops In tail Q0 (p.length + tail.length) listed a w
  | [], po, listed, a, w, hp, _, hok, _, h => by
    simp only [pick, Option.some.injEq] at hp
    subst hp
    simp only [planOk] at hok
    rw [List.length_nil, Nat.zero_add]
    exact tail_sound hns (fun _ _ => trivial) tail to listed a w ht hok (fun _ h => h) h
  | (i, true) :: p, po, listed, a, w, hp, hc, hok, hw, h => by
    simp only [pick] at hp
    split at hp <;> simp only [Option.some.injEq, reduceCtorEq] at hp
    rename_i o po' ho hp'
    subst hp
    have ho' : ops[i]? = some o := by simpa using ho
    simp only [planOk, Bool.and_eq_true, List.contains_iff_mem] at hok
    obtain ⟨⟨⟨h1, h2⟩, h3⟩, h4⟩ := hok
    obtain ⟨v, hy, hs⟩ := h
    rw [List.length_cons, show p.length + 1 + tail.length = p.length + tail.length + 1 by omega]
    refine AnyC.first ho' hns (fun j hj => List.all_eq_true.1 h3 j hj) _ listed a w hc ?_ h1 hy hw (plan_sound hns ht p po' _ _ w hp' (hc.set h1) h4 hw hs)
    intro j oj hoj hne hun hno
    unfold apartAll at h2
    simp only [ho'] at h2
    have h5 := List.all_eq_true.1 h2 j (List.mem_range.2 (Array.getElem?_eq_some_iff.1 hoj).1)
    simp only [hoj, Bool.or_eq_true, beq_iff_eq] at h5
    rcases h5 with ((h5 | h5) | h5) | h5
    · exact absurd h5 hne
    · rw [hun] at h5; cases h5
    · obtain ⟨e, he, hb⟩ := List.any_eq_true.1 h5
      simp only [Bool.and_eq_true, beq_iff_eq] at hb
      exact absurd hb.2 (hno e (by simpa using he) hb.1)
    · exact h5
  | (i, false) :: p, po, listed, a, w, hp, hc, hok, hw, h => by
    simp only [pick] at hp
    split at hp <;> simp only [Option.some.injEq, reduceCtorEq] at hp
    rename_i o po' ho hp'
    subst hp
    have ho' : ops[i]? = some o := by simpa using ho
    simp only [planOk, Bool.and_eq_true, beq_iff_eq] at hok
    obtain ⟨⟨h1, h2⟩, h4⟩ := hok
    rw [List.length_cons, show p.length + 1 + tail.length = p.length + tail.length + 1 by omega]
    refine ⟨fun h0 => (by rw [h1] at h0; cases h0), fun j hj => ?_⟩
    have hji : j = i := by rw [h1, List.mem_singleton] at hj; exact hj
    subst hji
    refine op_of_list ho' (fun a' w' h' => ?_) h
    obtain ⟨_, hin, hs⟩ := h'
    exact ⟨fun _ => hin, plan_sound hns ht p po' _ a' w' hp' (hc.set hj) h4 hin hs⟩

end any

/-! ### The same, of slots and heaps -/
section seq
variable {C : Cx} {Cl : Hp → Prop} {all tail : List Oper} {p : List (Oper × Bool)} {K : Env → Hp → Prop} {E : Env} {h : Hp}

def InOf (C : Cx) (Cl : Hp → Prop) (w : World) : Prop := ∃ h, Is C.w0 h w ∧ Cl h
def EndOf (C : Cx) (K : Env → Hp → Prop) (a : Act) (w : World) : Prop := ∃ E h, Agree C.n C.D E a ∧ Is C.w0 h w ∧ K E h

def Seq (C : Cx) (Cl : Hp → Prop) (all : List Oper) (p : List (Oper × Bool)) (tail : List Oper) (K : Env → Hp → Prop) (E : Env) (h : Hp) : Prop :=
  ∀ a w, Agree C.n C.D E a → Is C.w0 h w → SeqW C.P C.ρ all.toArray (InOf C Cl) tail (EndOf C K) p a w

theorem seq_tail (hx : Ops C all tail K E h) : Seq C Cl all [] tail K E h := fun a w hA hw => hx a w hA hw

theorem Seq.weaken {E' : Env} (hs : Sub E' E) (hx : Seq C Cl all p tail K E' h) : Seq C Cl all p tail K E h := fun a w hA hw => hx a w (hA.sub hs) hw

theorem seq_act {o : Oper} (hx : Ops C all [o] (fun E' h' => Cl h' ∧ Seq C Cl all p tail K E' h') E h) : Seq C Cl all ((o, false) :: p) tail K E h := fun a w hA hw => by
  refine wpListIn_mono' ?_ (hx a w hA hw)
  rintro e a' w' ⟨rfl, E', h', hA', hw', hcl, hs⟩
  exact ⟨rfl, ⟨h', hw', hcl⟩, hs a' w' hA' hw'⟩

theorem seq_value {o : Oper} {v : Value} (hg : o.guard = none) (hd : dstOk C.n o.dst = true) (hr : ∀ a w h', Agree C.n C.D E a → Is C.w0 h' w → Cl h' → (execOp a.eval o).run C.P w = .ok (.value v) w)
    (hx : Seq C Cl all p tail K (bind o.dst v E) h) : Seq C Cl all ((o, true) :: p) tail K E h := fun a w hA hw =>
  ⟨v, .inl ⟨by simp [Region.wanted, hg], fun w' ⟨h', hw', hcl⟩ => hr a w' h' hA hw' hcl⟩, hx _ _ (hA.bind hd v) hw⟩

theorem seq_load {T : List (Nat × TI)} {d : Tmp} {t : TypeId} {x : Operand} {a : Addr} {v : Value} {ti : TI} {ty : TypeId} {pos : String} {af : Array Edge} (hT : TabOk C.P T) (ht : lookT T t = some ti) (hs : scalK ti.kind = true) (hd : Nat.blt d C.n = true)
    (hx : ev E x = some (.pointer (some a))) (hc : ∀ h', Cl h' → hcell h' a = some v) (hk : Seq C Cl all p tail K ((d, v) :: E) h) : Seq C Cl all ((⟨some d, .load t x, ty, pos, af, none⟩, true) :: p) tail K E h := by
  refine seq_value (v := v) rfl hd (fun a' w h' hA hw hcl => ?_) hk
  have hcw : w.cell? a = some v := (cell_of hw.heap a).trans (hc h' hcl)
  simp [execOp, Instr.loadAt, ev_eval hA hx, Instr.sureAddr, loadVar, scal_agg (tab_look hT ht).1 hs, hcw]

theorem seq_loads {T : List (Nat × TI)} {d : Tmp} {t : TypeId} {x : Operand} {a : Addr} {vs : List Value} {ti : TI} {ty : TypeId} {pos : String} {af : Array Edge} (hT : TabOk C.P T) (ht : lookT T t = some ti) (hs : scalK ti.kind = false) (hn : ti.size = vs.length) (hd : Nat.blt d C.n = true)
    (hx : ev E x = some (.pointer (some a))) (hc : ∀ h', Cl h' → Cells h' a vs) (hk : Seq C Cl all p tail K ((d, .agg ⟨vs⟩) :: E) h) : Seq C Cl all ((⟨some d, .load t x, ty, pos, af, none⟩, true) :: p) tail K E h := by
  refine seq_value (v := .agg ⟨vs⟩) rfl hd (fun a' w h' hA hw hcl => ?_) hk
  obtain ⟨i, h1, h2, _, _⟩ := (tab_look hT ht).info
  have := run_loadCellsFrom (P := C.P) hw.heap a vs 0 #[] (fun j v hj => by simpa using hc h' hcl j v hj)
  simp [execOp, Instr.loadAt, ev_eval hA hx, Instr.sureAddr, loadVar, agg_agg (tab_look hT ht).1 hs, sizeOf, run_typeInfo' h1, h2, hn, loadCells, this]

/-- A run of operations that only compute. -/
def runQ (T : List (Nat × TI)) (n : Nat) (all : List Oper) : Nat → List (Oper × Bool) → Env → Prop → Env × Prop × List (Oper × Bool)
  | 0, l, E, φ => (E, φ, l)
  | _ + 1, [], E, φ => (E, φ, [])
  | m + 1, (⟨dst, op, ty, pos, af, none⟩, true) :: rest, E, φ =>
    (match dst with
    | none => (E, φ, (⟨dst, op, ty, pos, af, none⟩, true) :: rest)
    | some d => bif Nat.blt d n then (match pv T E op with
      | some (v, none) => runQ T n all m rest ((d, v) :: E) φ
      | some (v, some ψ) => runQ T n all m rest ((d, v) :: E) (ψ ∧ φ)
      | none => (E, φ, (⟨dst, op, ty, pos, af, none⟩, true) :: rest)) else (E, φ, (⟨dst, op, ty, pos, af, none⟩, true) :: rest))
  | m + 1, (⟨dst, op, ty, pos, af, some (j, want)⟩, true) :: rest, E, φ =>
    (match dst with
    | none => (E, φ, (⟨dst, op, ty, pos, af, some (j, want)⟩, true) :: rest)
    | some d => bif Nat.blt d n then (match guardOf all E j want with
      | some false => runQ T n all m rest ((d, undef) :: E) φ
      | some true => (match pv T E op with
        | some (v, none) => runQ T n all m rest ((d, v) :: E) φ
        | some (v, some ψ) => runQ T n all m rest ((d, v) :: E) (ψ ∧ φ)
        | none => (E, φ, (⟨dst, op, ty, pos, af, none⟩, true) :: rest))
      | none => (E, φ, (⟨dst, op, ty, pos, af, some (j, want)⟩, true) :: rest)) else (E, φ, (⟨dst, op, ty, pos, af, some (j, want)⟩, true) :: rest))
  | _ + 1, (o, false) :: rest, E, φ => (E, φ, (o, false) :: rest)

theorem seq_pv {T : List (Nat × TI)} (hT : TabOk C.P T) {dst : Option Tmp} {op : Op} {ty : TypeId} {pos : String} {af : Array Edge} {v : Value} {c : Option Prop}
    (hp : pv T E op = some (v, c)) (hc : ∀ φ, c = some φ → φ) (hd : dstOk C.n dst = true) (hx : Seq C Cl all p tail K (bind dst v E) h) : Seq C Cl all ((⟨dst, op, ty, pos, af, none⟩, true) :: p) tail K E h :=
  seq_value rfl hd (fun _ w _ hA _ _ => pv_sound hT hA hp hc dst ty pos af w) hx

theorem seq_guard_yes {o : Oper} {j t : Nat} {b : Bool} (hg : o.guard = some (j, b)) (hj : (all[j]?).bind (·.dst) = some t) (ht : look E t = some (.bool b))
    (hx : Seq C Cl all (({ o with guard := none }, true) :: p) tail K E h) : Seq C Cl all ((o, true) :: p) tail K E h := fun a w hA hw => by
  obtain ⟨v, hy, hs⟩ := hx a w hA hw
  have hy2 := yielded_look hA hj ht
  refine ⟨v, ?_, hs⟩
  unfold Yc at *
  rcases hy with ⟨_, h2⟩ | ⟨h1, _⟩
  · exact .inl ⟨by simp [Region.wanted, hg, hy2], h2⟩
  · simp [Region.wanted] at h1

theorem seq_guard_no {o : Oper} {j t : Nat} {b b' : Bool} (hg : o.guard = some (j, b')) (hj : (all[j]?).bind (·.dst) = some t) (ht : look E t = some (.bool b)) (hne : b ≠ b') (hd : dstOk C.n o.dst = true)
    (hx : Seq C Cl all p tail K (bind o.dst undef E) h) : Seq C Cl all ((o, true) :: p) tail K E h := fun a w hA hw => by
  have hy2 := yielded_look hA hj ht
  have hne' : (some b == some b') = false := by simpa using hne
  exact ⟨undef, .inr ⟨by simp only [Region.wanted, hg, hy2, hne'], rfl⟩, hx _ _ (hA.bind hd undef) hw⟩

theorem seq_guard_undef {o : Oper} {j t : Nat} {b' : Bool} (hg : o.guard = some (j, b')) (hj : (all[j]?).bind (·.dst) = some t) (ht : look E t = some undef) (hd : dstOk C.n o.dst = true)
    (hx : Seq C Cl all p tail K (bind o.dst undef E) h) : Seq C Cl all ((o, true) :: p) tail K E h := fun a w hA hw => by
  have hy2 := yielded_undef hA hj ht
  exact ⟨undef, .inr ⟨by simp only [Region.wanted, hg, hy2]; rfl, rfl⟩, hx _ _ (hA.bind hd undef) hw⟩

theorem runQ_sound {T : List (Nat × TI)} (hT : TabOk C.P T) : ∀ (m : Nat) (l : List (Oper × Bool)) (E : Env) (φ : Prop) (E' : Env) (φ' : Prop) (l' : List (Oper × Bool)),
    runQ T C.n all m l E φ = (E', φ', l') → (φ' → φ) ∧ (φ' → Seq C Cl all l' tail K E' h → Seq C Cl all l tail K E h) := by
  intro m
  induction m with
  | zero => intro l E φ E' φ' l' hr; simp only [runQ, Prod.mk.injEq] at hr; obtain ⟨rfl, rfl, rfl⟩ := hr; exact ⟨id, fun _ h => h⟩
  | succ m ih =>
    intro l
    cases l with
    | nil => intro E φ E' φ' l' hr; simp only [runQ, Prod.mk.injEq] at hr; obtain ⟨rfl, rfl, rfl⟩ := hr; exact ⟨id, fun _ h => h⟩
    | cons o rest =>
      obtain ⟨⟨dst, op, ty, pos, af, g⟩, q⟩ := o
      intro E φ E' φ' l' hr
      have stop : ∀ {o' : Oper × Bool}, (E, φ, o' :: rest) = (E', φ', l') → (φ' → φ) ∧ (φ' → Seq C Cl all l' tail K E' h → Seq C Cl all (o' :: rest) tail K E h) := by
        intro o' e
        simp only [Prod.mk.injEq] at e
        obtain ⟨rfl, rfl, rfl⟩ := e
        exact ⟨id, fun _ h => h⟩
      have plain : ∀ {d : Tmp} {v : Value} {c : Option Prop}, Nat.blt d C.n = true → pv T E op = some (v, c) → (match c with | none => runQ T C.n all m rest ((d, v) :: E) φ | some ψ => runQ T C.n all m rest ((d, v) :: E) (ψ ∧ φ)) = (E', φ', l') →
          (φ' → φ) ∧ (φ' → Seq C Cl all l' tail K E' h → Seq C Cl all ((⟨some d, op, ty, pos, af, none⟩, true) :: rest) tail K E h) := by
        intro d v c hd hp hr
        cases c with
        | none =>
          obtain ⟨h1, h2⟩ := ih _ _ _ _ _ _ hr
          exact ⟨h1, fun hf hx => seq_pv hT hp (by simp) hd (h2 hf hx)⟩
        | some ψ =>
          obtain ⟨h1, h2⟩ := ih _ _ _ _ _ _ hr
          exact ⟨fun hf => (h1 hf).2, fun hf hx => seq_pv hT hp (fun φ e => by cases e; exact (h1 hf).1) hd (h2 hf hx)⟩
      cases q with
      | false => cases g with
        | none => exact stop hr
        | some g => exact stop hr
      | true =>
      cases g with
      | none =>
        cases dst with
        | none => exact stop hr
        | some d =>
          simp only [runQ] at hr
          cases hd : Nat.blt d C.n with
          | false => rw [hd] at hr; exact stop hr
          | true =>
            rw [hd] at hr
            simp only [cond_true] at hr
            split at hr
            · rename_i hp; exact plain hd hp hr
            · rename_i hp; exact plain hd hp hr
            · exact stop hr
      | some g =>
        obtain ⟨j, want⟩ := g
        cases dst with
        | none => exact stop hr
        | some d =>
          simp only [runQ] at hr
          cases hd : Nat.blt d C.n with
          | false => rw [hd] at hr; exact stop hr
          | true =>
            rw [hd] at hr
            simp only [cond_true] at hr
            have hd' : dstOk C.n (some d) = true := hd
            split at hr
            · rename_i hg
              obtain ⟨t, h1, h2⟩ := guardOf_spec hg
              obtain ⟨h3, h4⟩ := ih _ _ _ _ _ _ hr
              rcases h2 with ⟨h2, _⟩ | ⟨_, h2⟩ | ⟨_, h2⟩
              · cases h2
              · exact ⟨h3, fun hf hx => seq_guard_no rfl h1 h2 (by simp) hd' (h4 hf hx)⟩
              · exact ⟨h3, fun hf hx => seq_guard_undef rfl h1 h2 hd' (h4 hf hx)⟩
            · rename_i hg
              obtain ⟨t, h1, h2⟩ := guardOf_spec hg
              have fin : (φ' → φ) ∧ (φ' → Seq C Cl all l' tail K E' h → Seq C Cl all ((⟨some d, op, ty, pos, af, none⟩, true) :: rest) tail K E h) := by
                split at hr
                · rename_i hp; exact plain hd hp hr
                · rename_i hp; exact plain hd hp hr
                · exact stop hr
              rcases h2 with ⟨_, h2⟩ | ⟨h2, _⟩ | ⟨h2, _⟩
              · exact ⟨fin.1, fun hf hx => seq_guard_yes rfl h1 h2 (fin.2 hf hx)⟩
              · cases h2
              · cases h2
            · exact stop hr

theorem seq_run {T : List (Nat × TI)} (hT : TabOk C.P T) (m : Nat) {l l' : List (Oper × Bool)} {E' : Env} {φ : Prop} (hr : runQ T C.n all m l E True = (E', φ, l')) (hφ : φ) (hx : Seq C Cl all l' tail K E' h) : Seq C Cl all l tail K E h :=
  (runQ_sound hT m l E True E' φ l' hr).2 hφ hx

/-- A region that draws its order, by a plan. -/
theorem x_draw {k : List Item} {Q : Post} {id : Nat} {l : List Oper} (plan : List (Nat × Bool)) (tl : List Nat) (Cl : Hp → Prop) (hm : C.P.follows .mixedOrders = true) {po : List (Oper × Bool)} {to : List Oper}
    (hok : (l.all (fun o => noDS o.op) && (plan.length + tl.length == l.length) && planOk l.toArray tl plan (Array.replicate l.length false)) = true) (hp : pick l plan = some po) (ht : picks l tl = some to) (hcl : Cl h)
    (hx : Seq C Cl l po to (fun E' h' => X C .normal k Q E' h') E h) : X C .normal (.code (.region id l.toArray true) :: k) Q E h := fun a w hA hw => by
  simp only [Bool.and_eq_true, beq_iff_eq] at hok
  obtain ⟨⟨hns, hlen⟩, hok⟩ := hok
  simp only [items]
  have hw' : Is C.w0 h { w with drawn := w.drawn + 1 } := ⟨hw.heap, hw.os, hw.tape, hw.output, Nat.le_succ_of_le hw.drawn⟩
  have hns' : ∀ (j : Nat) (o : Oper), l.toArray[j]? = some o → noDS o.op = true := fun j o hj => List.all_eq_true.1 hns o (List.mem_of_getElem? (by simpa using hj))
  have h1 := plan_sound (P := C.P) (ρ := C.ρ) (ops := l.toArray) (In := InOf C Cl) (Q0 := EndOf C fun E' h' => X C .normal k Q E' h') hns' (tail := tl) (to := to) ht plan po (Array.replicate l.length false) a { w with drawn := w.drawn + 1 } hp
    ⟨by simp, fun j oj _ hl => by rw [getD_replicate_false'] at hl; cases hl⟩ hok ⟨h, hw', hcl⟩ (hx a _ hA hw')
  rw [hlen] at h1
  refine wpIn_mono (wpIn_region_any hm ?_) (Q := fin (EndOf C fun E' h' => X C .normal k Q E' h')) ?_
  · have h2 := h1.any
    simpa using h2
  · rintro e a' w' ⟨rfl, E', h', hA', hw', hx'⟩
    exact hx' a' w' hA' hw'
end seq
end Go.Gw
