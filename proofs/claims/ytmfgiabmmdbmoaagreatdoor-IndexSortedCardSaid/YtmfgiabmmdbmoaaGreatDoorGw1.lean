/-
  A part of the proofs of the laws of the index: what the functions of this program compute. Conditions: none beyond those that its theorems name.
-/
import Derived.OrdersIn
import Derived.RangeFuncLeaves
import Derived.TacticsIn
import Derived.Below
/-
  THE GROUND OF THE WALKS (1): the notions. A walk speaks of the slots that are known (an association list), and of the heap alone: what the world holds besides (the tape's place, the streams) is carried along. Over the kit's 'Code.wpIn' at the wide fence, in a function's own frame or in a round's.
-/
namespace Go.Gw

abbrev Hp := Array Obj
abbrev Post := Exit → Act → World → Prop
abbrev Env := List (Nat × Value)

/-- The value of a slot, if it is known. -/
def look : Env → Nat → Option Value
  | [], _ => none
  | (k, v) :: E, t => bif Nat.beq k t then some v else look E t

def ev (E : Env) : Operand → Option Value
  | .tmp t => look E t
  | .const v => some v
  | .global g => some (.pointer (some ⟨g, 0, none⟩))
  | .func f => some (.func (.func f) #[] #[])

def evs (E : Env) : List Operand → Option (List Value)
  | [] => some []
  | x :: xs => match ev E x, evs E xs with
    | some v, some vs => some (v :: vs)
    | _, _ => none

structure Agree (n : Nat) (D : List Deferred) (E : Env) (a : Act) : Prop where
  size : a.tmps.size = n
  defers : a.defers = D
  slots : ∀ t v, look E t = some v → a.tmps.getD t undef = v

/-- The world w has the heap h; its streams and its tape are those of w0. -/
structure Is (w0 : World) (h : Hp) (w : World) : Prop where
  heap : w.heap = h
  os : w.os = w0.os
  tape : w.tape = w0.tape
  output : w.output = w0.output
  drawn : w0.drawn ≤ w.drawn

theorem Is.refl (w : World) : Is w w.heap w := ⟨rfl, rfl, rfl, rfl, Nat.le_refl _⟩
theorem Is.trans {w0 w w' : World} {h h' : Hp} (a : Is w0 h w) (b : Is w h' w') : Is w0 h' w' :=
  ⟨b.heap, b.os.trans a.os, b.tape.trans a.tape, b.output.trans a.output, Nat.le_trans a.drawn b.drawn⟩

def Fr (ρ : Option Nat) : Fence := { fn := fun _ => True, depth := none, alive := false, round := ρ }
theorem Fr_none : Fr none = Fence.wide := rfl
theorem Fr_some (l : Nat) : Fr (some l) = Fence.wide.inRound l := rfl

/-- What is still to be done in a frame. -/
def items (P : Program) (ρ : Option Nat) : List Item → Post → Post
  | [], Q => Q
  | .code c :: k, Q => fun e a w => match e with
      | .normal => c.wpIn (Fr ρ) 0 P (items P ρ k Q) a w
      | e => items P ρ k Q e a w
  | .inBlock id :: k, Q => Exit.inBlock id (items P ρ k Q)
  | .inScope _ :: k, Q => fun e a w => match e with
      | .goto _ => False
      | e => items P ρ k Q e a w
  | _ :: k, Q => items P ρ k Q

structure Cx where
  P : Program
  ρ : Option Nat
  n : Nat
  D : List Deferred
  w0 : World

/-- From the slots E and the heap h on: left by e, with the items still ahead. -/
def X (C : Cx) (e : Exit) (todo : List Item) (Q : Post) (E : Env) (h : Hp) : Prop :=
  ∀ a w, Agree C.n C.D E a → Is C.w0 h w → items C.P C.ρ todo Q e a w

/-- What a region must achieve. -/
def regPost (C : Cx) (K : Env → Hp → Prop) : Post := fun e a w => e = .normal ∧ ∃ E h, Agree C.n C.D E a ∧ Is C.w0 h w ∧ K E h

def Ops (C : Cx) (all : List Oper) (l : List Oper) (K : Env → Hp → Prop) (E : Env) (h : Hp) : Prop :=
  ∀ a w, Agree C.n C.D E a → Is C.w0 h w → wpListIn (Fr C.ρ) 0 C.P all.toArray (regPost C K) l a w

section agree
variable {n : Nat} {D : List Deferred} {E : Env} {a : Act}

theorem ev_eval (hA : Agree n D E a) {x : Operand} {v : Value} (h : ev E x = some v) : a.eval x = v := by
  cases x with
  | tmp t => exact hA.slots t v h
  | const c => simpa [ev, Act.eval] using h
  | global g => simpa [ev, Act.eval] using h
  | func f => simpa [ev, Act.eval] using h

theorem evs_eval (hA : Agree n D E a) : ∀ {xs : List Operand} {vs : List Value}, evs E xs = some vs → xs.map a.eval = vs
  | [], vs, h => by simpa [evs] using h
  | x :: xs, vs, h => by
    simp only [evs] at h
    split at h
    · rename_i v vs' h1 h2
      cases h
      simp [ev_eval hA h1, evs_eval hA h2]
    · cases h

theorem evs_array (hA : Agree n D E a) {xs : List Operand} {vs : List Value} (h : evs E xs = some vs) : xs.toArray.map a.eval = vs.toArray := by
  simp [evs_eval hA h]

theorem look_cons (k t : Nat) (v : Value) (E : Env) : look ((k, v) :: E) t = if k = t then some v else look E t := by
  simp only [look]
  by_cases h : k = t
  · subst h; simp
  · have : Nat.beq k t = false := by
      cases hb : Nat.beq k t with
      | false => rfl
      | true => exact absurd (Nat.eq_of_beq_eq_true hb) h
    simp [this, h]

theorem getD_set (ts : Array Value) (d t : Nat) (v : Value) (h : d < ts.size) : (ts.setIfInBounds d v).getD t undef = if d = t then v else ts.getD t undef := by
  by_cases e : d = t
  · subst e; simp [h]
  · simp [e]

theorem Agree.put (hA : Agree n D E a) {d : Nat} (hd : d < n) (v : Value) : Agree n D ((d, v) :: E) (a.put (some d) v) := by
  refine ⟨by simp [Act.put, hA.size], by simp [Act.put, hA.defers], fun t u h => ?_⟩
  rw [look_cons] at h
  show (a.tmps.setIfInBounds d v).getD t undef = u
  rw [getD_set _ _ _ _ (by rw [hA.size]; exact hd)]
  split at h
  · rename_i e; cases h; simp [e]
  · rename_i e; simp only [e, if_false]; exact hA.slots t u h

/-- The slots behind an operation. -/
def bind (dst : Option Tmp) (v : Value) (E : Env) : Env := match dst with | some d => (d, v) :: E | none => E
def dstOk (n : Nat) (dst : Option Tmp) : Bool := match dst with | some d => Nat.blt d n | none => true

theorem Agree.bind (hA : Agree n D E a) {dst : Option Tmp} (hd : dstOk n dst = true) (v : Value) : Agree n D (bind dst v E) (a.put dst v) := by
  cases dst with
  | none => exact ⟨hA.size, hA.defers, hA.slots⟩
  | some d => exact hA.put (by simpa [dstOk] using hd) v

/-- Fewer slots. -/
def Sub (E' E : Env) : Prop := ∀ t v, look E' t = some v → look E t = some v
def subs (E : Env) : Env → Prop
  | [] => True
  | (t, v) :: E' => look E t = some v ∧ subs E E'
theorem subs_sub {E : Env} : ∀ {E' : Env}, subs E E' → Sub E' E
  | [], _, t, v, h => by simp [look] at h
  | (k, u) :: E', ⟨h1, h2⟩, t, v, h => by
    rw [look_cons] at h
    split at h
    · rename_i e; cases h; subst e; exact h1
    · exact subs_sub h2 t v h
theorem Agree.sub {E' : Env} (hA : Agree n D E a) (h : Sub E' E) : Agree n D E' a := ⟨hA.size, hA.defers, fun t v e => hA.slots t v (h t v e)⟩
end agree

section control
variable {C : Cx} {k : List Item} {Q : Post} {E : Env} {h : Hp}

theorem items_mono {P : Program} {ρ : Option Nat} : ∀ (k : List Item) {Q Q' : Post}, (∀ e a w, Q e a w → Q' e a w) → ∀ e a w, items P ρ k Q e a w → items P ρ k Q' e a w
  | [], _, _, hq, e, a, w, h => hq e a w h
  | .code c :: k, Q, Q', hq, e, a, w, h => by
    cases e <;> simp only [items] at h ⊢ <;> first | exact wpIn_mono h (items_mono k hq) | exact items_mono k hq _ a w h
  | .inBlock id :: k, Q, Q', hq, e, a, w, h => by
    cases e <;> simp only [items, Exit.inBlock] at h ⊢ <;> first | exact items_mono k hq _ a w h | (split at h <;> rename_i hh <;> simp only [hh, if_true, if_false] <;> exact items_mono k hq _ a w h)
  | .inLoop c :: k, _, _, hq, e, a, w, h => items_mono k hq e a w h
  | .inScope c :: k, _, _, hq, e, a, w, h => by
    cases e <;> simp only [items] at h ⊢ <;> exact items_mono k hq _ a w h
  | .inRegion .. :: k, _, _, hq, e, a, w, h => items_mono k hq e a w h
  | .inRangeFunc _ :: k, _, _, hq, e, a, w, h => items_mono k hq e a w h
  | .endRangeFunc _ :: k, _, _, hq, e, a, w, h => items_mono k hq e a w h
  | .beginRound :: k, _, _, hq, e, a, w, h => items_mono k hq e a w h
  | .call .. :: k, _, _, hq, e, a, w, h => items_mono k hq e a w h
  | .extern .. :: k, _, _, hq, e, a, w, h => items_mono k hq e a w h

theorem X.weaken {e : Exit} {E' : Env} (hs : Sub E' E) (hx : X C e k Q E' h) : X C e k Q E h := fun a w hA hw => hx a w (hA.sub hs) hw

theorem x_seq {x y : Code} (hx : X C .normal (.code x :: .code y :: k) Q E h) : X C .normal (.code (.seq x y) :: k) Q E h := fun a w hA hw => by
  have := hx a w hA hw
  simp only [items] at this ⊢
  refine wpIn_seq (wpIn_mono this fun e a w hh => ?_)
  cases e <;> exact hh

theorem x_block {id : Nat} {c : Code} (hx : X C .normal (.code c :: .inBlock id :: k) Q E h) : X C .normal (.code (.block id c) :: k) Q E h := fun a w hA hw => by
  have := hx a w hA hw
  simp only [items] at this ⊢
  exact wpIn_block this

theorem x_out {id : Nat} (hx : X C .normal k Q E h) : X C .normal (.inBlock id :: k) Q E h := fun a w hA hw => by
  have := hx a w hA hw
  simp only [items, Exit.inBlock] at this ⊢
  exact this

theorem x_scope {c : Code} (hx : X C .normal (.code c :: .inScope c :: k) Q E h) : X C .normal (.code (.scope c) :: k) Q E h := fun a w hA hw => by
  have := hx a w hA hw
  simp only [items] at this ⊢
  intro b k' cs hro hb hr
  obtain ⟨e, a1, w1, hq, harr⟩ := this b (.inScope c :: k') cs hro hb hr
  have s0 : step C.P (lone (b.atR a (.code (.scope c) :: k')) cs w) = .next (lone (b.atR a (.code c :: .inScope c :: k')) cs w) := step_lone_go (by simp [stepG, stepG.exec, Frame.atR])
  have s1 : step C.P (lone (b.atR a1 (.inScope c :: k')) cs w1) = .next (lone (b.atR a1 k') cs w1) := step_lone_go (by simp [stepG, stepG.exec, Frame.atR])
  have hex : ∀ id, exitTo id (.inScope c :: k') = exitTo id k' := fun id => rfl
  cases e with
  | normal => exact ⟨.normal, a1, w1, hq, .of_steps (.one (fenced_calm hb hr rfl) s0) (StepsIn.trans harr (.one (fenced_calm hb hr rfl) s1))⟩
  | exit id => exact ⟨.exit id, a1, w1, hq, .of_steps (.one (fenced_calm hb hr rfl) s0) ⟨fun k1 hk => harr.1 k1 (by rw [hex]; exact hk), fun hr hk => harr.2 hr (by rw [hex]; exact hk)⟩⟩
  | ret => exact ⟨.ret, a1, w1, hq, .of_steps (.one (fenced_calm hb hr rfl) s0) harr⟩
  | goto l => exact hq.elim
  | panic ch => exact ⟨.panic ch, a1, w1, hq, .of_steps (.one (fenced_calm hb hr rfl) s0) harr⟩
  | outgrown => exact ⟨.outgrown, a1, w1, hq, .of_steps (.one (fenced_calm hb hr rfl) s0) harr⟩

theorem x_out_scope {c : Code} (hx : X C .normal k Q E h) : X C .normal (.inScope c :: k) Q E h := fun a w hA hw => by
  have := hx a w hA hw
  simp only [items]
  exact this

theorem x_skip (hx : X C .normal k Q E h) : X C .normal (.code .skip :: k) Q E h := fun a w hA hw => by
  have := hx a w hA hw
  simp only [items]
  exact wpIn_skip this

theorem x_label {l : Nat} (hx : X C .normal k Q E h) : X C .normal (.code (.label l) :: k) Q E h := fun a w hA hw => by
  have := hx a w hA hw
  simp only [items]
  exact wpIn_label this

theorem x_true {c : Operand} {x y : Code} (hc : ev E c = some (.bool true)) (hx : X C .normal (.code x :: k) Q E h) : X C .normal (.code (.cond c x y) :: k) Q E h := fun a w hA hw => by
  have := hx a w hA hw
  simp only [items] at this ⊢
  exact wpIn_cond_true (ev_eval hA hc) this

theorem x_false {c : Operand} {x y : Code} (hc : ev E c = some (.bool false)) (hx : X C .normal (.code y :: k) Q E h) : X C .normal (.code (.cond c x y) :: k) Q E h := fun a w hA hw => by
  have := hx a w hA hw
  simp only [items] at this ⊢
  exact wpIn_cond_false (ev_eval hA hc) this

theorem x_if {c : Operand} {x y : Code} {b : Bool} (hc : ev E c = some (.bool b)) (ht : b = true → X C .normal (.code x :: k) Q E h) (hf : b = false → X C .normal (.code y :: k) Q E h) :
    X C .normal (.code (.cond c x y) :: k) Q E h := by
  cases b
  · exact x_false hc (hf rfl)
  · exact x_true hc (ht rfl)

theorem x_ifd {c : Operand} {x y : Code} {p : Prop} [Decidable p] (hc : ev E c = some (.bool (decide p))) (ht : p → X C .normal (.code x :: k) Q E h) (hf : ¬ p → X C .normal (.code y :: k) Q E h) :
    X C .normal (.code (.cond c x y) :: k) Q E h :=
  x_if hc (fun e => ht (of_decide_eq_true e)) (fun e => hf (of_decide_eq_false e))

/-- Where a jump leads: the items behind the block. -/
def leads (id : Nat) : List Item → Option (List Item)
  | [] => none
  | .inBlock id' :: k => bif Nat.beq id' id then some k else leads id k
  | .code _ :: k => leads id k
  | .inScope _ :: k => leads id k
  | _ :: _ => none

theorem items_leads {P : Program} {ρ : Option Nat} {id : Nat} : ∀ {k k' : List Item}, leads id k = some k' → ∀ {a w}, items P ρ k' Q .normal a w → items P ρ k Q (.exit id) a w
  | [], _, hk, _, _, _ => by simp [leads] at hk
  | .inBlock id' :: k, k', hk, a, w, hh => by
    simp only [leads] at hk
    cases hb : Nat.beq id' id with
    | true =>
      have := Nat.eq_of_beq_eq_true hb
      simp only [hb, cond_true, Option.some.injEq] at hk
      subst hk
      simp only [items, Exit.inBlock, this, if_true]
      exact hh
    | false =>
      have hne : ¬ id = id' := fun e => by subst e; simp at hb
      simp only [hb, cond_false] at hk
      simp only [items, Exit.inBlock, hne, if_false]
      exact items_leads hk hh
  | .code _ :: k, k', hk, a, w, hh => by simp only [items]; exact items_leads (k := k) hk hh
  | .inLoop _ :: k, _, hk, _, _, _ => by simp [leads] at hk
  | .inScope _ :: k, k', hk, a, w, hh => by simp only [items]; exact items_leads (k := k) hk hh
  | .inRegion .. :: k, _, hk, _, _, _ => by simp [leads] at hk
  | .inRangeFunc _ :: k, _, hk, _, _, _ => by simp [leads] at hk
  | .endRangeFunc _ :: k, _, hk, _, _, _ => by simp [leads] at hk
  | .beginRound :: k, _, hk, _, _, _ => by simp [leads] at hk
  | .call .. :: k, _, hk, _, _, _ => by simp [leads] at hk
  | .extern .. :: k, _, hk, _, _, _ => by simp [leads] at hk

theorem x_exit {id : Nat} {k' : List Item} (hk : leads id k = some k') (hx : X C .normal k' Q E h) : X C .normal (.code (.exit id) :: k) Q E h := fun a w hA hw => by
  simp only [items]
  exact wpIn_exit (items_leads hk (hx a w hA hw))

/-- A jump out of a loop's body (or a round's): no block of its own catches it. -/
def noLead (id : Nat) : List Item → Bool
  | [] => true
  | .inBlock id' :: k => !Nat.beq id' id && noLead id k
  | .code _ :: k => noLead id k
  | .inScope _ :: k => noLead id k
  | _ :: _ => false

theorem items_noLead {P : Program} {ρ : Option Nat} {id : Nat} : ∀ {k : List Item}, noLead id k = true → ∀ {a w}, Q (.exit id) a w → items P ρ k Q (.exit id) a w
  | [], _, _, _, hh => hh
  | .inBlock id' :: k, hk, a, w, hh => by
    simp only [noLead, Bool.and_eq_true, Bool.not_eq_true'] at hk
    have hne : ¬ id = id' := fun e => by have := hk.1; subst e; simp at this
    simp only [items, Exit.inBlock, hne, if_false]
    exact items_noLead hk.2 hh
  | .code _ :: k, hk, a, w, hh => by simp only [items]; exact items_noLead (k := k) hk hh
  | .inLoop _ :: k, hk, _, _, _ => by simp [noLead] at hk
  | .inScope _ :: k, hk, a, w, hh => by simp only [items]; exact items_noLead (k := k) hk hh
  | .inRegion .. :: k, hk, _, _, _ => by simp [noLead] at hk
  | .inRangeFunc _ :: k, hk, _, _, _ => by simp [noLead] at hk
  | .endRangeFunc _ :: k, hk, _, _, _ => by simp [noLead] at hk
  | .beginRound :: k, hk, _, _, _ => by simp [noLead] at hk
  | .call .. :: k, hk, _, _, _ => by simp [noLead] at hk
  | .extern .. :: k, hk, _, _, _ => by simp [noLead] at hk

/-- What is asked of the slots and the heap where a walk is left by e. -/
def At (C : Cx) (Q : Post) (e : Exit) (E : Env) (h : Hp) : Prop := ∀ a w, Agree C.n C.D E a → Is C.w0 h w → Q e a w

theorem x_exit_up {id : Nat} (hk : noLead id k = true) (hx : At C Q (.exit id) E h) : X C .normal (.code (.exit id) :: k) Q E h := fun a w hA hw => by
  simp only [items]
  exact wpIn_exit (items_noLead hk (hx a w hA hw))

theorem items_ret {P : Program} {ρ : Option Nat} : ∀ {k : List Item} {a w}, Q .ret a w → items P ρ k Q .ret a w
  | [], _, _, hh => hh
  | .inBlock _ :: k, _, _, hh => by simp only [items, Exit.inBlock]; exact items_ret (k := k) hh
  | .code _ :: k, _, _, hh => by simp only [items]; exact items_ret (k := k) hh
  | .inLoop _ :: k, _, _, hh => items_ret (k := k) hh
  | .inScope _ :: k, _, _, hh => by simp only [items]; exact items_ret (k := k) hh
  | .inRegion .. :: k, _, _, hh => items_ret (k := k) hh
  | .inRangeFunc _ :: k, _, _, hh => items_ret (k := k) hh
  | .endRangeFunc _ :: k, _, _, hh => items_ret (k := k) hh
  | .beginRound :: k, _, _, hh => items_ret (k := k) hh
  | .call .. :: k, _, _, hh => items_ret (k := k) hh
  | .extern .. :: k, _, _, hh => items_ret (k := k) hh

theorem x_ret (hx : At C Q .ret E h) : X C .normal (.code .ret :: k) Q E h := fun a w hA hw => by
  simp only [items]
  exact wpIn_ret (items_ret (hx a w hA hw))

theorem x_end (hx : At C Q .normal E h) : X C .normal [] Q E h := fun a w hA hw => hx a w hA hw

/-- What a round of a loop must achieve. -/
def loopPost {ι : Type} (C : Cx) (Inv : ι → Env) (I : ι → Hp → Prop) (μ : ι → Nat) (i : ι) (K : Post) : Post := fun e a w =>
  match e with
  | .normal => ∃ j h, Agree C.n C.D (Inv j) a ∧ Is C.w0 h w ∧ I j h ∧ μ j < μ i
  | e => K e a w

theorem x_loop {ι : Type} (Inv : ι → Env) (I : ι → Hp → Prop) (μ : ι → Nat) (i0 : ι) {c : Code} (hE : subs E (Inv i0)) (hI : I i0 h)
    (round : ∀ i h, I i h → ∀ K : Post, (∀ e E' h', e ≠ .normal → X C e k Q E' h' → At C K e E' h') → X C .normal [.code c] (loopPost C Inv I μ i K) (Inv i) h) :
    X C .normal (.code (.loop c) :: k) Q E h := fun a w hA hw => by
  simp only [items]
  intro b k' cs hro hb hr
  have hall : ∀ m i h a w, μ i = m → Agree C.n C.D (Inv i) a → Is C.w0 h w → I i h →
      ∃ e a' w', items C.P C.ρ k Q e a' w' ∧ ArrivesIn (Machine.fenced C.P (Fr C.ρ)) C.P (lone (b.atR a (.code c :: .inLoop c :: k')) cs w) b k' cs e a' w' := by
    intro m
    induction m using Nat.strongRecOn with
    | _ m ih =>
      intro i h a w hm hA hw hI
      have h1 := round i h hI (items C.P C.ρ k Q) (fun e E' h' _ hx => hx) a w hA hw
      obtain ⟨e, a1, w1, hq, harr⟩ := h1 b (.inLoop c :: k') cs hro hb hr
      have up : ∀ e, e ≠ .normal → items C.P C.ρ k Q e a1 w1 → ArrivesIn (Machine.fenced C.P (Fr C.ρ)) C.P (lone (b.atR a (.code c :: .inLoop c :: k')) cs w) b (.inLoop c :: k') cs e a1 w1 →
          ∃ e a' w', items C.P C.ρ k Q e a' w' ∧ ArrivesIn (Machine.fenced C.P (Fr C.ρ)) C.P (lone (b.atR a (.code c :: .inLoop c :: k')) cs w) b k' cs e a' w' :=
        fun e hne hq harr => ⟨e, a1, w1, hq, .pass (x := .inLoop c) rfl (fun _ _ => .inl hne) harr⟩
      cases e with
      | normal =>
        obtain ⟨j, h2, hA2, hw2, hI2, hlt⟩ := hq
        obtain ⟨e, a2, w2, hq2, harr2⟩ := ih (μ j) (hm ▸ hlt) j h2 a1 w1 rfl hA2 hw2 hI2
        exact ⟨e, a2, w2, hq2, .of_steps (StepsIn.trans harr (.one (fenced_calm hb hr rfl) stepR_inLoop)) harr2⟩
      | exit id => exact up _ (by simp) hq harr
      | goto l => exact up _ (by simp) hq harr
      | ret => exact up _ (by simp) hq harr
      | panic ch => exact up _ (by simp) hq harr
      | outgrown => exact up _ (by simp) hq harr
  obtain ⟨e, a', w', hq, harr⟩ := hall _ i0 h a w rfl (hA.sub (subs_sub hE)) hw hI
  exact ⟨e, a', w', hq, .of_steps (.one (fenced_calm hb hr rfl) stepR_loop) harr⟩

theorem x_next {ι : Type} {Inv : ι → Env} {I : ι → Hp → Prop} {μ : ι → Nat} {i : ι} {K : Post} (j : ι) (hE : subs E (Inv j)) (hI : I j h) (hm : μ j < μ i) :
    X C .normal [] (loopPost C Inv I μ i K) E h := fun _ _ hA hw => ⟨j, h, hA.sub (subs_sub hE), hw, hI, hm⟩

theorem at_loop {ι : Type} {Inv : ι → Env} {I : ι → Hp → Prop} {μ : ι → Nat} {i : ι} {K : Post} {e : Exit} (he : e ≠ .normal) (hx : At C K e E h) : At C (loopPost C Inv I μ i K) e E h := fun a w hA hw => by
  have := hx a w hA hw
  cases e <;> first | exact absurd rfl he | exact this

/-- Out of a loop's body by a jump: what stands behind the loop. -/
theorem x_exit_loop {ι : Type} {Inv : ι → Env} {I : ι → Hp → Prop} {μ : ι → Nat} {i : ι} {K : Post} {id : Nat} {k2 k3 : List Item} {Q2 : Post}
    (hK : ∀ e E' h', e ≠ .normal → X C e k2 Q2 E' h' → At C K e E' h') (hk : noLead id k = true) (hk2 : leads id k2 = some k3) (hx : X C .normal k3 Q2 E h) :
    X C .normal (.code (.exit id) :: k) (loopPost C Inv I μ i K) E h :=
  x_exit_up hk (at_loop (by simp) (hK _ _ _ (by simp) fun a w hA hw => items_leads hk2 (hx a w hA hw)))

theorem x_exit_loop_up {ι : Type} {Inv : ι → Env} {I : ι → Hp → Prop} {μ : ι → Nat} {i : ι} {K : Post} {id : Nat} {k2 : List Item} {Q2 : Post}
    (hK : ∀ e E' h', e ≠ .normal → X C e k2 Q2 E' h' → At C K e E' h') (hk : noLead id k = true) (hk2 : noLead id k2 = true) (hx : At C Q2 (.exit id) E h) :
    X C .normal (.code (.exit id) :: k) (loopPost C Inv I μ i K) E h :=
  x_exit_up hk (at_loop (by simp) (hK _ _ _ (by simp) fun a w hA hw => items_noLead hk2 (hx a w hA hw)))

theorem at_ret_loop {ι : Type} {Inv : ι → Env} {I : ι → Hp → Prop} {μ : ι → Nat} {i : ι} {K : Post} {k2 : List Item} {Q2 : Post}
    (hK : ∀ e E' h', e ≠ .normal → X C e k2 Q2 E' h' → At C K e E' h') (hx : At C Q2 .ret E h) : At C (loopPost C Inv I μ i K) .ret E h :=
  at_loop (by simp) (hK _ _ _ (by simp) fun a w hA hw => items_ret (hx a w hA hw))

theorem at_exit_loop {ι : Type} {Inv : ι → Env} {I : ι → Hp → Prop} {μ : ι → Nat} {i : ι} {K : Post} {id : Nat} {k2 k3 : List Item} {Q2 : Post}
    (hK : ∀ e E' h', e ≠ .normal → X C e k2 Q2 E' h' → At C K e E' h') (hk2 : leads id k2 = some k3) (hx : X C .normal k3 Q2 E h) :
    At C (loopPost C Inv I μ i K) (.exit id) E h :=
  at_loop (by simp) (hK _ _ _ (by simp) fun a w hA hw => items_leads hk2 (hx a w hA hw))

/-! ### Regions -/

theorem wpListIn_mono' {F : Fence} {n : Nat} {P : Program} {ops : Array Oper} {Q : Post} : ∀ {l : List Oper} {a : Act} {w : World} {Q' : Post}, (∀ e a w, Q e a w → Q' e a w) → wpListIn F n P ops Q l a w → wpListIn F n P ops Q' l a w
  | [], a, w, _, hq, h => hq _ _ _ h
  | o :: l, a, w, Q', hq, h => by
    simp only [wpListIn] at h ⊢
    split
    · rename_i hw
      simp only [hw, if_true] at h
      unfold Oper.wpIn at h ⊢
      refine ⟨h.1, ?_⟩
      have h2 := h.2
      generalize (o.semAt F.round a.eval).run P w = r at *
      cases r with
      | ok x w' =>
        cases x <;> simp only [Oper.uponIn] at h2 ⊢ <;>
          first
            | exact wpListIn_mono' hq h2
            | exact ⟨h2.1, CallsIn.mono h2.2 (fun e w'' he => by cases e <;> first | exact wpListIn_mono' hq he | exact hq _ _ _ he | exact (let ⟨a, w, q⟩ := he; ⟨a, w, hq _ _ _ q⟩))⟩
            | exact ⟨h2.1, RowsIn.mono h2.2 (fun _ _ he => wpListIn_mono' hq he)⟩
            | exact ⟨h2.1, RoundIn.mono h2.2 (fun e w'' he => by cases e <;> first | exact wpListIn_mono' hq he | exact hq _ _ _ he | exact (let ⟨a, w, q⟩ := he; ⟨a, w, hq _ _ _ q⟩))⟩
      | halt x w' => cases x <;> simp only [Oper.uponIn] at h2 ⊢ <;> first | exact hq _ _ _ h2 | exact h2
    · rename_i hw
      simp only [hw] at h
      exact ⟨h.1, wpListIn_mono' hq h.2⟩

theorem x_region {id : Nat} {l : List Oper} (hx : ∀ K : Env → Hp → Prop, (∀ E' h', X C .normal k Q E' h' → K E' h') → Ops C l l K E h) :
    X C .normal (.code (.region id l.toArray false) :: k) Q E h := fun a w hA hw => by
  simp only [items]
  refine wpIn_mono (wpIn_region_lit (hx _ (fun _ _ hh => hh) a w hA hw)) ?_
  rintro e a' w' ⟨rfl, E', h', hA', hw', hK⟩
  exact hK a' w' hA' hw'

/-- The same, what follows in view. -/
theorem x_reg {id : Nat} {l : List Oper} (hx : Ops C l l (fun E' h' => X C .normal k Q E' h') E h) : X C .normal (.code (.region id l.toArray false) :: k) Q E h :=
  x_region fun _ hK a w hA hw => wpListIn_mono' (fun _ _ _ ⟨e, E', h', hA', hw', hx'⟩ => ⟨e, E', h', hA', hw', hK E' h' hx'⟩) (hx a w hA hw)

theorem ops_nil {all : List Oper} {K : Env → Hp → Prop} (hk : K E h) : Ops C all [] K E h := fun _ _ hA hw => ⟨rfl, E, h, hA, hw, hk⟩

variable {all rest : List Oper} {K : Env → Hp → Prop} {o : Oper}

theorem Ops.weaken {l : List Oper} {E' : Env} (hs : Sub E' E) (hx : Ops C all l K E' h) : Ops C all l K E h := fun a w hA hw => hx a w (hA.sub hs) hw

theorem ops_value {h' : Hp} {v : Value} (hg : o.guard = none) (hnd : ∀ c, o.op ≠ .defer c) (hd : dstOk C.n o.dst = true)
    (hr : ∀ a w, Agree C.n C.D E a → Is C.w0 h w → ∃ w', (execOp a.eval o).run C.P w = .ok (.value v) w' ∧ Is C.w0 h' w')
    (hx : Ops C all rest K (bind o.dst v E) h') : Ops C all (o :: rest) K E h := fun a w hA hw => by
  obtain ⟨w', h1, h2⟩ := hr a w hA hw
  simp only [wpListIn, Region.wanted, hg, if_true]
  refine ⟨fun _ _ => trivial, ?_⟩
  rw [Oper.semAt_eq _ _ _ hnd, h1]
  exact hx _ _ (hA.bind hd v) h2

/-- The value hangs on what the tape says. -/
theorem ops_some (hg : o.guard = none) (hnd : ∀ c, o.op ≠ .defer c)
    (hr : ∀ a w, Agree C.n C.D E a → Is C.w0 h w → ∃ v w' h', (execOp a.eval o).run C.P w = .ok (.value v) w' ∧ Is C.w0 h' w' ∧ dstOk C.n o.dst = true ∧ Ops C all rest K (bind o.dst v E) h') : Ops C all (o :: rest) K E h := fun a w hA hw => by
  obtain ⟨v, w', h', h1, h2, hd, hx⟩ := hr a w hA hw
  simp only [wpListIn, Region.wanted, hg, if_true]
  refine ⟨fun _ _ => trivial, ?_⟩
  rw [Oper.semAt_eq _ _ _ hnd, h1]
  exact hx _ _ (hA.bind hd v) h2

theorem ops_done {h' : Hp} (hg : o.guard = none) (hnd : ∀ c, o.op ≠ .defer c) (hd : o.dst = none)
    (hr : ∀ a w, Agree C.n C.D E a → Is C.w0 h w → ∃ w', (execOp a.eval o).run C.P w = .ok .skip w' ∧ Is C.w0 h' w')
    (hx : Ops C all rest K E h') : Ops C all (o :: rest) K E h := fun a w hA hw => by
  obtain ⟨w', h1, h2⟩ := hr a w hA hw
  simp only [wpListIn, Region.wanted, hg, if_true]
  refine ⟨fun _ _ => trivial, ?_⟩
  rw [Oper.semAt_eq _ _ _ hnd, h1]
  exact hx _ _ (by have := hA.bind (dst := o.dst) (by simp [hd, dstOk]) undef; simpa [hd, Gw.bind] using this) h2

/-- A guarded operation whose guard says yes is as a plain one; one whose guard says no leaves nothing. -/
theorem yielded_look {n : Nat} {D : List Deferred} {a : Act} {all : List Oper} {j t : Nat} {b : Bool} (hA : Agree n D E a) (hj : (all[j]?).bind (·.dst) = some t) (ht : look E t = some (.bool b)) : yielded all.toArray a.tmps j = some b := by
  have h1 := hA.slots t _ ht
  have hlt : t < a.tmps.size := by
    rcases Nat.lt_or_ge t a.tmps.size with h | h
    · exact h
    · simp [h, undef] at h1
  unfold yielded
  simp only [List.getElem?_toArray, hj, Option.bind_some, Array.getElem?_eq_getElem hlt]
  simp only [Array.getD, hlt, dif_pos] at h1
  have h2 : a.tmps[t] = Value.bool b := h1
  rw [h2]

theorem ops_guard_yes {j t : Nat} {b : Bool} (hg : o.guard = some (j, b)) (hj : (all[j]?).bind (·.dst) = some t) (ht : look E t = some (.bool b))
    (hx : Ops C all ({ o with guard := none } :: rest) K E h) : Ops C all (o :: rest) K E h := fun a w hA hw => by
  have h1 := hx a w hA hw
  have hy := yielded_look hA hj ht
  simp only [wpListIn, Region.wanted, hg, hy, beq_self_eq_true, if_true] at h1 ⊢
  exact h1

theorem ops_guard_no {j t : Nat} {b b' : Bool} (hg : o.guard = some (j, b')) (hj : (all[j]?).bind (·.dst) = some t) (ht : look E t = some (.bool b)) (hne : b ≠ b') (hd : dstOk C.n o.dst = true)
    (hx : Ops C all rest K (bind o.dst undef E) h) : Ops C all (o :: rest) K E h := fun a w hA hw => by
  have hy := yielded_look hA hj ht
  have hne' : (some b == some b') = false := by simpa using hne
  simp only [wpListIn, Region.wanted, hg, hy, hne']
  exact ⟨fun _ _ => trivial, hx _ _ (hA.bind hd undef) hw⟩

/-! ### Calls -/

/-- The number f is that of a function with a body. -/
def FnOk (P : Program) (f : FuncId) : Prop := ∀ args w, (callFunc f args).run P w = .ok (.enter f args) w

/-- Called over the heap h, f returns; R: the value, and the heap then. -/
def CallsH (P : Program) (f : FuncId) (args : Array Value) (h : Hp) (R : Value → Hp → Prop) : Prop :=
  FnOk P f ∧ ∀ w, w.heap = h → Calls P f args w fun e w' => ∃ v, e = .returned v ∧ Is w w'.heap w' ∧ R v w'.heap

theorem CallsH.mono {P : Program} {f : FuncId} {args : Array Value} {h : Hp} {R R' : Value → Hp → Prop} (hc : CallsH P f args h R) (hr : ∀ v h', R v h' → R' v h') : CallsH P f args h R' :=
  ⟨hc.1, fun w hw => (hc.2 w hw).mono fun _ _ ⟨v, he, hi, hR⟩ => ⟨v, he, hi, hr _ _ hR⟩⟩

theorem callsIn_fr {P : Program} {ρ : Option Nat} {f : FuncId} {args : Array Value} {w : World} {R : Ending → World → Prop} (hc : Calls P f args w R) : CallsIn (Fr ρ) 0 P f args w R := by
  have h1 : CallsIn Fence.wide 0 P f args w R := callsIn_wide.2 hc
  cases ρ with
  | none => exact h1
  | some l => exact h1

theorem ops_enter {R : Value → Hp → Prop} {f : FuncId} {vs : Array Value} (hg : o.guard = none) (hnd : ∀ c, o.op ≠ .defer c) (hd : dstOk C.n o.dst = true)
    (hr : ∀ a w, Agree C.n C.D E a → Is C.w0 h w → (execOp a.eval o).run C.P w = .ok (.enter f vs) w) (hc : CallsH C.P f vs h R)
    (hx : ∀ v h', R v h' → Ops C all rest K (bind o.dst v E) h') : Ops C all (o :: rest) K E h := fun a w hA hw => by
  simp only [wpListIn, Region.wanted, hg, if_true]
  refine ⟨fun _ _ => trivial, ?_⟩
  rw [Oper.semAt_eq _ _ _ hnd, hr a w hA hw]
  refine ⟨fun hh => by simp [Fr] at hh, callsIn_fr ((hc.2 w hw.heap).mono ?_)⟩
  rintro e w' ⟨v, rfl, hi, hR⟩
  exact hx _ _ hR _ _ (hA.bind hd v) (hw.trans hi)

theorem ops_call {R : Value → Hp → Prop} {dst : Option Tmp} {f : Operand} {args : List Operand} {ats : Array TypeId} {ty : TypeId} {pos : String} {after : Array Edge} {fid : FuncId} {first cap : Array Value} {vs : List Value}
    (hd : dstOk C.n dst = true) (hf : ev E f = some (.func (.func fid) first cap)) (hargs : evs E args = some vs)
    (hc : CallsH C.P fid (first ++ vs.toArray ++ cap) h R) (hx : ∀ v h', R v h' → Ops C all rest K (bind dst v E) h') :
    Ops C all (⟨dst, .call { callee := .value f, args := args.toArray, argTypes := ats }, ty, pos, after, none⟩ :: rest) K E h := by
  refine ops_enter rfl (by simp) hd (fun a w hA hw => ?_) hc hx
  have h1 := ev_eval hA hf
  have h2 := evs_array hA hargs
  simp only [execOp, resolve, h1, h2, Deferred.ofValue, Sem.run_bind, Sem.run_pure, Result.andThen_ok, invoke]
  exact hc.1 _ _

end control

/-! ### Entering a function -/

def argsEnv (i : Nat) : List Value → Env
  | [] => []
  | v :: vs => (i, v) :: argsEnv (i + 1) vs

theorem look_argsEnv {t : Nat} {v : Value} : ∀ {vs : List Value} {i : Nat}, look (argsEnv i vs) t = some v → i ≤ t ∧ vs[t - i]? = some v
  | [], i, h => by simp [argsEnv, look] at h
  | u :: vs, i, h => by
    simp only [argsEnv, look_cons] at h
    split at h
    · rename_i e; subst e; simpa using h
    · rename_i e
      obtain ⟨h1, h2⟩ := look_argsEnv h
      refine ⟨by omega, ?_⟩
      rw [show t - i = (t - (i + 1)) + 1 by omega]
      simpa using h2

/-- What a function's body must achieve. -/
def bodyQ (P : Program) (fn : Func) (w0 : World) (R : Value → Hp → Prop) : Post := fun e a w =>
  (e = .ret ∨ e = .normal) ∧ LeavesInM Fence.wide 0 P fn a.tmps (fun e w' => ∃ v, e = .returned v ∧ Is w0 w'.heap w' ∧ R v w'.heap) a.defers .returning w

theorem enter {P : Program} {f : FuncId} {fn : Func} {c : Code} {args : Array Value} {h : Hp} {R : Value → Hp → Prop} {n : Nat}
    (hok : FnOk P f) (hf : P.funcs[f]? = some fn) (hb : fn.body = some c) (hn : fn.ntmps = n) (hsz : args.size ≤ n)
    (hx : ∀ w0, X ⟨P, none, n, [], w0⟩ .normal [.code c] (bodyQ P fn w0 R) (argsEnv 0 args.toList) h) : CallsH P f args h R := by
  refine ⟨hok, fun w hw => (callsIn_wide (n := 0)).1 (callsIn_of_wp_marks hf hb trivial ?_)⟩
  have hA : Agree n [] (argsEnv 0 args.toList) { tmps := args ++ Array.replicate (fn.ntmps - args.size) undef, defers := [] } := by
    refine ⟨by simp [hn]; omega, rfl, fun t v hl => ?_⟩
    obtain ⟨_, h2⟩ := look_argsEnv hl
    simp only [Nat.sub_zero] at h2
    have hlt : t < args.size := by
      rcases Nat.lt_or_ge t args.size with h | h
      · exact h
      · rw [List.getElem?_eq_none (by simpa using h)] at h2; cases h2
    have h3 : args[t] = v := by simpa [hlt] using h2
    simp [Array.getElem?_append, hlt, h3]
  have := hx w _ w hA ⟨hw, rfl, rfl, rfl, Nat.le_refl _⟩
  simp only [items] at this
  refine wpIn_mono this ?_
  rintro e a w' ⟨rfl | rfl, hq⟩
  · exact hq
  · exact hq

theorem run_results1 {P : Program} {fn : Func} {t : Tmp} {ts : Array Value} {w : World} {v : Value} (hr : fn.results = #[.tmp t]) (h : ts.getD t undef = v) : (results fn ts).run P w = .ok v w := by
  subst h; simp [results, hr]

def slotsOf : List ResultVar → Option (List Tmp)
  | [] => some []
  | .tmp t :: l => (slotsOf l).map (t :: ·)
  | .cell .. :: _ => none
def looks (E : Env) : List Tmp → Option (List Value)
  | [] => some []
  | t :: l => match look E t, looks E l with
    | some v, some vs => some (v :: vs)
    | _, _ => none
def resultOf : List Value → Value
  | [v] => v
  | vs => .tuple vs.toArray

def resOne (ts : Array Value) : ResultVar → Sem Value
  | .tmp t => pure (ts.getD t undef)
  | .cell a t => do loadVar t (← asAddr (ts.getD a undef))

theorem run_results {P : Program} {fn : Func} {n : Nat} {D : List Deferred} {E : Env} {a : Act} {w : World} (hA : Agree n D E a) {rs : List ResultVar} {ts : List Tmp} {vs : List Value}
    (hr : fn.results = rs.toArray) (hs : slotsOf rs = some ts) (hl : looks E ts = some vs) : (results fn a.tmps).run P w = .ok (resultOf vs) w := by
  have key : ∀ (rs : List ResultVar) (ts : List Tmp) (vs : List Value), slotsOf rs = some ts → looks E ts = some vs → (rs.mapM (resOne a.tmps)).run P w = .ok vs w := by
    intro rs
    induction rs with
    | nil => intro ts vs h1 h2; simp only [slotsOf, Option.some.injEq] at h1; subst h1; simp only [looks, Option.some.injEq] at h2; subst h2; simp
    | cons r rs ih =>
      intro ts vs h1 h2
      cases r with
      | cell _ _ => simp [slotsOf] at h1
      | tmp t =>
        simp only [slotsOf, Option.map_eq_some_iff] at h1
        obtain ⟨ts', h1, rfl⟩ := h1
        simp only [looks] at h2
        split at h2
        · rename_i v vs' e1 e2
          cases h2
          have := ih ts' vs' h1 e2
          simp only [List.mapM_cons, Sem.run_bind, resOne, Sem.run_pure, Result.andThen_ok, this, hA.slots t v e1]
        · cases h2
  have h0 := key rs ts vs hs hl
  have h1 : results fn a.tmps = (do let vs ← fn.results.mapM (resOne a.tmps); pure (if h : vs.size = 1 then vs[0] else .tuple vs)) := rfl
  rw [h1, hr, List.mapM_toArray]
  simp only [Sem.run_bind, Sem.run_map, h0, Result.andThen_ok, Sem.run_pure]
  congr 1
  match vs with
  | [] => rfl
  | [v] => rfl
  | u :: v :: vs => simp [resultOf]

theorem at_ret {C : Cx} {fn : Func} {R : Value → Hp → Prop} {E : Env} {h : Hp} {rs : List ResultVar} {ts : List Tmp} {vs : List Value} (hD : C.D = [])
    (hr : fn.results = rs.toArray) (hs : slotsOf rs = some ts) (hl : looks E ts = some vs) (hR : R (resultOf vs) h) {e : Exit} (he : e = .ret ∨ e = .normal) : At C (bodyQ C.P fn C.w0 R) e E h := fun a w hA hw => by
  refine ⟨he, ?_⟩
  rw [hA.defers, hD]
  exact ⟨_, run_results hA hr hs hl, _, rfl, by rw [hw.heap]; exact hw, by rw [hw.heap]; exact hR⟩

/-- Where a loop over a function has left its mark: its block of deferred calls is shut. -/
theorem at_ret_mark {C : Cx} {fn : Func} {R : Value → Hp → Prop} {E : Env} {h : Hp} {rs : List ResultVar} {ts : List Tmp} {vs : List Value} {D : Nat} (hD : C.D = [{ target := .collected D, args := #[] }])
    (hk : h[D]? = some (.deferred (some []))) (hr : fn.results = rs.toArray) (hs : slotsOf rs = some ts) (hl : looks E ts = some vs) (hR : R (resultOf vs) (h.setIfInBounds D (.deferred none))) {e : Exit} (he : e = .ret ∨ e = .normal) :
    At C (bodyQ C.P fn C.w0 R) e E h := fun a w hA hw => by
  refine ⟨he, ?_⟩
  rw [hA.defers, hD]
  refine ⟨by simp, .inl ⟨D, { w with heap := w.heap.setIfInBounds D (.deferred none) }, rfl, ?_, ?_⟩⟩
  · simp only [Instr.takeDeferred, getObj, setObj, Sem.run, Bind.bind, Sem.bind, hw.heap, hk]
    rfl
  · have hw2 : Is C.w0 (h.setIfInBounds D (.deferred none)) { w with heap := w.heap.setIfInBounds D (.deferred none) } := ⟨by rw [← hw.heap], hw.os, hw.tape, hw.output, hw.drawn⟩
    exact ⟨_, run_results hA hr hs hl, _, rfl, by rw [hw2.heap]; exact hw2, by rw [hw2.heap]; exact hR⟩

end Go.Gw
