/-
  A part of the proofs of the laws of the index: what the functions of this program compute. Conditions: none beyond those that its theorems name.
-/
import Derived.Test.YtmfgiabmmdbmoaaGreatDoorGw5
/-
  THE GROUND OF THE WALKS (6): 'for .. := range f', f a function that yields a list; loops that leave marks behind; the body must not leave the loop.
-/
namespace Go.Gw

/-- What one call of the yield function of the loop l does with x, over the heap h: true, and R of the heap then. -/
def Yields (P : Program) (l : Nat) (x : Value) (h : Hp) (R : Hp → Prop) : Prop :=
  ∃ r, h[l]? = some (.loop r) ∧ r.params.size = 1 ∧ ∀ w, w.heap = h → RoundIn Fence.wide 0 P l r.fn ((r.params.zip #[x]).foldl (fun tmps (t, a) => tmps.setIfInBounds t a) r.tmps) r.assign r.body w
    (fun e w' => e = .returned (.bool true) ∧ Is w w'.heap w' ∧ R w'.heap)

/-- The function gf, with lb behind its argument, yields xs, as long as D holds of the heap. -/
def Iter (P : Program) (gf : Nat) (lb : Array Value) (xs : List Value) (D : Hp → Prop) : Prop :=
  ∀ (l : Nat) (I : Nat → Hp → Prop), (∀ i h', I i h' → D h') → (∀ i x h', xs[i]? = some x → I i h' → Yields P l x h' (I (i + 1))) → ∀ h', I 0 h' →
    CallsH P gf (#[.func (.yield l) #[] #[]] ++ lb) h' (fun _ h'' => I xs.length h'')

section
variable {C : Cx} {k : List Item} {Q : Post} {E : Env} {h : Hp} {all rest : List Oper} {K : Env → Hp → Prop}

theorem roundIn_fr {P : Program} {ρ : Option Nat} {l : Nat} {f : FuncId} {tmps : Array Value} {assign body : Code} {w : World} {R : Ending → World → Prop} (hc : RoundIn Fence.wide 0 P l f tmps assign body w R) : RoundIn (Fr ρ) 0 P l f tmps assign body w R := by
  cases ρ with
  | none => exact hc
  | some l => exact hc

/-- A call of yield. -/
theorem ops_yield {dst : Option Tmp} {f y : Operand} {ats : Array TypeId} {ty : TypeId} {pos : String} {after : Array Edge} {l : Nat} {x : Value} {R : Hp → Prop}
    (hd : dstOk C.n dst = true) (hf : ev E f = some (.func (.yield l) #[] #[])) (hy : ev E y = some x) (hr : Yields C.P l x h R)
    (hx : ∀ h', R h' → Ops C all rest K (bind dst (.bool true) E) h') : Ops C all (⟨dst, .call { callee := .value f, args := ⟨[y]⟩, argTypes := ats }, ty, pos, after, none⟩ :: rest) K E h := fun a w hA hw => by
  obtain ⟨r, hl, hp, hround⟩ := hr
  have hw' := hw.heap
  have hl' : w.heap[l]? = some (.loop r) := by rw [hw']; exact hl
  have hnot : ∀ c, (⟨dst, .call { callee := .value f, args := ⟨[y]⟩, argTypes := ats }, ty, pos, after, none⟩ : Oper).op ≠ .defer c := by simp
  have hrun : (execOp a.eval ⟨dst, .call { callee := .value f, args := ⟨[y]⟩, argTypes := ats }, ty, pos, after, none⟩).run C.P w
      = .ok (.round l r.fn ((r.params.zip #[x]).foldl (fun tmps (t, a) => tmps.setIfInBounds t a) r.tmps) r.assign r.body) w := by
    simp [execOp, resolve, ev_eval hA hf, ev_eval hA hy, Deferred.ofValue, invoke, Instr.yield, Instr.getLoop, getObj, Sem.run, hl', hp]
  simp only [wpListIn, Region.wanted, if_true]
  refine ⟨fun _ _ => trivial, ?_⟩
  rw [Oper.semAt_eq _ _ _ hnot, hrun]
  refine ⟨fun hh => by simp [Fr] at hh, roundIn_fr ((hround w hw').mono ?_)⟩
  rintro e w' ⟨rfl, hi, hR⟩
  exact hx _ hR _ _ (hA.bind hd _) (hw.trans hi)

def mark (D : Nat) : Deferred := { target := .collected D, args := #[] }

theorem agree_defers {n : Nat} {D : List Deferred} {E : Env} {a : Act} (hA : Agree n D E a) (D' : List Deferred) : Agree n D' E { a with defers := D' } := ⟨hA.size, rfl, hA.slots⟩

/-- What the body of a round must achieve: it comes to its end, with K of the heap. -/
def endQ (w0 : World) (K : Hp → Prop) : Post := fun e _ w => e = .normal ∧ Is w0 w.heap w ∧ K w.heap

theorem at_endQ {K : Hp → Prop} (hk : K h) : At C (endQ C.w0 K) .normal E h := fun _ w _ hw => ⟨rfl, by rw [hw.heap]; exact hw, by rw [hw.heap]; exact hk⟩

theorem x_rangeFunc {g : Operand} {p : Tmp} {assign body : Code} {gf : Nat} {lb : Array Value} {xs : List Value} {Dt : Hp → Prop}
    (hρ : C.ρ = none) (hg : ev E g = some (.func (.func gf) #[] lb)) (hok : FnOk C.P gf) (hp : Nat.blt p C.n = true) (hit : Iter C.P gf lb xs Dt) (I : Nat → Hp → Prop) (E1 : Value → Env)
    (h0 : ∀ h', Ext h h' → h'.size = h.size + 2 → I 0 h') (hbel : ∀ i h', I i h' → Dt h')
    (hst : ∀ i h1 h2, I i h1 → h2.size = h1.size → (∀ k, k ≠ h.size + 1 → h2[k]? = h1[k]?) → I i h2)
    (hass : ∀ x h' w0, X ⟨C.P, some (h.size + 1), C.n, [], w0⟩ .normal [.code assign] (fun e a w => e = .normal ∧ Agree C.n [] (E1 x) a ∧ Is w0 h' w) ((p, x) :: E) h')
    (hbody : ∀ i x h', xs[i]? = some x → I i h' → h.size + 2 ≤ h'.size → ∀ w0 (K : Hp → Prop), (∀ h'', I (i + 1) h'' → h'.size ≤ h''.size → h''[h.size]? = h'[h.size]? → h''[h.size + 1]? = h'[h.size + 1]? → K h'') →
      X ⟨C.P, some (h.size + 1), C.n, [], w0⟩ .normal [.code body] (endQ w0 K) (E1 x) h')
    (hx : ∀ h', I xs.length h' → h'[h.size]? = some (.deferred (some [])) → h.size + 2 ≤ h'.size → X { C with D := mark h.size :: C.D } .normal k Q E h') :
    X C .normal (.code (.rangeFunc g #[p] assign body) :: k) Q E h := fun a w hA hw => by
  obtain ⟨P, ρ, n, D, w0⟩ := C
  simp only at hρ hA hw hg hok hp hit hbody hass hx ⊢
  subst hρ
  have hw' := hw.heap
  subst hw'
  simp only [items]
  refine wpIn_rangeFunc fun fn _ => ?_
  let rec0 : LoopState → Loop := fun st => { state := st, pending := none, fn, tmps := a.tmps, params := #[p], assign, body, defers := w.heap.size }
  let w1 : World := (w.alloc (.deferred (some []))).alloc (.loop (rec0 .ready))
  have hw1 : w1.heap = (w.heap.push (.deferred (some []))).push (.loop (rec0 .ready)) := rfl
  have hs1 : w1.heap.size = w.heap.size + 2 := by rw [hw1]; simp
  have hD1 : w1.heap[w.heap.size]? = some (.deferred (some [])) := by rw [hw1]; simp [Array.getElem?_push]
  have hL1 : w1.heap[w.heap.size + 1]? = some (.loop (rec0 .ready)) := by rw [hw1, Array.getElem?_push, if_pos (by simp)]
  have he1 : Ext w.heap w1.heap := by
    refine ⟨by rw [hs1]; omega, fun k hk => ?_⟩
    rw [hw1, Array.getElem?_push, if_neg (by simp; omega), Array.getElem?_push, if_neg (by omega)]
  let J : Nat → Hp → Prop := fun i h' => I i h' ∧ h'[w.heap.size]? = some (.deferred (some [])) ∧ h'[w.heap.size + 1]? = some (.loop (rec0 .ready)) ∧ w.heap.size + 2 ≤ h'.size
  have hJ0 : J 0 w1.heap := ⟨h0 _ he1 hs1, hD1, hL1, by omega⟩
  have hy : ∀ i x h', xs[i]? = some x → J i h' → Yields P (w.heap.size + 1) x h' (J (i + 1)) := by
    rintro i x h' hi ⟨hI, hD, hL, hsz⟩
    refine ⟨rec0 .ready, hL, rfl, fun w2 hw2 => ?_⟩
    subst hw2
    have hdefs : ({ tmps := (#[p].zip #[x]).foldl (fun tmps (t, a) => tmps.setIfInBounds t a) a.tmps, defers := [] } : Act) = { tmps := a.tmps.setIfInBounds p x, defers := [] } := by rw [← Array.foldl_toList]; simp
    have hA2 : Agree n [] ((p, x) :: E) { tmps := a.tmps.setIfInBounds p x, defers := [] } := by
      have := (agree_defers hA []).put (d := p) (Nat.le_of_ble_eq_true hp) x
      exact this
    refine roundIn_of_wpIn (F := Fence.wide) trivial ?_
    rw [hdefs]
    have ha := hass x w2.heap w2 _ w2 hA2 (Is.refl w2)
    simp only [items] at ha
    refine wpIn_mono ha ?_
    rintro e a3 w3 ⟨rfl, hA3, hw3⟩
    have hL3 : w3.heap[w.heap.size + 1]? = some (.loop (rec0 .ready)) := by rw [hw3.heap]; exact hL
    let w4 : World := { w3 with heap := w3.heap.setIfInBounds (w.heap.size + 1) (.loop (rec0 .busy)) }
    have hbr : (Instr.beginRound (w.heap.size + 1)).run P w3 = .ok () w4 := by
      simp [Instr.beginRound, Instr.getLoop, getObj, setObj, Sem.run, hL3, rec0, w4]
    refine ⟨w4, hbr, ?_⟩
    have hlt : w.heap.size + 1 < w3.heap.size := lt_of_get hL3
    have hput : ∀ k, k ≠ w.heap.size + 1 → w4.heap[k]? = w3.heap[k]? := fun k hk => by simp [w4, Ne.symm hk]
    have hL4 : w4.heap[w.heap.size + 1]? = some (.loop (rec0 .busy)) := by simp [w4, hlt]
    have hs4 : w4.heap.size = w3.heap.size := by simp [w4]
    have hI4 : I i w4.heap := hst i w3.heap w4.heap (by rw [hw3.heap]; exact hI) hs4 hput
    have hb := hbody i x w4.heap hi hI4 (by rw [hs4, hw3.heap]; omega) w4 (fun h5 => I (i + 1) h5 ∧ w4.heap.size ≤ h5.size ∧ h5[w.heap.size]? = w4.heap[w.heap.size]? ∧ h5[w.heap.size + 1]? = w4.heap[w.heap.size + 1]?) (fun h5 a b c d => ⟨a, b, c, d⟩) a3 w4 hA3 (Is.refl w4)
    simp only [items] at hb
    refine wpIn_mono hb ?_
    rintro e a5 w5 ⟨rfl, hi5, hI5, hsz5, hD5, hL5⟩
    rw [hL4] at hL5
    rw [hput _ (by omega), hw3.heap, hD] at hD5
    let w6 : World := { w5 with heap := w5.heap.setIfInBounds (w.heap.size + 1) (.loop (rec0 .ready)) }
    have hlt5 : w.heap.size + 1 < w5.heap.size := lt_of_get hL5
    have hput6 : ∀ k, k ≠ w.heap.size + 1 → w6.heap[k]? = w5.heap[k]? := fun k hk => by simp [w6, Ne.symm hk]
    refine ⟨.bool true, w6, ?_, rfl, ?_, ?_⟩
    · simp [Instr.endRound, Instr.getLoop, getObj, setObj, Sem.run, hL5, rec0, w6]
    · exact ⟨rfl, (hi5.os).trans hw3.os, (hi5.tape).trans hw3.tape, (hi5.output).trans hw3.output, Nat.le_trans hw3.drawn hi5.drawn⟩
    · refine ⟨hst (i + 1) w5.heap w6.heap hI5 (by simp [w6]) hput6, ?_, ?_, ?_⟩
      · rw [hput6 _ (by omega)]; exact hD5
      · simp [w6, hlt5]
      · simp only [w6, Array.size_setIfInBounds]; rw [hs4, hw3.heap] at hsz5; omega
  have hcall := hit (w.heap.size + 1) J (fun i h' hj => hbel i h' hj.1) hy w1.heap hJ0
  refine ⟨w.heap.size + 1, [mark w.heap.size], w1, { target := .fn (.func gf) lb, args := #[.func (.yield (w.heap.size + 1)) #[] #[]] }, w1, gf, #[.func (.yield (w.heap.size + 1)) #[] #[]] ++ lb, w1, ?_, ?_, fun _ _ => trivial, ?_, fun hh => by simp [Fr] at hh, ?_⟩
  · simp [Instr.enterLoop, w1, rec0, mark, Fr]
  · have hc : a.eval (.const (.func (.yield (w.heap.size + 1)) #[] #[])) = .func (.yield (w.heap.size + 1)) #[] #[] := rfl
    simp [resolve, ev_eval hA hg, Deferred.ofValue, hc]
  · simp only [invoke]; exact hcall.1 _ _
  · refine callsIn_fr ((hcall.2 w1 rfl).mono ?_)
    rintro e w3 ⟨v, rfl, hi3, hI3, hD3, hL3, hsz3⟩
    have hlt : w.heap.size + 1 < w3.heap.size := lt_of_get hL3
    let w4 : World := { w3 with heap := w3.heap.setIfInBounds (w.heap.size + 1) (.loop (rec0 .exhausted)) }
    have hput : ∀ k, k ≠ w.heap.size + 1 → w4.heap[k]? = w3.heap[k]? := fun k hk => by simp [w4, Ne.symm hk]
    refine ⟨none, w4, ?_, ?_⟩
    · simp [Instr.endLoop, Instr.getLoop, getObj, setObj, Sem.run, hL3, rec0, w4]
    · have hI4 := hst xs.length w3.heap w4.heap hI3 (by simp [w4]) hput
      have := hx w4.heap hI4 (by rw [hput _ (by omega)]; exact hD3) (by simp [w4]; omega) { a with defers := mark w.heap.size :: a.defers } w4 (by rw [hA.defers]; exact agree_defers hA _)
        ⟨rfl, (hi3.os).trans hw.os, (hi3.tape).trans hw.tape, (hi3.output).trans hw.output, Nat.le_trans hw.drawn hi3.drawn⟩
      exact this

/-! ### Loops over whose rounds marks may come -/

def loopPostD {ι : Type} (C : Cx) (Inv : ι → Env) (Ds : ι → List Deferred) (I : ι → Hp → Prop) (μ : ι → Nat) (i : ι) (K : Post) : Post := fun e a w =>
  match e with
  | .normal => ∃ j h, Agree C.n (Ds j) (Inv j) a ∧ Is C.w0 h w ∧ I j h ∧ μ j < μ i
  | e => K e a w

theorem x_loopD {ι : Type} (Inv : ι → Env) (Ds : ι → List Deferred) (I : ι → Hp → Prop) (μ : ι → Nat) (i0 : ι) {c : Code} (hD : C.D = Ds i0) (hE : subs E (Inv i0)) (hI : I i0 h)
    (round : ∀ i h, I i h → ∀ K : Post, (∀ D e E' h', e ≠ .normal → X { C with D := D } e k Q E' h' → At { C with D := D } K e E' h') → X { C with D := Ds i } .normal [.code c] (loopPostD C Inv Ds I μ i K) (Inv i) h) :
    X C .normal (.code (.loop c) :: k) Q E h := fun a w hA hw => by
  simp only [items]
  intro b k' cs hro hb hr
  have hall : ∀ m i h a w, μ i = m → Agree C.n (Ds i) (Inv i) a → Is C.w0 h w → I i h →
      ∃ e a' w', items C.P C.ρ k Q e a' w' ∧ ArrivesIn (Machine.fenced C.P (Fr C.ρ)) C.P (lone (b.atR a (.code c :: .inLoop c :: k')) cs w) b k' cs e a' w' := by
    intro m
    induction m using Nat.strongRecOn with
    | _ m ih =>
      intro i h a w hm hA hw hI
      have h1 := round i h hI (items C.P C.ρ k Q) (fun D e E' h' _ hx => hx) a w hA hw
      obtain ⟨e, a1, w1, hq, harr⟩ := h1 b (.inLoop c :: k') cs hro hb hr
      have up : ∀ e, e ≠ .normal → items C.P C.ρ k Q e a1 w1 → ArrivesIn (Machine.fenced C.P (Fr C.ρ)) C.P (lone (b.atR a (.code c :: .inLoop c :: k')) cs w) b (.inLoop c :: k') cs e a1 w1 →
          ∃ e a' w', items C.P C.ρ k Q e a' w' ∧ ArrivesIn (Machine.fenced C.P (Fr C.ρ)) C.P (lone (b.atR a (.code c :: .inLoop c :: k')) cs w) b k' cs e a' w' :=
        fun e hne hq harr => ⟨e, a1, w1, hq, .pass (x := .inLoop c) rfl (fun _ _ => .inl hne) harr⟩
      cases e with
      | normal =>
        obtain ⟨j, h2, hA2, hw2, hI2, hlt⟩ := hq
        obtain ⟨e, a2, w2, hq2, harr2⟩ := ih (μ j) (hm ▸ hlt) j h2 a1 w1 rfl hA2 hw2 hI2
        exact ⟨e, a2, w2, hq2, .of_steps (StepsIn.trans harr (.one (fenced_calm hb hr rfl) stepR_inLoop)) harr2⟩
      | exit id => exact up _ (by simp) hq harr
      | goto l => exact up _ (by simp) hq harr
      | ret => exact up _ (by simp) hq harr
      | panic ch => exact up _ (by simp) hq harr
      | outgrown => exact up _ (by simp) hq harr
  obtain ⟨e, a', w', hq, harr⟩ := hall _ i0 h a w rfl (by rw [← hD]; exact hA.sub (subs_sub hE)) hw hI
  exact ⟨e, a', w', hq, .of_steps (.one (fenced_calm hb hr rfl) stepR_loop) harr⟩

theorem x_nextD {ι : Type} {Inv : ι → Env} {Ds : ι → List Deferred} {I : ι → Hp → Prop} {μ : ι → Nat} {i : ι} {K : Post} {P : Program} {ρ : Option Nat} {n : Nat} {D D0 : List Deferred} {w0 : World} (j : ι) (hD : D = Ds j) (hE : subs E (Inv j)) (hI : I j h) (hm : μ j < μ i) :
    X ⟨P, ρ, n, D, w0⟩ .normal [] (loopPostD ⟨P, ρ, n, D0, w0⟩ Inv Ds I μ i K) E h := fun _ _ hA hw => ⟨j, h, by have := hA.sub (subs_sub hE); rw [hD] at this; exact this, hw, hI, hm⟩

theorem at_loopD {ι : Type} {Inv : ι → Env} {Ds : ι → List Deferred} {I : ι → Hp → Prop} {μ : ι → Nat} {i : ι} {K : Post} {C' : Cx} {e : Exit} (he : e ≠ .normal) (hx : At C K e E h) : At C (loopPostD C' Inv Ds I μ i K) e E h := fun a w hA hw => by
  have := hx a w hA hw
  cases e <;> first | exact absurd rfl he | exact this

theorem x_exit_loopD {ι : Type} {Inv : ι → Env} {Ds : ι → List Deferred} {I : ι → Hp → Prop} {μ : ι → Nat} {i : ι} {K : Post} {id : Nat} {k2 k3 : List Item} {Q2 : Post} {P : Program} {ρ : Option Nat} {n : Nat} {D D0 : List Deferred} {w0 : World}
    (hK : ∀ D e E' h', e ≠ .normal → X ⟨P, ρ, n, D, w0⟩ e k2 Q2 E' h' → At ⟨P, ρ, n, D, w0⟩ K e E' h') (hk : noLead id k = true) (hk2 : leads id k2 = some k3) (hx : X ⟨P, ρ, n, D, w0⟩ .normal k3 Q2 E h) :
    X ⟨P, ρ, n, D, w0⟩ .normal (.code (.exit id) :: k) (loopPostD ⟨P, ρ, n, D0, w0⟩ Inv Ds I μ i K) E h :=
  x_exit_up (C := ⟨P, ρ, n, D, w0⟩) hk (at_loopD (by simp) (hK _ _ _ _ (by simp) fun a w hA hw => items_leads hk2 (hx a w hA hw)))

/-- The marks that loops over functions have left: their blocks are shut. -/
theorem at_ret_marks {fn : Func} {R : Value → Hp → Prop} {rs : List ResultVar} {ts : List Tmp} {vs : List Value} (Ds : List Nat) (hD : C.D = Ds.map mark) (hnd : Ds.Nodup)
    (hk : ∀ D ∈ Ds, h[D]? = some (.deferred (some []))) (hr : fn.results = rs.toArray) (hs : slotsOf rs = some ts) (hl : looks E ts = some vs)
    (hR : ∀ h', h'.size = h.size → (∀ k, k ∉ Ds → h'[k]? = h[k]?) → R (resultOf vs) h') {e : Exit} (he : e = .ret ∨ e = .normal) :
    At C (bodyQ C.P fn C.w0 R) e E h := fun a w hA hw => by
  refine ⟨he, ?_⟩
  rw [hA.defers, hD]
  have key : ∀ (Ds : List Nat) (h1 : Hp) (w : World), Is C.w0 h1 w → Ds.Nodup → (∀ D ∈ Ds, h1[D]? = some (.deferred (some []))) → (∀ h', h'.size = h1.size → (∀ k, k ∉ Ds → h'[k]? = h1[k]?) → R (resultOf vs) h') →
      LeavesInM Fence.wide 0 C.P fn a.tmps (fun e w' => ∃ v, e = .returned v ∧ Is C.w0 w'.heap w' ∧ R v w'.heap) (Ds.map mark) .returning w := by
    intro Ds
    induction Ds with
    | nil =>
      intro h1 w hw _ _ hR
      exact ⟨_, run_results hA hr hs hl, _, rfl, by rw [hw.heap]; exact hw, by rw [hw.heap]; exact hR _ rfl (fun _ _ => rfl)⟩
    | cons D Ds ih =>
      intro h1 w hw hnd hk hR
      have hkD := hk D (by simp)
      refine ⟨by simp, .inl ⟨D, { w with heap := w.heap.setIfInBounds D (.deferred none) }, rfl, ?_, ?_⟩⟩
      · simp only [Instr.takeDeferred, getObj, setObj, Sem.run, Bind.bind, Sem.bind, hw.heap, hkD]
        rfl
      · have hput : ∀ k, k ≠ D → (h1.setIfInBounds D (.deferred none))[k]? = h1[k]? := fun k hk => by simp [Ne.symm hk]
        have hnd' := List.nodup_cons.1 hnd
        refine ih (h1.setIfInBounds D (.deferred none)) _ ⟨by rw [← hw.heap], hw.os, hw.tape, hw.output, hw.drawn⟩ hnd'.2 (fun D' hD' => ?_) (fun h' hsz hk' => hR h' (by rw [hsz]; simp) fun k hkn => ?_)
        · rw [hput D' (fun e => hnd'.1 (e ▸ hD'))]; exact hk D' (by simp [hD'])
        · simp only [List.mem_cons, not_or] at hkn
          rw [hk' k hkn.2, hput k hkn.1]
  exact key Ds h w hw hnd hk hR
end
end Go.Gw
