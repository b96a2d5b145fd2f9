/-
  A part of the proofs of the laws of the index: what the functions of this program compute. Conditions: none beyond those that its theorems name.
-/
import Derived.Test.YtmfgiabmmdbmoaaGreatDoorGw4
/-
  THE GROUND OF THE WALKS (5): what turns the heap: new blocks, stores, slices that grow.
-/
namespace Go.Gw

structure New (h h' : Hp) (o : Obj) : Prop where
  size : h'.size = h.size + 1
  get : h'[h.size]? = some o
  old : ∀ k, k < h.size → h'[k]? = h[k]?
theorem New.of (h : Hp) (o : Obj) : New h (h.push o) o := ⟨by simp, by simp, fun k hk => by simp [Array.getElem?_push, Nat.ne_of_lt hk]⟩
theorem New.ext {h h' : Hp} {o : Obj} (n : New h h' o) : Ext h h' := ⟨by rw [n.size]; omega, n.old⟩

structure Put (h h' : Hp) (b : Nat) (o : Obj) : Prop where
  size : h'.size = h.size
  get : h'[b]? = some o
  other : ∀ k, k ≠ b → h'[k]? = h[k]?
theorem Put.bel {h h' : Hp} {b : Nat} {o : Obj} (p : Put h h' b o) {B : Nat} (hB : B ≤ b) : Bel B h h' := ⟨by rw [p.size]; omega, fun k hk => p.other k (by omega)⟩
theorem Put.keep {h h' : Hp} {b : Nat} {o : Obj} (p : Put h h' b o) {k : Nat} {x : Obj} (hk : h[k]? = some x) (hne : k ≠ b) : h'[k]? = some x := (p.other k hne).trans hk

/-- Nothing but the block of the row has turned. -/
structure Gr (h h' : Hp) (row : Option Nat) : Prop where
  size : h.size ≤ h'.size
  other : ∀ k, k < h.size → some k ≠ row → h'[k]? = h[k]?
theorem Gr.keep {h h' : Hp} {row : Option Nat} (g : Gr h h' row) {k : Nat} {x : Obj} (hk : h[k]? = some x) (hne : some k ≠ row) : h'[k]? = some x := (g.other k (lt_of_get hk) hne).trans hk
theorem Put.gr {h h' : Hp} {b : Nat} {o : Obj} (p : Put h h' b o) : Gr h h' (some b) := ⟨by rw [p.size]; omega, fun k _ hne => p.other k (by simpa using hne)⟩
theorem Ext.gr {h h' : Hp} (e : Ext h h') (row : Option Nat) : Gr h h' row := ⟨e.size, fun k hk _ => e.old k hk⟩
theorem Gr.cell {h h' : Hp} {row : Option Nat} (g : Gr h h' row) {a : Addr} {v : Value} (hc : hcell h a = some v) (hne : some a.block ≠ row) : hcell h' a = some v := by
  have hl := lt_of_hcell hc
  rw [← hc]; unfold hcell World.cell? mkW; simp only; rw [g.other _ hl hne]
theorem Gr.sl {h h' : Hp} {row : Option Nat} (g : Gr h h' row) {v : Value} {xs : List Value} (s : Sl h v xs) (hne : v.ownBlock = none ∨ v.ownBlock ≠ row) : Sl h' v xs := by
  obtain ⟨a, cap, rfl, hc, hx⟩ := s
  refine ⟨a, cap, rfl, hc, fun i x hi => ?_⟩
  obtain ⟨p, rfl, hcell⟩ := hx i x hi
  exact ⟨p, rfl, g.cell hcell (by simpa [Value.ownBlock] using hne)⟩

/-- A slice of its own, in a block from B on. -/
def Own (B : Nat) (h : Hp) (e : TypeId) (sz : Nat) (v : Value) (n : Nat) (xs : List Value) : Prop := (mkW h).ownsRow B e sz v n xs

theorem Own.nil (B : Nat) (h : Hp) (e : TypeId) (sz : Nat) : Own B h e sz (.slice none 0 0) 0 [] := World.ownsRow_nil _ _ _ _
theorem Own.lt {B : Nat} {h : Hp} {e : TypeId} {sz : Nat} {v : Value} {n : Nat} {xs : List Value} (o : Own B h e sz v n xs) : ∀ k, v.ownBlock = some k → B ≤ k ∧ k < h.size := World.ownsRow.lt o
theorem Own.gr {B : Nat} {h h' : Hp} {e : TypeId} {sz : Nat} {v : Value} {n : Nat} {xs : List Value} {row : Option Nat} (o : Own B h e sz v n xs) (g : Gr h h' row) (hne : v.ownBlock = none ∨ v.ownBlock ≠ row) : Own B h' e sz v n xs :=
  World.ownsRow.kept (w := mkW h) (w' := mkW h') o ⟨rfl, rfl, rfl, g.size, g.other⟩ hne
theorem Own.ext {B : Nat} {h h' : Hp} {e : TypeId} {sz : Nat} {v : Value} {n : Nat} {xs : List Value} (o : Own B h e sz v n xs) (x : Ext h h') : Own B h' e sz v n xs :=
  o.gr (x.gr none) (by cases hv : v.ownBlock <;> simp)
theorem Own.put {B : Nat} {h h' : Hp} {e : TypeId} {sz : Nat} {v : Value} {n : Nat} {xs : List Value} {b : Nat} {x : Obj} (o : Own B h e sz v n xs) (p : Put h h' b x) (hb : b < B) : Own B h' e sz v n xs := by
  refine o.gr p.gr ?_
  cases hv : v.ownBlock with
  | none => exact .inl rfl
  | some k => have := (o.lt k hv).1; exact .inr (by simp; omega)
theorem Own.bel {B : Nat} {h h' : Hp} {e : TypeId} {sz : Nat} {v : Value} {n : Nat} {xs : List Value} (o : Own B h e sz v n xs) (g : Gr h h' v.ownBlock) (hB : B ≤ h.size) : Bel B h h' :=
  ⟨g.size, fun k hk => g.other k (by omega) fun e => by have := (o.lt k e.symm).1; omega⟩
theorem Own.cells {B : Nat} {h : Hp} {e : TypeId} {sz : Nat} {v : Value} {n : Nat} {xs : List Value} (o : Own B h e sz v n xs) {g : Nat} (hg : v.ownBlock = some g) : Cells h ⟨g, 0, none⟩ xs := fun j u hu => World.ownsRow.cells (w := mkW h) o hg j u hu

theorem Own.sl {B : Nat} {h : Hp} {e : TypeId} {v : Value} {n : Nat} {xs : List Value} (o : Own B h e 1 v n xs) : Sl h v xs := by
  have hl := o.1
  rcases o.2 with ⟨rfl, rfl⟩ | ⟨g, cap, cur, rfl, _, _, hn, _⟩
  · have : xs = [] := List.eq_nil_of_length_eq_zero (by simpa using hl)
    subst this; exact Sl.nil h
  · have hl : xs.length = n := by simpa using hl
    subst hl
    exact ⟨_, cap, rfl, hn, fun i x hi => ⟨_, rfl, Own.cells o rfl i x hi⟩⟩

section ops
variable {C : Cx} {T : List (Nat × TI)} {all rest : List Oper} {K : Env → Hp → Prop} {E : Env} {h : Hp} {ty : TypeId} {pos : String} {af : Array Edge} {d : Tmp} {dst : Option Tmp} {t : TypeId}

theorem is_alloc {w0 w : World} {h : Hp} (hw : Is w0 h w) (o : Obj) : Is w0 (h.push o) (w.alloc o) := ⟨by rw [← hw.heap]; rfl, hw.os, hw.tape, hw.output, hw.drawn⟩

theorem ops_alloc {ti : TI} {zs : List Value} (hT : TabOk C.P T) (ht : lookT T t = some ti) (hz : ti.zero.cells = ⟨zs⟩) (hd : Nat.blt d C.n = true)
    (hk : ∀ h', New h h' (.cells ⟨zs⟩ t) → Ops C all rest K ((d, .pointer (some ⟨h.size, 0, none⟩)) :: E) h') : Ops C all (⟨some d, .alloc t, ty, pos, af, none⟩ :: rest) K E h := by
  obtain ⟨i, hi, _, _, hzi⟩ := (tab_look hT ht).info
  refine ops_value (h' := h.push (.cells ⟨zs⟩ t)) (v := .pointer (some ⟨h.size, 0, none⟩)) rfl (by simp) hd (fun a w hA hw => ⟨w.alloc (.cells ⟨zs⟩ t), ?_, is_alloc hw _⟩) (hk _ (New.of h _))
  have e := hw.heap; subst e
  simp [execOp, Instr.alloc, zeroValue, run_typeInfo' hi, hzi, newVar, newRow, hz]

theorem ops_box {x : Operand} {v : Value} {zs : List Value} (hx : ev E x = some v) (hz : v.cells = ⟨zs⟩) (hd : Nat.blt d C.n = true)
    (hk : ∀ h', New h h' (.cells ⟨zs⟩ t) → Ops C all rest K ((d, .pointer (some ⟨h.size, 0, none⟩)) :: E) h') : Ops C all (⟨some d, .box t x, ty, pos, af, none⟩ :: rest) K E h := by
  refine ops_value (h' := h.push (.cells ⟨zs⟩ t)) (v := .pointer (some ⟨h.size, 0, none⟩)) rfl (by simp) hd (fun a w hA hw => ⟨w.alloc (.cells ⟨zs⟩ t), ?_, is_alloc hw _⟩) (hk _ (New.of h _))
  have e := hw.heap; subst e
  simp [execOp, Instr.box, ev_eval hA hx, newVar, newRow, hz]

theorem setRow_put {w0 w : World} {h : Hp} (hw : Is w0 h w) {g : Nat} {cur : Array Value} {e : TypeId} {fz : Nat × Nat} (hg : h[g]? = some (.cells cur e fz)) (cs : Array Value) :
    ∃ h', Is w0 h' (w.setRow g cs) ∧ Put h h' g (.cells cs e fz) := by
  refine ⟨(w.setRow g cs).heap, ⟨rfl, hw.os, hw.tape, hw.output, hw.drawn⟩, ?_, ?_, ?_⟩
  · rw [← hw.heap]; simp [World.setRow]
  · exact setRow_heap w g cur cs e fz (by rw [hw.heap]; exact hg)
  · intro k hk; rw [← hw.heap]; exact setRow_other w g k cs (fun e => hk (by first | exact e | exact e.symm))

theorem ops_store {ti : TI} {x y : Operand} {b o : Nat} {v : Value} {vs cs cs' : List Value} {e : TypeId} (hT : TabOk C.P T) (ht : lookT T t = some ti) (hx : ev E x = some (.pointer (some ⟨b, o, none⟩))) (hy : ev E y = some v)
    (hv : v.cells = ⟨vs⟩) (hs : ti.size = vs.length) (h1 : vs.all (·.oneCell') = true) (hb : h[b]? = some (.cells ⟨cs⟩ e (0, 0))) (hle : o + vs.length ≤ cs.length) (hcs : patch cs o vs = cs')
    (hk : ∀ h', Put h h' b (.cells ⟨cs'⟩ e (0, 0)) → Ops C all rest K E h') : Ops C all (⟨none, .store t x y, ty, pos, af, none⟩ :: rest) K E h := fun a w hA hw => by
  obtain ⟨i, hi, hsz, _, hzi⟩ := (tab_look hT ht).info
  obtain ⟨h', hw', hp⟩ := setRow_put hw hb ⟨cs'⟩
  refine ops_done (h' := h') rfl (by simp) rfl (fun a w hA hw => ?_) (hk _ hp) a w hA hw
  have hb' : w.heap[b]? = some (.cells ⟨cs⟩ e (0, 0)) := by rw [hw.heap]; exact hb
  have hst := run_storeCells_at C.P b o e vs 0 ⟨cs⟩ w hb' (by simpa using hle) (fun u hu => List.all_eq_true.1 h1 u hu)
  obtain ⟨h2, hw2, hp2⟩ := setRow_put hw hb ⟨cs'⟩
  have : h2 = h' := by
    apply Array.ext_getElem?
    intro k
    by_cases hkb : k = b
    · subst hkb; rw [hp.get, hp2.get]
    · rw [hp.other k hkb, hp2.other k hkb]
  subst this
  refine ⟨_, ?_, hw2⟩
  simp only [Nat.add_zero] at hst
  have hpat : (cs.take o ++ vs ++ cs.drop (o + vs.length)) = cs' := by rw [← hcs]; simp [patch]
  rw [hpat] at hst
  simp [execOp, Instr.storeAt, ev_eval hA hx, ev_eval hA hy, Instr.sureAddr, storeVar, sizeOf, run_typeInfo' hi, hsz, hs, hv, hst]

theorem made_eq {zs : List Value} : ∀ (n : Nat), madeCells ⟨zs⟩ (n * zs.length) = ⟨(List.replicate n zs).flatten⟩ := by
  intro n
  apply Array.ext'
  apply List.ext_getElem?
  intro j
  simp only [madeCells, Array.toList_map, Array.toList_range, List.getElem?_map]
  rcases Nat.lt_or_ge j (n * zs.length) with hj | hj
  · have hpos : 0 < zs.length := by rcases Nat.eq_zero_or_pos zs.length with h0 | h0; (rw [h0] at hj; omega); exact h0
    have hm : j % zs.length < zs.length := Nat.mod_lt _ hpos
    rw [List.getElem?_range hj, Option.map_some]
    have h1 : (⟨zs⟩ : Array Value)[j % (⟨zs⟩ : Array Value).size]! = zs[j % zs.length] := by simp [hm]
    rw [h1]
    clear h1
    induction n generalizing j with
    | zero => omega
    | succ n ih =>
      simp only [List.replicate_succ, List.flatten_cons]
      rcases Nat.lt_or_ge j zs.length with hj2 | hj2
      · rw [List.getElem?_append_left hj2]; simp [Nat.mod_eq_of_lt hj2, hj2]
      · rw [List.getElem?_append_right hj2]
        have e : (j - zs.length) % zs.length = j % zs.length := by rw [← Nat.mod_eq_sub_mod hj2]
        have := ih (j - zs.length) (by rw [Nat.add_mul] at hj; omega) (Nat.mod_lt _ hpos)
        rw [← this]; simp [e]
  · rw [List.getElem?_eq_none (by simpa using hj), List.getElem?_eq_none (by simpa using hj)]; rfl

/-- A slice with its parts. -/
theorem ops_buildSlice {ti tie : TI} {e esz eb : Nat} {len : Nat} {parts : List (Nat × Operand)} {vs : List (Nat × Value)} {zs cs : List Value} (hT : TabOk C.P T) (ht : lookT T t = some ti) (hk' : ti.kind = .slice e esz eb)
    (hte : lookT T e = some tie) (hz : tie.zero.cells = ⟨zs⟩) (hzs : zs.length = esz) (hp : evParts E parts = some vs) (hmax : Nat.blt (len * esz) 16777217 = true)
    (hf : fillS (fun i => some (scl i esz, esz)) (List.replicate len zs).flatten vs = some cs) (hd : Nat.blt d C.n = true)
    (hk : ∀ h', New h h' (.cells ⟨cs⟩ e) → Ops C all rest K ((d, .slice (some ⟨h.size, 0, none⟩) len len) :: E) h') : Ops C all (⟨some d, .buildSlice t len parts.toArray, ty, pos, af, none⟩ :: rest) K E h := by
  have hti := (tab_look hT ht).1
  rw [hk'] at hti
  obtain ⟨hu, hes⟩ := hti
  obtain ⟨i, hi, _, _, hzi⟩ := (tab_look hT hte).info
  refine ops_value (h' := h.push (.cells ⟨cs⟩ e)) (v := .slice (some ⟨h.size, 0, none⟩) len len) rfl (by simp) hd (fun a w hA hw => ⟨w.alloc (.cells ⟨cs⟩ e), ?_, is_alloc hw _⟩) (hk _ (New.of h _))
  have e := hw.heap; subst e
  have hsz := run_sizeOf' (P := C.P) (w := w) (size_of_two hes)
  have hpm : parts.toArray.map (fun (i, x) => (i, a.eval x)) = ⟨vs⟩ := by have := evParts_eval hA hp; simpa using this
  have hf' := fillS_sound hf
  simp only [scl_eq] at hf'
  have hmax' : ¬ (16777216 < len * esz) := by have := Nat.le_of_ble_eq_true hmax; omega
  by_cases h0 : len * esz = 0
  · have hfl : (List.replicate len zs).flatten = [] := by
      have : ((List.replicate len zs).flatten).length = 0 := by simp [hzs, h0]
      exact List.eq_nil_of_length_eq_zero this
    rw [hfl] at hf'
    simp [execOp, hpm, Instr.buildSlice, run_underlying' hu, hsz, h0, hf', newRow, Array.range_zero']
  · have hm := made_eq (zs := zs) len
    rw [hzs] at hm
    have hm' : (Array.range (len * esz)).map ((⟨zs⟩ : Array Value)[· % (⟨zs⟩ : Array Value).size]!) = ⟨(List.replicate len zs).flatten⟩ := hm
    rw [← hm'] at hf'
    simp only [execOp, hpm, Instr.buildSlice, Sem.run_bind, run_underlying' hu, Result.andThen_ok, hsz]
    rw [if_neg (by simpa using hmax')]
    simp only [Sem.run_bind, Sem.run_pure, Result.andThen_ok, h0, if_false, zeroValue, run_typeInfo' hi, hzi, hz, hf']
    simp [newRow]

/-- Made: so many zeros. -/
theorem ops_make {ti tie : TI} {e esz eb : Nat} {x y : Operand} {kl kc : IntKind} {l c : Int} {z : Value} (hT : TabOk C.P T) (ht : lookT T t = some ti) (hk' : ti.kind = .slice e esz eb) (hte : lookT T e = some tie) (hz : tie.zero.cells = ⟨[z]⟩) (hs : tie.size = 1)
    (hx : ev E x = some (.int kl l)) (hy : ev E y = some (.int kc c)) (hb : 0 ≤ l ∧ l ≤ c ∧ (tie.bytes : Int) * c ≤ 281474976710656 ∧ c ≤ 9223372036854775807) (hd : Nat.blt d C.n = true)
    (hk : ∀ h', New h h' (.cells ⟨List.replicate c.toNat z⟩ e) → Ops C all rest K ((d, .slice (some ⟨h.size, 0, none⟩) l.toNat c.toNat) :: E) h') : Ops C all (⟨some d, .makeSlice t x y, ty, pos, af, none⟩ :: rest) K E h := by
  have hti := (tab_look hT ht).1
  rw [hk'] at hti
  obtain ⟨hu, hes⟩ := hti
  obtain ⟨i, hi, hsz, hby, hzi⟩ := (tab_look hT hte).info
  refine ops_value (h' := h.push (.cells ⟨List.replicate c.toNat z⟩ e)) (v := .slice (some ⟨h.size, 0, none⟩) l.toNat c.toNat) rfl (by simp) hd (fun a w hA hw => ⟨w.alloc (.cells ⟨List.replicate c.toNat z⟩ e), ?_, is_alloc hw _⟩) (hk _ (New.of h _))
  have e := hw.heap; subst e
  have := run_make (P := C.P) w t e i tie.zero hu hi hzi kl kc l c hb.1 hb.2.1 (by rw [hby]; exact hb.2.2.1) hb.2.2.2
  have hm := made_eq (zs := [z]) c.toNat
  simp only [List.length_singleton, Nat.mul_one] at hm
  rw [hz, hsz, hs, Nat.mul_one, hm] at this
  have hfl : (List.replicate c.toNat [z]).flatten = List.replicate c.toNat z := by
    induction c.toNat with
    | zero => rfl
    | succ n ih => simp [List.replicate_succ, ih]
  rw [hfl] at this
  simp [execOp, ev_eval hA hx, ev_eval hA hy, this]

theorem gr_of {w0 w w' : World} {h : Hp} {row : Option Nat} (hw : Is w0 h w) (g : w.grownBy w' row) (hd : w.drawn ≤ w'.drawn) : Is w0 w'.heap w' ∧ Gr h w'.heap row :=
  ⟨⟨rfl, g.os.trans hw.os, g.tape.trans hw.tape, g.output.trans hw.output, Nat.le_trans hw.drawn hd⟩, ⟨by rw [← hw.heap]; exact g.size, fun k hk hne => by rw [← hw.heap] at hk ⊢; exact g.block k hk hne⟩⟩

theorem own_of {w : World} {h : Hp} (hw : w.heap = h) {B : Nat} {e : TypeId} {sz : Nat} {v : Value} {n : Nat} {xs : List Value} : Own B h e sz v n xs ↔ w.ownsRow B e sz v n xs := by
  subst hw; exact Iff.rfl

/-- Behind a slice of its own: what another slice holds. -/
theorem ops_append {ti tie : TI} {e esz eb B n m : Nat} {s x : Operand} {v y : Value} {xs news : List Value} (hT : TabOk C.P T) (ht : lookT T t = some ti) (hk' : ti.kind = .slice e esz eb) (hte : lookT T e = some tie)
    (hzs : Nat.beq tie.zero.cells.toList.length tie.size = true) (hpos : Nat.blt 0 tie.size = true) (hes : tie.size = esz) (hs : ev E s = some v) (hx : ev E x = some y) (hown : Own B h e esz v n xs)
    (hy : ∃ ad c, y = .slice ad m c ∧ news.length = m * esz ∧ ∀ j u, news[j]? = some u → ∃ p, ad = some p ∧ hcell h (p.add j) = some u) (h1 : news.all (·.oneCell') = true)
    (hbig : n + m ≤ 9223372036854775807 ∧ (n + m) * tie.bytes ≤ 140737488355328) (hB : B ≤ h.size) (hd : Nat.blt d C.n = true)
    (hk : ∀ v' h', Own B h' e esz v' (n + m) (xs ++ news) → Gr h h' v.ownBlock → (v'.ownBlock = v.ownBlock ∨ v'.ownBlock = some h.size) → Ops C all rest K ((d, v') :: E) h') :
    Ops C all (⟨some d, .call { callee := .builtin .append, args := ⟨[s, x]⟩, argTypes := ⟨[t, t]⟩ }, ty, pos, af, none⟩ :: rest) K E h := by
  have hti := (tab_look hT ht).1
  rw [hk'] at hti
  obtain ⟨hu, hes'⟩ := hti
  obtain ⟨i, hi, hsz, hby, hzi⟩ := (tab_look hT hte).info
  obtain ⟨ad, c, rfl, hl, hnews⟩ := hy
  refine ops_some rfl (by simp) fun a w hA hw => ?_
  have hw' := hw.heap
  have hv := ev_eval hA hs
  have hxv := ev_eval hA hx
  have hzs' := Nat.eq_of_beq_eq_true hzs
  have hpos' := Nat.le_of_ble_eq_true hpos
  cases ad with
  | none =>
    have hm : m = 0 := by
      rcases Nat.eq_zero_or_pos m with h0 | h0
      · exact h0
      · have : 0 < news.length := by rw [hl]; exact Nat.mul_pos h0 (by omega)
        obtain ⟨p, hp, _⟩ := hnews 0 news[0] (by simp [this])
        cases hp
    subst hm
    have hn0 : news = [] := List.eq_nil_of_length_eq_zero (by simpa using hl)
    subst hn0
    refine ⟨v, w, h, ?_, hw, hd, hk v h (by simpa using hown) ⟨Nat.le_refl _, fun _ _ _ => rfl⟩ (.inl rfl)⟩
    rcases hown.2 with ⟨rfl, rfl⟩ | ⟨g, cap, cur, rfl, _, _, hnc, _⟩
    · simp [execOp, resolve, invoke, builtin, hv, hxv, Builtin.append_, run_underlying' hu, sizeOf, run_typeInfo' hi, Builtin.lenOf, Builtin.firstCells]
    · simp [execOp, resolve, invoke, builtin, hv, hxv, Builtin.append_, run_underlying' hu, sizeOf, run_typeInfo' hi, Builtin.lenOf, Builtin.firstCells, hnc, storeCells]
  | some p =>
    obtain ⟨v', w', hr, h2, h3, h4⟩ := run_append_own (P := C.P) w B t ty e i tie.zero esz tie.bytes hu hi hzi (by rw [hsz, hes]) hby (by simpa [hes] using hzs') (by omega) v n xs ((own_of hw').1 hown) p m c news hl
      (fun j u hj => by obtain ⟨q, hq, hc⟩ := hnews j u hj; cases hq; rw [cell_of hw']; exact hc) (fun u hu => List.all_eq_true.1 h1 u hu) (by simpa [maxLen] using hbig.1) hbig.2 (by rw [hw']; exact hB)
    have hblk : (v'.ownBlock = v.ownBlock ∨ v'.ownBlock = some h.size) ∧ w.drawn ≤ w'.drawn := by
      have hnews' : ∀ j u, news[j]? = some u → w.cell? (p.add j) = some u := fun j u hj => by obtain ⟨q, hq, hc⟩ := hnews j u hj; cases hq; rw [cell_of hw']; exact hc
      have hsz' : i.size = esz := by rw [hsz, hes]
      subst hsz'
      rcases hown.2 with ⟨rfl, rfl⟩ | ⟨g, cap, cur, rfl, _, hg0, hnc, hcm, hcs, htake⟩
      · rcases Nat.eq_zero_or_pos m with hm | hm
        · subst hm
          have hn0 : news = [] := List.eq_nil_of_length_eq_zero (by simpa using hl)
          subst hn0
          have hr2 : (Builtin.append_ #[t, t] ty #[.slice none 0 0, .slice (some p) 0 c]).run C.P w = .ok (.slice none 0 0) w := by
            simp [Builtin.append_, run_underlying' hu, sizeOf, run_typeInfo' hi, Builtin.lenOf, Builtin.firstCells, loadCells, loadCellsFrom]
          rw [hr2] at hr
          cases hr
          exact ⟨.inl rfl, Nat.le_refl _⟩
        · have hr2 := run_append_nil (P := C.P) w t ty e i tie.zero hu hi hzi p m c news hl hnews' hm (by have := hbig.1; omega) (by rw [hby]; have hb := hbig.2; simp only [Nat.zero_add] at hb; omega)
          rw [hr2] at hr
          cases hr
          exact ⟨.inr (by rw [← hw']; rfl), Nat.le_succ _⟩
      · by_cases hroom : n + m ≤ cap
        · have hg0' : w.heap[g]? = some (.cells cur e (0, 0)) := by rw [hw']; exact hg0
          have hfit : n * i.size + news.length ≤ cur.size := by rw [hl, hcs, ← Nat.add_mul]; exact Nat.mul_le_mul_right _ hroom
          have hr2 := run_append_room (P := C.P) w t ty e i hu hi g n cap cur hg0' p m c news hl hnews' (fun u hu => List.all_eq_true.1 h1 u hu) hroom hfit
          rw [hr2] at hr
          cases hr
          exact ⟨.inl rfl, Nat.le_refl _⟩
        · have holds : ∀ j u, xs[j]? = some u → w.cell? ((⟨g, 0, none⟩ : Addr).add j) = some u := World.ownsRow.cells ((own_of hw').1 hown) (g := g) rfl
          have hr2 := run_append_grow (P := C.P) w t ty e i tie.zero hu hi hzi ⟨g, 0, none⟩ n cap xs hown.1 holds p m c news hl hnews' (by omega) (by have := hbig.1; omega) (growslice_fits (by omega) (by rw [hby]; exact hbig.2))
          rw [hr2] at hr
          cases hr
          exact ⟨.inr (by rw [← hw']; rfl), Nat.le_succ _⟩
    obtain ⟨hblk, hdr⟩ := hblk
    obtain ⟨hw2, hg⟩ := gr_of hw h3 hdr
    refine ⟨v', w', w'.heap, ?_, hw2, hd, hk v' _ h2 hg hblk⟩
    simp [execOp, resolve, invoke, builtin, hv, hxv, hr]

/-- A slice without room (cut to its length), of one cell each: always a new block. -/
theorem ops_append_cut {ti tie : TI} {e eb m : Nat} {s x : Operand} {y : Value} {xs news : List Value} {ad0 : Option Addr} {n : Nat} (hT : TabOk C.P T) (ht : lookT T t = some ti) (hk' : ti.kind = .slice e 1 eb) (hte : lookT T e = some tie)
    (hes : tie.size = 1) (hs : ev E s = some (.slice ad0 n n)) (hx : ev E x = some y) (hown : Sl h (.slice ad0 n n) xs)
    (hy : Sl h y news) (hm : news.length = m + 1) (hbig : n + (m + 1) ≤ 9223372036854775807 ∧ (n + (m + 1)) * tie.bytes ≤ 140737488355328) (hd : Nat.blt d C.n = true)
    (hk : ∀ v' h', Ext h h' → Sl h' v' (xs ++ news) → Ops C all rest K ((d, v') :: E) h') :
    Ops C all (⟨some d, .call { callee := .builtin .append, args := ⟨[s, x]⟩, argTypes := ⟨[t, t]⟩ }, ty, pos, af, none⟩ :: rest) K E h := by
  have hti := (tab_look hT ht).1
  rw [hk'] at hti
  obtain ⟨hu, hes'⟩ := hti
  obtain ⟨i, hi, hsz, hby, hzi⟩ := (tab_look hT hte).info
  obtain ⟨ad, c, rfl, hc, hnews⟩ := hy
  obtain ⟨_, _, hv0, _, hold⟩ := hown
  cases hv0
  refine ops_some rfl (by simp) fun a w hA hw => ?_
  have hw' := hw.heap
  subst hw'
  have hv := ev_eval hA hs
  have hxv := ev_eval hA hx
  have h1 : i.size = 1 := by rw [hsz, hes]
  obtain ⟨p, rfl, _⟩ := hnews 0 news[0] (by simp [hm])
  have hnews' : ∀ j u, news[j]? = some u → w.cell? (p.add j) = some u := fun j u hj => by obtain ⟨q, hq, hc⟩ := hnews j u hj; cases hq; exact hc
  have hlen : news.length = news.length * i.size := by rw [h1, Nat.mul_one]
  have fin : ∀ (cap : Nat) (rest' : Array Value), xs.length + news.length ≤ cap → (Builtin.append_ #[t, t] ty #[.slice ad0 xs.length xs.length, .slice (some p) news.length c]).run C.P w = .ok (.slice (some ⟨w.heap.size, 0, none⟩) (xs.length + news.length) cap) (w.drew.alloc (.cells (xs.toArray ++ news.toArray ++ rest') e)) →
      ∃ v w_1 h', (execOp a.eval ⟨some d, .call { callee := .builtin .append, args := ⟨[s, x]⟩, argTypes := ⟨[t, t]⟩ }, ty, pos, af, none⟩).run C.P w = Result.ok (Next.value v) w_1 ∧ Is C.w0 h' w_1 ∧ dstOk C.n (some d) = true ∧ Ops C all rest K (bind (some d) v E) h' := by
    intro cap rest' hcap hr
    have hn := New.of w.heap (.cells (xs.toArray ++ news.toArray ++ rest') e)
    refine ⟨.slice (some ⟨w.heap.size, 0, none⟩) (xs.length + news.length) cap, w.drew.alloc (.cells (xs.toArray ++ news.toArray ++ rest') e), w.heap.push (.cells (xs.toArray ++ news.toArray ++ rest') e), by simp [execOp, resolve, invoke, builtin, hv, hxv, hr], ⟨rfl, hw.os, hw.tape, hw.output, Nat.le_succ_of_le hw.drawn⟩, hd, hk _ _ hn.ext ⟨_, cap, by rw [List.length_append], by simpa using hcap, fun j u hj => ⟨_, rfl, ?_⟩⟩⟩
    rw [add_head, hcell_block hn.get]
    have hlt : j < (xs ++ news).length := (List.getElem?_eq_some_iff.1 hj).1
    rw [← hj]
    have : (xs.toArray ++ news.toArray ++ rest') = (xs ++ news ++ rest'.toList).toArray := by apply Array.ext'; simp
    rw [this]
    simp only [List.getElem?_toArray]
    rw [List.getElem?_append_left hlt]
  have hbig1 := hbig.1
  cases ad0 with
  | none =>
    have hx0 : xs = [] := by
      cases xs with
      | nil => rfl
      | cons u us => obtain ⟨_, hq, _⟩ := hold 0 u rfl; cases hq
    subst hx0
    have hr2 := run_append_nil (P := C.P) w t ty e i tie.zero hu hi hzi p news.length c news hlen hnews' (by omega) (by simp at hbig1; omega) (by rw [hby, hm]; have hb := hbig.2; simp only [List.length_nil, Nat.zero_add] at hb; omega)
    refine fin _ (Builtin.zeroCells tie.zero.cells (grownCap w news.length 0 e - news.length)) ?_ (by simpa using hr2)
    simpa using grownCap_ge w news.length 0 e
  | some q =>
    have hold' : ∀ j u, xs[j]? = some u → w.cell? (q.add j) = some u := fun j u hj => by obtain ⟨q', hq, hc⟩ := hold j u hj; cases hq; exact hc
    have hr2 := run_append_grow (P := C.P) w t ty e i tie.zero hu hi hzi q xs.length xs.length xs (by rw [h1, Nat.mul_one]) hold' p news.length c news hlen hnews' (by omega) (by omega) (growslice_fits (by omega) (by rw [hby, hm]; exact hbig.2))
    exact fin _ _ (grownCap_ge w _ _ e) hr2

/-- Copied into a row. -/
theorem ops_copy {ti : TI} {e eb g o dLen dCap : Nat} {t' : TypeId} {s x : Operand} {y : Value} {xs cs cs' : List Value} {e' : TypeId} (hT : TabOk C.P T) (ht : lookT T t = some ti) (hk' : ti.kind = .slice e 1 eb)
    (hs : ev E s = some (.slice (some ⟨g, o, none⟩) dLen dCap)) (hx : ev E x = some y) (hy : Sl h y xs) (hg : h[g]? = some (.cells ⟨cs⟩ e' (0, 0))) (hle : xs.length = dLen) (hfit : o + xs.length ≤ cs.length) (h1 : xs.all (·.oneCell') = true)
    (hcs : patch cs o xs = cs') (hd : dstOk C.n dst = true)
    (hk : ∀ h', Put h h' g (.cells ⟨cs'⟩ e' (0, 0)) → Ops C all rest K (bind dst (I xs.length) E) h') :
    Ops C all (⟨dst, .call { callee := .builtin .copy, args := ⟨[s, x]⟩, argTypes := ⟨[t, t']⟩ }, ty, pos, af, none⟩ :: rest) K E h := by
  have hti := (tab_look hT ht).1
  rw [hk'] at hti
  obtain ⟨hu, hes'⟩ := hti
  obtain ⟨ad, c, rfl, hc, hnews⟩ := hy
  refine ops_some rfl (by simp) fun a w hA hw => ?_
  have hv := ev_eval hA hs
  have hxv := ev_eval hA hx
  obtain ⟨h', hw2, hp⟩ := setRow_put hw hg ⟨cs'⟩
  have hg' : w.heap[g]? = some (.cells ⟨cs⟩ e' (0, 0)) := by rw [hw.heap]; exact hg
  have hmin : Nat.min xs.length dLen = xs.length := by rw [hle]; simp
  refine ⟨I xs.length, w.setRow g ⟨cs'⟩, h', ?_, hw2, hd, hk _ hp⟩
  cases ad with
  | none =>
    have hx0 : xs = [] := by
      cases xs with
      | nil => rfl
      | cons u us => obtain ⟨_, hq, _⟩ := hnews 0 u rfl; cases hq
    subst hx0
    have hcs2 : cs' = cs := by rw [← hcs]; simp [patch]
    subst hcs2
    have hse : w.setRow g ⟨cs'⟩ = w := setRow_self w g ⟨cs'⟩ e' (0, 0) hg'
    rw [hse]
    simp [execOp, resolve, invoke, builtin, hv, hxv, Builtin.copy_, run_underlying' hu, Builtin.lenOf, Builtin.firstCells, run_sizeOf' (size_of_two hes'), storeCells, goInt]
  | some p =>
    have hr := run_copy_row (P := C.P) w t t' ty e g o dLen dCap p xs.length c ⟨cs⟩ e' xs hu (size_of_two hes') hg' hmin.symm
      (fun j u hj => by obtain ⟨q, hq, hc⟩ := hnews j u hj; cases hq; rw [cell_of hw.heap]; exact hc) (by simpa using hfit) (fun u hu => List.all_eq_true.1 h1 u hu)
    have hpat : (cs.take o ++ xs ++ cs.drop (o + xs.length)) = cs' := by rw [← hcs]; simp [patch]
    simp only [hpat] at hr
    simp [execOp, resolve, invoke, builtin, hv, hxv, hr, goInt]

/-- Cleared, of one cell each. -/
theorem ops_clear {ti tie : TI} {e eb g o n c : Nat} {s : Operand} {cs cs' : List Value} {e' : TypeId} {z : Value} (hT : TabOk C.P T) (ht : lookT T t = some ti) (hk' : ti.kind = .slice e 1 eb) (hte : lookT T e = some tie) (hz : tie.zero.cells = ⟨[z]⟩) (h1 : z.oneCell' = true)
    (hs : ev E s = some (.slice (some ⟨g, o, none⟩) n c)) (hg : h[g]? = some (.cells ⟨cs⟩ e' (0, 0))) (hfit : o + n ≤ cs.length)
    (hcs : patch cs o (List.replicate n z) = cs') (hd : dstOk C.n dst = true)
    (hk : ∀ h', Put h h' g (.cells ⟨cs'⟩ e' (0, 0)) → Ops C all rest K (bind dst (.tuple #[]) E) h') :
    Ops C all (⟨dst, .call { callee := .builtin .clear, args := ⟨[s]⟩, argTypes := ⟨[t]⟩ }, ty, pos, af, none⟩ :: rest) K E h := by
  have hti := (tab_look hT ht).1
  rw [hk'] at hti
  obtain ⟨hu, hes'⟩ := hti
  obtain ⟨i, hi, hsz, hby, hzi⟩ := (tab_look hT hte).info
  refine ops_some rfl (by simp) fun a w hA hw => ?_
  have hv := ev_eval hA hs
  obtain ⟨h', hw2, hp⟩ := setRow_put hw hg ⟨cs'⟩
  have hg' : w.heap[g]? = some (.cells ⟨cs⟩ e' (0, 0)) := by rw [hw.heap]; exact hg
  refine ⟨.tuple #[], w.setRow g ⟨cs'⟩, h', ?_, hw2, hd, hk _ hp⟩
  cases n with
  | zero =>
    have hcs2 : cs' = cs := by rw [← hcs]; simp [patch]
    subst hcs2
    have hse : w.setRow g ⟨cs'⟩ = w := setRow_self w g ⟨cs'⟩ e' (0, 0) hg'
    rw [hse]
    simp [execOp, resolve, invoke, builtin, hv, Builtin.clear_, run_underlying' hu]
  | succ n =>
    have hst := run_storeCells_at C.P g o e' (List.replicate (n + 1) z) 0 ⟨cs⟩ w hg' (by simpa using hfit) (fun u hu => by rw [List.eq_of_mem_replicate hu]; exact h1)
    simp only [Nat.add_zero] at hst
    have hpat : (cs.take o ++ List.replicate (n + 1) z ++ cs.drop (o + (List.replicate (n + 1) z).length)) = cs' := by rw [← hcs]; simp [patch]
    rw [hpat] at hst
    have hzc : (Builtin.zeroCells tie.zero.cells (n + 1)).toList = List.replicate (n + 1) z := by
      rw [hz]
      simp only [Builtin.zeroCells, Array.toList_map, Array.toList_range]
      apply List.ext_getElem?
      intro j
      simp only [List.getElem?_map]
      rcases Nat.lt_or_ge j (n + 1) with hj | hj
      · rw [List.getElem?_range (by simpa using hj), List.getElem?_replicate, if_pos hj]; simp [Nat.mod_one]
      · rw [List.getElem?_eq_none (by simpa using hj), List.getElem?_eq_none (by simpa using hj)]; rfl
    simp [execOp, resolve, invoke, builtin, hv, Builtin.clear_, run_underlying' hu, zeroValue, run_typeInfo' hi, hzi, hzc, hst]
end ops
end Go.Gw
