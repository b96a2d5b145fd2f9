/-
  A part of the proofs of the laws of the index: what the functions of this program compute. Conditions: none beyond those that its theorems name.
-/
import Derived.Test.YtmfgiabmmdbmoaaGreatDoorGwId1
import Derived.Test.YtmfgiabmmdbmoaaGreatDoorGwSl11
import Derived.Test.YtmfgiabmmdbmoaaGreatDoorGwIx2
import Derived.Test.YtmfgiabmmdbmoaaGreatDoorGwLib1
namespace Go.Proofs.YtmfgiabmmdbmoaaGreatDoor
open Go.Gw Go.Ix

/-- index.names.form -/
theorem ok50 : FnOk Tryz.prog 50 := fnok Tryz.func50 (by kernel_rfl) rfl
set_option maxRecDepth 10000 in
theorem w50 {h : Hp} {vl : Value} {l : List Bs} (w : Bs) (hn : Small2 l) (hw : w.length ≤ 1000000) (hl : Strs h vl l) : CallsH Tryz.prog 50 #[.agg #[vl], S w] h (fun v h' => v = S (form l w) ∧ Ext h h') := by
  refine enter ok50 Tryz.func50 rfl Tryz.ntmps50 (by simp) (fun w0 => ?_)
  repeat refine x_seq ?_
  refine x_reg ?_
  refine ops_box rfl rfl rfl ?_
  intro h1 hn1
  refine go 1000 rfl trivial (ops_nil ?_)
  repeat refine x_seq ?_
  refine x_reg ?_
  refine ops_alloc tabOk rfl rfl rfl ?_
  intro h2 hn2
  refine ops_store tabOk rfl rfl rfl rfl rfl rfl hn2.get (by simp) rfl ?_
  intro h3 hp3
  refine ops_nil ?_
  have e12 : Ext h h2 := hn1.ext.trans hn2.ext
  have s1 := hn1.size
  have s2 := hn2.size
  have s3 := hp3.size
  have e3 : Ext h h3 := Bel.trans e12 (hp3.bel (by omega))
  have hb0 : h3[h.size]? = some (.cells ⟨[vl]⟩ 70 (0, 0)) := hp3.keep (hn2.ext.get hn1.get) (by omega)
  repeat refine x_seq ?_
  refine x_reg ?_
  refine ops_loads tabOk rfl rfl rfl rfl rfl (vs := [vl]) (fun j u hj => by rw [add_head, hcell_block hb0]; simpa using hj) ?_
  refine go 1 rfl trivial ?_
  refine ops_call rfl rfl rfl (w57 w) ?_
  rintro _ h4 ⟨rfl, e4, s4, hb1, hb2⟩
  refine ops_nil ?_
  repeat refine x_seq ?_
  refine x_block ?_
  repeat refine x_seq ?_
  have hnl := endings_length l w
  have hn1' := hn.1
  refine x_rangeFunc rfl rfl ok88 rfl (it88 (bn := h3.size) (bw := h3.size + 1) (vl := vl) hn hw)
    (fun i h' => Ext h h' ∧ h'[h1.size]? = some (.cells ⟨[S (semi ((endings l w).take i))]⟩ 9 (0, 0)) ∧ h'[h3.size]? = some (.cells ⟨[vl]⟩ 70 (0, 0)) ∧ h'[h3.size + 1]? = some (.cells ⟨[S w]⟩ 9 (0, 0)))
    (fun x => [(6, x), (5, .pointer (some ⟨h1.size, 0, none⟩))]) ?_ ?_ ?_ ?_ ?_ ?_
  · intro h' he _
    exact ⟨e3.trans (Ext.trans e4 he), he.get (e4.get hp3.get), he.get hb1, he.get hb2⟩
  · rintro i h' ⟨he, h1', h2', h3'⟩
    exact ⟨h2', h3', hl.ext he⟩
  · rintro i h' h'' ⟨he, h1', h2', h3'⟩ hs hk
    refine ⟨⟨by rw [hs]; exact he.size, fun k hk' => (hk k (by omega)).trans (he.old k hk')⟩, ?_, ?_, ?_⟩
    · rw [hk _ (by omega)]; exact h1'
    · rw [hk _ (by omega)]; exact h2'
    · rw [hk _ (by omega)]; exact h3'
  · intro x h' w0
    exact goes rfl trivial (x_end fun a w hA hw => ⟨rfl, hA.sub (subs_sub ⟨rfl, rfl, trivial⟩), hw⟩)
  · rintro i x h' hx ⟨he, h1', h2', h3'⟩ hsz w0 K hK
    simp only [List.getElem?_map, Option.map_eq_some_iff] at hx
    obtain ⟨e, hx, rfl⟩ := hx
    have hlt : i < (endings l w).length := (List.getElem?_eq_some_iff.1 hx).1
    have hee : (endings l w)[i] = e := (List.getElem?_eq_some_iff.1 hx).2
    have hle : e.length ≤ 1000 := ending_len hn (w := w) (by rw [← hee]; exact List.getElem_mem hlt)
    have hsl : (semi ((endings l w).take i)).length ≤ i * 1001 := by
      have := semi_len (l := (endings l w).take i) (fun s hs => ending_len hn (List.mem_of_mem_take hs))
      rw [List.length_take] at this
      exact Nat.le_trans this (Nat.mul_le_mul_right _ (Nat.min_le_left _ _))
    refine x_block ?_
    repeat refine x_seq ?_
    refine x_reg ?_
    refine ops_load tabOk rfl rfl rfl rfl (by rw [hcell_block h1']; rfl) ?_
    refine go 3 rfl ⟨by simp only [List.length_append, List.length_cons, List.length_nil]; omega, by simp only [List.length_cons, List.length_nil]; omega, trivial⟩ ?_
    refine ops_store tabOk rfl rfl rfl rfl rfl rfl h1' (by simp) rfl ?_
    intro h5 hp5
    refine ops_nil ?_
    refine x_out ?_
    refine x_end (at_endQ (C := ⟨Tryz.prog, _, _, _, _⟩) (hK h5 ⟨Bel.trans he (hp5.bel (by omega)), ?_, hp5.keep h2' (by omega), hp5.keep h3' (by omega)⟩ (by rw [hp5.size]; omega) (hp5.other _ (by omega)) (hp5.other _ (by omega))))
    rw [semi_take hlt, hee]
    exact hp5.get
  · rintro h6 ⟨he, h1', h2', h3'⟩ hD hs6
    rw [List.length_map, List.take_of_length_le (Nat.le_refl _)] at h1'
    refine x_out ?_
    repeat refine x_seq ?_
    refine x_reg ?_
    refine ops_load tabOk rfl rfl rfl rfl (by rw [hcell_block h1']; rfl) ?_
    refine go 1000 rfl trivial (ops_nil ?_)
    repeat refine x_seq ?_
    refine x_ret (at_ret_marks [h4.size] rfl (by simp) (by simpa using hD) rfl rfl rfl (fun h' hs hk => ⟨rfl, ⟨by rw [hs]; exact he.size, fun k hk' => (hk k (by simp; omega)).trans (he.old k hk')⟩⟩) (.inl rfl))

end Go.Proofs.YtmfgiabmmdbmoaaGreatDoor

namespace Go.Proofs.YtmfgiabmmdbmoaaGreatDoor
open Go.Gw Go.Ix

/-- The shelf in block b begins with the list vl. -/
def Sh0 (b : Nat) (vl : Value) (h : Hp) : Prop := ∃ r, h[b]? = some (.cells ⟨vl :: r⟩ 74 (0, 0))
theorem Sh0.cell {b : Nat} {vl : Value} {h : Hp} (s : Sh0 b vl h) : hcell h ⟨b, 0, none⟩ = some vl := by obtain ⟨r, hr⟩ := s; rw [hcell_block hr]; rfl
theorem Sh0.cells {b : Nat} {vl : Value} {h : Hp} (s : Sh0 b vl h) : Cells h ⟨b, 0, none⟩ [vl] := fun j u hj => by
  cases j with
  | zero => simp only [List.getElem?_cons_zero, Option.some.injEq] at hj; subst hj; rw [add_zero]; exact s.cell
  | succ j => simp at hj
theorem Sh0.ext {b : Nat} {vl : Value} {h h' : Hp} (s : Sh0 b vl h) (e : Ext h h') : Sh0 b vl h' := by obtain ⟨r, hr⟩ := s; exact ⟨r, e.get hr⟩
theorem Sh0.lt {b : Nat} {vl : Value} {h : Hp} (s : Sh0 b vl h) : b < h.size := by obtain ⟨r, hr⟩ := s; exact lt_of_get hr

/-- index.shelf.longest -/
theorem ok87 : FnOk Tryz.prog 87 := fnok Tryz.func87 (by kernel_rfl) rfl
set_option maxRecDepth 10000 in
theorem w87 {h : Hp} {bs : Nat} {vl : Value} {l : List Bs} (w : Bs) (hn : Small2 l) (hw : w.length ≤ 1000000) (hl : Strs h vl l) (hs : Sh0 bs vl h) : CallsH Tryz.prog 87 #[.pointer (some ⟨bs, 0, none⟩), S w] h (fun v h' => v = I (longest l w) ∧ Ext h h') := by
  refine enter ok87 Tryz.func87 rfl Tryz.ntmps87 (by simp) (fun w0 => ?_)
  repeat refine x_seq ?_
  refine goes rfl trivial ?_
  repeat refine x_seq ?_
  refine x_reg ?_
  refine ops_alloc tabOk rfl rfl rfl ?_
  intro h2 hn2
  refine ops_store tabOk rfl rfl rfl rfl rfl rfl hn2.get (by simp) rfl ?_
  intro h3 hp3
  refine ops_nil ?_
  have s2 := hn2.size
  have s3 := hp3.size
  have e3 : Ext h h3 := Bel.trans hn2.ext (hp3.bel (Nat.le_refl _))
  repeat refine x_seq ?_
  refine x_reg ?_
  refine go 3 rfl trivial ?_
  refine ops_loads tabOk rfl rfl rfl rfl rfl (vs := [vl]) (hs.ext e3).cells ?_
  refine go 1000 rfl trivial (ops_nil ?_)
  repeat refine x_seq ?_
  refine x_reg ?_
  refine go 2 rfl trivial ?_
  refine ops_call rfl rfl rfl (w57 w) ?_
  rintro _ h4 ⟨rfl, e4, s4, hb1, hb2⟩
  refine ops_nil ?_
  repeat refine x_seq ?_
  refine x_block ?_
  repeat refine x_seq ?_
  have hnl := endings_length l w
  have hn1' := hn.1
  refine x_rangeFunc rfl rfl ok88 rfl (it88 (bn := h3.size) (bw := h3.size + 1) (vl := vl) hn hw)
    (fun i h' => Ext h h' ∧ h'[h.size]? = some (.cells ⟨[I (longOf ((endings l w).take i))]⟩ 3 (0, 0)) ∧ h'[h3.size]? = some (.cells ⟨[vl]⟩ 70 (0, 0)) ∧ h'[h3.size + 1]? = some (.cells ⟨[S w]⟩ 9 (0, 0)))
    (fun x => [(7, x), (5, .pointer (some ⟨h.size, 0, none⟩))]) ?_ ?_ ?_ ?_ ?_ ?_
  · intro h' he _
    exact ⟨e3.trans (Ext.trans e4 he), he.get (e4.get hp3.get), he.get hb1, he.get hb2⟩
  · rintro i h' ⟨he, h1', h2', h3'⟩
    exact ⟨h2', h3', hl.ext he⟩
  · rintro i h' h'' ⟨he, h1', h2', h3'⟩ hs hk
    refine ⟨⟨by rw [hs]; exact he.size, fun k hk' => (hk k (by omega)).trans (he.old k hk')⟩, ?_, ?_, ?_⟩
    · rw [hk _ (by omega)]; exact h1'
    · rw [hk _ (by omega)]; exact h2'
    · rw [hk _ (by omega)]; exact h3'
  · intro x h' w0
    exact goes rfl trivial (x_end fun a w hA hw => ⟨rfl, hA.sub (subs_sub ⟨rfl, rfl, trivial⟩), hw⟩)
  · rintro i x h' hx ⟨he, h1', h2', h3'⟩ hsz w0 K hK
    simp only [List.getElem?_map, Option.map_eq_some_iff] at hx
    obtain ⟨e, hx, rfl⟩ := hx
    have hlt : i < (endings l w).length := (List.getElem?_eq_some_iff.1 hx).1
    have hee : (endings l w)[i] = e := (List.getElem?_eq_some_iff.1 hx).2
    refine x_block ?_
    repeat refine x_seq ?_
    refine x_reg ?_
    refine ops_load tabOk rfl rfl rfl rfl (by rw [hcell_block h1']; rfl) ?_
    refine go 3 rfl trivial ?_
    refine ops_store tabOk rfl rfl rfl rfl rfl rfl h1' (by simp) rfl ?_
    intro h5 hp5
    refine ops_nil ?_
    refine x_out ?_
    refine x_end (at_endQ (C := ⟨Tryz.prog, _, _, _, _⟩) (hK h5 ⟨Bel.trans he (hp5.bel (Nat.le_refl _)), ?_, hp5.keep h2' (by omega), hp5.keep h3' (by omega)⟩ (by rw [hp5.size]; omega) (hp5.other _ (by omega)) (hp5.other _ (by omega))))
    rw [longOf_take hlt, hee, ← maxI]
    exact hp5.get
  · rintro h6 ⟨he, h1', h2', h3'⟩ hD hs6
    rw [List.length_map, List.take_of_length_le (Nat.le_refl _)] at h1'
    refine x_out ?_
    repeat refine x_seq ?_
    refine x_reg ?_
    refine ops_load tabOk rfl rfl rfl rfl (by rw [hcell_block h1']; rfl) ?_
    refine go 1000 rfl trivial (ops_nil ?_)
    repeat refine x_seq ?_
    refine x_ret (at_ret_marks [h4.size] rfl (by simp) (by simpa using hD) rfl rfl rfl (fun h' hs hk => ⟨rfl, ⟨by rw [hs]; exact he.size, fun k hk' => (hk k (by simp; omega)).trans (he.old k hk')⟩⟩) (.inl rfl))

/-- (*burin/index.shelf).state -/
theorem ok85 : FnOk Tryz.prog 85 := fnok Tryz.func85 (by kernel_rfl) rfl
set_option maxRecDepth 10000 in
theorem w85 {h : Hp} {bs : Nat} {vl : Value} {l : List Bs} (w : Bs) (hn : Small2 l) (hw : w.length ≤ 1000000) (hl : Strs h vl l) (hs : Sh0 bs vl h) : CallsH Tryz.prog 85 #[.pointer (some ⟨bs, 0, none⟩), S w] h (fun v h' => v = .agg #[.bool (decide (w ∈ l)), S (form l w)] ∧ Ext h h') := by
  refine enter ok85 Tryz.func85 rfl Tryz.ntmps85 (by simp) (fun w0 => ?_)
  repeat refine x_seq ?_
  refine x_reg ?_
  refine ops_alloc tabOk rfl rfl rfl ?_
  intro h1 hn1
  refine ops_nil ?_
  repeat refine x_seq ?_
  have hs1 := hs.ext hn1.ext
  have hl1 := hl.ext hn1.ext
  have hln := hn.1
  refine x_draw [(0, true), (1, true), (2, true), (3, true), (4, true), (5, true), (7, true), (8, true), (9, true), (10, true), (11, true), (6, false), (12, false), (13, true)] [14] (Ext _) mixed (by kernel_rfl) rfl rfl (Ext.refl _) ?_
  refine sgo 4 rfl trivial ?_
  refine seq_load tabOk rfl rfl rfl rfl (fun _ e => e.cell hs1.cell) ?_
  refine sgo 4 rfl trivial ?_
  refine seq_loads tabOk rfl rfl rfl rfl rfl (fun _ e j u hj => e.cell (hs1.cells j u hj)) ?_
  refine sgo 1 rfl trivial ?_
  refine seq_act (ops_call rfl rfl rfl (w44 w (by omega) hl1) ?_)
  rintro _ _ ⟨rfl, rfl⟩
  refine ops_nil ⟨Ext.refl _, ?_⟩
  refine seq_act (ops_call rfl rfl rfl (w50 w hn hw hl1) ?_)
  rintro _ h2 ⟨rfl, he⟩
  refine ops_nil ⟨he, ?_⟩
  refine sgo 1000 rfl trivial (seq_tail ?_)
  refine ops_store (vs := [.bool (decide (w ∈ l)), S (form l w)]) (cs' := [.bool (decide (w ∈ l)), S (form l w)]) tabOk rfl rfl rfl rfl rfl rfl (he.get hn1.get) (by simp) rfl ?_
  intro h3 hp3
  refine ops_nil ?_
  repeat refine x_seq ?_
  refine x_ret (at_ret_cell tabOk rfl rfl rfl rfl rfl rfl (vs := [.bool (decide (w ∈ l)), S (form l w)]) (fun j u hj => by rw [add_head, hcell_block hp3.get]; simpa using hj) ⟨rfl, Bel.trans hn1.ext (Bel.trans (he.mono hn1.ext.size) (hp3.bel (Nat.le_refl _)))⟩ (.inl rfl))

/-- (*burin/index.shelf).states$1 -/
theorem ok73 : FnOk Tryz.prog 73 := fnok Tryz.func73 (by kernel_rfl) rfl
set_option maxRecDepth 10000 in
theorem w73 {h : Hp} {b1 b2 bs : Nat} {vl : Value} {l : List Bs} {f : Bs} (w : Bs) (hn : Small2 l) (hw : w.length ≤ 1000000) (hl : Strs h vl l) (hs : Sh0 bs vl h) (h1 : h[b1]? = some (.cells ⟨[.pointer (some ⟨bs, 0, none⟩)]⟩ 57 (0, 0))) (h2 : h[b2]? = some (.cells ⟨[S f]⟩ 9 (0, 0))) : CallsH Tryz.prog 73 #[S w, .pointer (some ⟨b1, 0, none⟩), .pointer (some ⟨b2, 0, none⟩)] h (fun v h' => v = .bool (decide (form l w = f)) ∧ Ext h h') := by
  refine enter ok73 Tryz.func73 rfl Tryz.ntmps73 (by simp) (fun w0 => ?_)
  repeat refine x_seq ?_
  refine goes rfl trivial ?_
  repeat refine x_seq ?_
  refine x_draw [(0, true), (1, true), (2, true), (3, true), (4, true), (6, true), (5, false), (7, true), (8, true)] [] (Ext _) mixed (by kernel_rfl) rfl rfl (Ext.refl _) ?_
  refine seq_load tabOk rfl rfl rfl rfl (fun _ e => e.cell (show hcell h ⟨b1, 0, none⟩ = some (.pointer (some ⟨bs, 0, none⟩)) by rw [hcell_block h1]; rfl)) ?_
  refine sgo 2 rfl trivial ?_
  refine seq_loads tabOk rfl rfl rfl rfl rfl (fun _ e j u hj => e.cell (hs.cells j u hj)) ?_
  refine sgo 1 rfl trivial ?_
  refine seq_load tabOk rfl rfl rfl rfl (fun _ e => e.cell (show hcell h ⟨b2, 0, none⟩ = some (S f) by rw [hcell_block h2]; rfl)) ?_
  refine seq_act (ops_call rfl rfl rfl (w50 w hn hw hl) ?_)
  rintro _ h5 ⟨rfl, he⟩
  refine ops_nil ⟨he, ?_⟩
  refine sgo 1000 rfl trivial (seq_tail ?_)
  refine ops_nil ?_
  repeat refine x_seq ?_
  exact x_ret (at_ret rfl rfl rfl rfl ⟨rfl, he⟩ (.inl rfl))

end Go.Proofs.YtmfgiabmmdbmoaaGreatDoor

namespace Go.Proofs.YtmfgiabmmdbmoaaGreatDoor
open Go.Gw Go.Ix

theorem w83s {h : Hp} {v : Value} {l : List Bs} (hn : l.length ≤ 1000000) (hl : Strs h v l) (fid : Nat) (cp : Array Value) (p : Bs → Bool) (hf : ∀ x ∈ l, ∀ h', Ext h h' → CallsH Tryz.prog fid (#[] ++ #[S x] ++ cp) h' (fun v h'' => v = .bool (p x) ∧ Ext h' h'')) :
    CallsH Tryz.prog 83 #[v, .func (.func fid) #[] cp] h (fun v h' => v = .bool (l.any p) ∧ Ext h h') := by
  have := w83 (xs := l.map S) (by simpa using hn) hl fid cp (strP p) (fun x hx h' he => by obtain ⟨s, hs, rfl⟩ := List.mem_map.1 hx; exact hf s hs h' he)
  rwa [any_str] at this
theorem w67s {h : Hp} {v : Value} {l : List Bs} (hn : l.length ≤ 1000000) (hl : Strs h v l) (fid : Nat) (cp : Array Value) (p : Bs → Bool) (hf : ∀ x ∈ l, ∀ h', Ext h h' → CallsH Tryz.prog fid (#[] ++ #[S x] ++ cp) h' (fun v h'' => v = .bool (p x) ∧ Ext h' h'')) :
    CallsH Tryz.prog 67 #[v, .func (.func fid) #[] cp] h (fun v h' => v = I (ix p l) ∧ Ext h h') := by
  have := w67 (xs := l.map S) (by simpa using hn) hl fid cp (strP p) (fun x hx h' he => by obtain ⟨s, hs, rfl⟩ := List.mem_map.1 hx; exact hf s hs h' he)
  rwa [ix_str] at this

/-- burin/index.odd -/
theorem ok71 : FnOk Tryz.prog 71 := fnok Tryz.func71 (by kernel_rfl) rfl
set_option maxRecDepth 10000 in
theorem w71 {h : Hp} (s : Bs) (hs : s.length ≤ 1000000) : CallsH Tryz.prog 71 #[S s] h (fun v h' => v = .bool (!letters s) ∧ Ext h h') := by
  refine enter ok71 Tryz.func71 rfl Tryz.ntmps71 (by simp) (fun w0 => ?_)
  repeat refine x_seq ?_
  refine goes rfl trivial ?_
  repeat refine x_seq ?_
  refine x_reg ?_
  refine go 1 rfl trivial ?_
  refine ops_call rfl rfl rfl (w103 s alpha hs (by decide) (by decide) (fun j b hj => by have h1 : b ∈ alpha := List.mem_of_getElem? hj; have h2 := alpha_lett b; rw [show alpha.contains b = true by simpa using h1] at h2; simp only [lett, Bool.true_eq, Bool.and_eq_true, decide_eq_true_eq] at h2; omega)) ?_
  rintro _ h2 ⟨rfl, he⟩
  refine go 1000 rfl trivial (ops_nil ?_)
  repeat refine x_seq ?_
  exact x_ret (at_ret rfl rfl rfl rfl ⟨by rw [← trim_letters]; rfl, he⟩ (.inl rfl))

/-- burin/index.rising -/
theorem ok77 : FnOk Tryz.prog 77 := fnok Tryz.func77 (by kernel_rfl) rfl
set_option maxRecDepth 10000 in
theorem w77 {h : Hp} (s : Bs) (hs : s.length ≤ 1000000) : CallsH Tryz.prog 77 #[S s] h (fun v h' => v = .bool (rising s) ∧ h' = h) := by
  refine enter ok77 Tryz.func77 rfl Tryz.ntmps77 (by simp) (fun w0 => ?_)
  repeat refine x_seq ?_
  refine goes rfl trivial ?_
  repeat refine x_seq ?_
  refine goes rfl trivial ?_
  repeat refine x_seq ?_
  refine x_block ?_
  repeat refine x_seq ?_
  refine x_loop (fun k : Nat => [(0, S s), (3, I k)]) (fun k h' => (h = h') ∧ (1 ≤ k ∧ (k ≤ s.length ∨ k = 1)) ∧ ∀ i (hi : i + 1 < s.length), i + 1 < k → s[i].toNat < s[i + 1].toNat) (fun k => s.length - k) 1 ⟨rfl, rfl, trivial⟩ ⟨rfl, by omega, by intro i _ h; omega⟩ ?_
  rintro k _ ⟨rfl, hk, hP⟩ K1 hK1
  repeat refine x_seq ?_
  refine goes rfl trivial ?_
  repeat refine x_seq ?_
  refine x_ifd rfl (fun c1 => ?_) (fun c1 => ?_)
  · repeat refine x_seq ?_
    refine x_skip ?_
    repeat refine x_seq ?_
    refine x_block ?_
    repeat refine x_seq ?_
    have hlt : k < s.length := by omega
    have e1 : ((k : Int) - 1).toNat = k - 1 := by omega
    refine x_draw [(0, true), (1, true), (2, true), (3, true), (4, true), (5, true), (6, true), (7, true)] [] (· = _) mixed (by kernel_rfl) rfl rfl rfl ?_
    refine sgo 1000 rfl ⟨by first | omega | (simp only [inK]; omega), by first | omega | (simp only [inK]; omega), by first | omega | (simp only [inK]; omega), trivial⟩ (seq_tail ?_)
    refine ops_nil ?_
    repeat refine x_seq ?_
    refine x_ifd rfl (fun c2 => ?_) (fun c2 => ?_)
    · repeat refine x_seq ?_
      refine goes rfl trivial ?_
      repeat refine x_seq ?_
      exact x_ret (at_ret_loop hK1 (at_ret rfl rfl rfl rfl ⟨by rw [rising_f hlt hk.1 (by simp only [e1, Int.toNat_natCast] at c2; omega)]; rfl, rfl⟩ (.inl rfl)))
    · repeat refine x_seq ?_
      refine x_skip ?_
      refine x_out ?_
      repeat refine x_seq ?_
      refine goes rfl ⟨by first | omega | (simp only [inK]; omega), trivial⟩ ?_
      refine x_next (k + 1) ⟨rfl, rfl, trivial⟩ ⟨rfl, by omega, rising_step hlt hk.1 (by simp only [e1, Int.toNat_natCast] at c2; omega) hP⟩ (by omega)
  · repeat refine x_seq ?_
    refine x_exit_loop hK1 rfl rfl ?_
    repeat refine x_seq ?_
    refine goes rfl trivial ?_
    repeat refine x_seq ?_
    exact x_ret (at_ret rfl rfl rfl rfl ⟨by rw [rising_t (fun i hi => hP i hi (by omega))]; rfl, rfl⟩ (.inl rfl))

/-- burin/index.CheckList$1 -/
theorem ok82 : FnOk Tryz.prog 82 := fnok Tryz.func82 (by kernel_rfl) rfl
set_option maxRecDepth 10000 in
theorem w82 {h : Hp} (s : Bs) (hs : s.length ≤ 1000000) : CallsH Tryz.prog 82 #[S s] h (fun v h' => v = .bool (badName s) ∧ Ext h h') := by
  refine enter ok82 Tryz.func82 rfl Tryz.ntmps82 (by simp) (fun w0 => ?_)
  repeat refine x_seq ?_
  refine goes rfl trivial ?_
  repeat refine x_seq ?_
  refine x_reg ?_
  refine go 3 rfl trivial ?_
  refine ops_dec 5 rfl (fun c1 => ?_) (fun c1 => ?_)
  · refine go 1000 rfl trivial (ops_nil ?_)
    repeat refine x_seq ?_
    exact x_ret (at_ret rfl rfl rfl rfl ⟨by simp [resultOf, badName, c1], Ext.refl _⟩ (.inl rfl))
  · refine go 1 rfl trivial ?_
    refine ops_guard_yes rfl rfl rfl ?_
    refine ops_call rfl rfl rfl (w71 s hs) ?_
    rintro _ h2 ⟨rfl, he⟩
    refine go 1000 rfl trivial (ops_nil ?_)
    repeat refine x_seq ?_
    exact x_ret (at_ret rfl rfl rfl rfl ⟨by simp [resultOf, badName, c1], he⟩ (.inl rfl))

/-- (*burin/index.shelf).apart$1 -/
theorem ok59 : FnOk Tryz.prog 59 := fnok Tryz.func59 (by kernel_rfl) rfl
set_option maxRecDepth 10000 in
theorem w59 {h : Hp} (a b : Bs) (ha : a.length ≤ 1000000) (hb : b.length ≤ 1000000) : CallsH Tryz.prog 59 #[S a, S b] h (fun v h' => v = I (orI [(a.length : Int) - b.length, Lib.compareBytes a b]) ∧ Ext h h') := by
  refine enter ok59 Tryz.func59 rfl Tryz.ntmps59 (by simp) (fun w0 => ?_)
  repeat refine x_seq ?_
  refine goes rfl trivial ?_
  repeat refine x_seq ?_
  refine x_reg ?_
  refine go 7 rfl ⟨by first | omega | (simp only [inK]; omega), trivial⟩ ?_
  refine ops_call rfl rfl rfl (w61 a b) ?_
  rintro _ _ ⟨rfl, rfl⟩
  refine ops_buildSlice tabOk rfl rfl rfl rfl rfl rfl rfl rfl rfl ?_
  intro h1 hn1
  refine ops_call rfl rfl rfl (w60 (l := [(a.length : Int) - b.length, Lib.compareBytes a b]) (by simp) (Sl.of_new hn1 rfl (Nat.le_refl _))) ?_
  rintro _ _ ⟨rfl, rfl⟩
  refine go 1000 rfl trivial (ops_nil ?_)
  repeat refine x_seq ?_
  exact x_ret (at_ret rfl rfl rfl rfl ⟨rfl, hn1.ext⟩ (.inl rfl))

/-- burin/index.checkWord -/
theorem ok49 : FnOk Tryz.prog 49 := fnok Tryz.func49 (by kernel_rfl) rfl
set_option maxRecDepth 10000 in
theorem w49 {h : Hp} {v : Value} {l : List Bs} (hn : Small l) (hl : Strs h v l) : CallsH Tryz.prog 49 #[v] h (fun v h' => v = I (wordsErr l) ∧ Ext h h') := by
  obtain ⟨a, cap, rfl, hcap, hl⟩ := hl.op
  have hn1 := hn.1
  refine enter ok49 Tryz.func49 rfl Tryz.ntmps49 (by simp) (fun w0 => ?_)
  repeat refine x_seq ?_
  refine goes rfl trivial ?_
  repeat refine x_seq ?_
  refine goes rfl trivial ?_
  repeat refine x_seq ?_
  refine x_block ?_
  repeat refine x_seq ?_
  refine x_loop (fun k : Nat => [(5, .slice a l.length cap), (6, I l.length), (7, I k)]) (fun k h' => (Ext h h') ∧ (k ≤ l.length) ∧ ∀ x ∈ l.take k, wordErr x = 0) (fun k => l.length - k) 0 ⟨rfl, rfl, rfl, trivial⟩ ⟨Ext.refl h, by omega, by simp⟩ ?_
  rintro k h1 ⟨he, hk, hP⟩ K1 hK1
  repeat refine x_seq ?_
  refine goes rfl trivial ?_
  repeat refine x_seq ?_
  refine x_ifd rfl (fun c1 => ?_) (fun c1 => ?_)
  · repeat refine x_seq ?_
    refine x_skip ?_
    repeat refine x_seq ?_
    refine x_block ?_
    repeat refine x_seq ?_
    have hlt : k < l.length := by omega
    obtain ⟨q, rfl, hq⟩ := hl k hlt
    have hq := he.cell hq
    refine x_reg ?_
    refine go 1 rfl ⟨by first | omega | (simp only [inK]; omega), trivial⟩ ?_
    refine ops_load tabOk rfl rfl rfl rfl (by assumption) ?_
    refine go 1000 rfl trivial (ops_nil ?_)
    repeat refine x_seq ?_
    refine x_block ?_
    repeat refine x_seq ?_
    refine x_reg ?_
    refine go 1 rfl trivial ?_
    refine ops_call rfl rfl rfl (w70 _) ?_
    rintro _ _ ⟨rfl, rfl⟩
    refine go 1000 rfl trivial (ops_nil ?_)
    repeat refine x_seq ?_
    refine x_ifd rfl (fun c2 => ?_) (fun c2 => ?_)
    · repeat refine x_seq ?_
      refine goes rfl trivial ?_
      repeat refine x_seq ?_
      exact x_ret (at_ret_loop hK1 (at_ret rfl rfl rfl rfl ⟨by have e7 : wordErr l[k] = 7 := wordErr_7 (by omega); rw [wordsErr_at hlt hP (by rw [e7]; decide), e7]; rfl, he⟩ (.inl rfl)))
    · repeat refine x_seq ?_
      refine x_reg ?_
      refine go 1 rfl trivial ?_
      refine ops_call rfl rfl rfl (w71 _ (hn.at hlt)) ?_
      rintro _ h2 ⟨rfl, he2⟩
      refine go 1000 rfl trivial (ops_nil ?_)
      repeat refine x_seq ?_
      refine x_if rfl (fun c3 => ?_) (fun c3 => ?_)
      · repeat refine x_seq ?_
        refine goes rfl trivial ?_
        repeat refine x_seq ?_
        exact x_ret (at_ret_loop hK1 (at_ret rfl rfl rfl rfl ⟨by have e8 : wordErr l[k] = 8 := wordErr_8 (by omega) (by simpa using c3); rw [wordsErr_at hlt hP (by rw [e8]; decide), e8]; rfl, he.trans he2⟩ (.inl rfl)))
      · repeat refine x_seq ?_
        refine x_skip ?_
        refine x_out ?_
        refine x_out ?_
        repeat refine x_seq ?_
        refine goes rfl ⟨by first | omega | (simp only [inK]; omega), trivial⟩ ?_
        refine x_next (k + 1) ⟨rfl, rfl, rfl, trivial⟩ ⟨he.trans he2, by omega, all_take hlt hP (wordErr_0 (by omega) (by simpa using c3))⟩ (by omega)
  · repeat refine x_seq ?_
    refine x_exit_loop hK1 rfl rfl ?_
    repeat refine x_seq ?_
    refine goes rfl trivial ?_
    repeat refine x_seq ?_
    exact x_ret (at_ret rfl rfl rfl rfl ⟨by rw [wordsErr_none (all_end (by omega) hP)]; rfl, he⟩ (.inl rfl))

/-- burin/index.CheckList -/
theorem ok55 : FnOk Tryz.prog 55 := fnok Tryz.func55 (by kernel_rfl) rfl
set_option maxRecDepth 10000 in
theorem w55 {h : Hp} {v : Value} {l : List Bs} (hn : Small l) (hl : Strs h v l) : CallsH Tryz.prog 55 #[v] h (fun v h' => v = I (checkList l) ∧ Ext h h') := by
  have hl0 := hl
  obtain ⟨a, cap, rfl, hcap, hl⟩ := hl.op
  have hn1 := hn.1
  refine enter ok55 Tryz.func55 rfl Tryz.ntmps55 (by simp) (fun w0 => ?_)
  repeat refine x_seq ?_
  refine goes rfl trivial ?_
  repeat refine x_seq ?_
  refine goes rfl trivial ?_
  repeat refine x_seq ?_
  refine x_block ?_
  repeat refine x_seq ?_
  refine goes rfl trivial ?_
  repeat refine x_seq ?_
  refine x_ifd rfl (fun c1 => ?_) (fun c1 => ?_)
  · repeat refine x_seq ?_
    refine goes rfl trivial ?_
    repeat refine x_seq ?_
    exact x_ret (at_ret rfl rfl rfl rfl ⟨by rw [chk6 (by omega)]; rfl, Ext.refl _⟩ (.inl rfl))
  · repeat refine x_seq ?_
    refine x_reg ?_
    refine go 1 rfl trivial ?_
    refine ops_call rfl rfl rfl (w83s hn.1 hl0 70 #[] (fun s => decide (10 < (s.length : Int))) (fun x hx h' he => CallsH.mono (w70 x) (by rintro _ _ ⟨rfl, rfl⟩; exact ⟨rfl, Ext.refl _⟩))) ?_
    rintro _ h2 ⟨rfl, he2⟩
    refine go 1000 rfl trivial (ops_nil ?_)
    repeat refine x_seq ?_
    refine x_if rfl (fun c2 => ?_) (fun c2 => ?_)
    · repeat refine x_seq ?_
      refine goes rfl trivial ?_
      repeat refine x_seq ?_
      exact x_ret (at_ret rfl rfl rfl rfl ⟨by obtain ⟨s, hs, h7⟩ := List.any_eq_true.1 c2; obtain ⟨i, hi, rfl⟩ := List.mem_iff_getElem.1 hs; rw [chk7 (by omega) hi (by simp at h7; omega)]; rfl, he2⟩ (.inl rfl))
    · repeat refine x_seq ?_
      refine x_reg ?_
      refine go 2 rfl trivial ?_
      refine ops_call rfl rfl rfl (w83s hn.1 (hl0.ext he2) 82 #[] badName (fun x hx h' he => w82 x (hn.2 x hx))) ?_
      rintro _ h3 ⟨rfl, he3⟩
      refine go 1000 rfl trivial (ops_nil ?_)
      repeat refine x_seq ?_
      refine x_if rfl (fun c3 => ?_) (fun c3 => ?_)
      · repeat refine x_seq ?_
        refine goes rfl trivial ?_
        repeat refine x_seq ?_
        exact x_ret (at_ret rfl rfl rfl rfl ⟨by obtain ⟨s, hs, h8⟩ := List.any_eq_true.1 c3; obtain ⟨i, hi, rfl⟩ := List.mem_iff_getElem.1 hs; rw [chk8 (by omega) (fun s hs => by have := List.any_eq_false.1 c2 s hs; simp at this; omega) hi h8]; rfl, he2.trans he3⟩ (.inl rfl))
      · repeat refine x_seq ?_
        refine x_skip ?_
        refine x_out ?_
        repeat refine x_seq ?_
        have hA : ∀ s ∈ l, ¬ s.length > 10 := fun s hs => by have := List.any_eq_false.1 c2 s hs; simp at this; omega
        have hB : ∀ s ∈ l, badName s = false := fun s hs => by have := List.any_eq_false.1 c3 s hs; simpa using this
        have he4 := he2.trans he3
        refine goes rfl trivial ?_
        repeat refine x_seq ?_
        refine x_block ?_
        repeat refine x_seq ?_
        refine x_loop (fun k : Nat => [(0, .slice a l.length cap), (17, .slice a l.length cap), (18, I l.length), (19, I k)]) (fun k h' => (h3 = h') ∧ (k ≤ l.length) ∧ ∀ i (hi : i + 1 < l.length), i + 1 < k → lt l[i] l[i + 1] = true) (fun k => l.length - k) 0 ⟨rfl, rfl, rfl, rfl, trivial⟩ ⟨rfl, by omega, by intro i _ h; omega⟩ ?_
        rintro k _ ⟨rfl, hk, hP⟩ K1 hK1
        repeat refine x_seq ?_
        refine goes rfl trivial ?_
        repeat refine x_seq ?_
        refine x_ifd rfl (fun c4 => ?_) (fun c4 => ?_)
        · repeat refine x_seq ?_
          refine x_skip ?_
          repeat refine x_seq ?_
          refine x_block ?_
          repeat refine x_seq ?_
          have hlt : k < l.length := by omega
          obtain ⟨q, rfl, hq⟩ := hl k hlt
          have hq := he4.cell hq
          refine x_reg ?_
          refine go 2 rfl ⟨by first | omega | (simp only [inK]; omega), trivial⟩ ?_
          refine ops_load tabOk rfl rfl rfl rfl (by assumption) ?_
          refine go 1000 rfl trivial (ops_nil ?_)
          repeat refine x_seq ?_
          have hlt' : k - 1 < l.length := by omega
          obtain ⟨_, e, hq'⟩ := hl (k - 1) hlt'
          cases e
          have hq' := he4.cell hq'
          refine x_reg ?_
          refine go 3 rfl trivial ?_
          refine ops_dec 26 rfl (fun c5 => ?_) (fun c5 => ?_)
          · refine go 4 rfl ⟨by first | omega | (simp only [inK]; omega), by first | omega | (simp only [inK]; omega), trivial⟩ ?_
            refine ops_guard_yes rfl rfl rfl ?_
            refine ops_load tabOk rfl rfl rfl rfl (by rw [show ((k : Int) - 1).toNat = k - 1 from by omega]; exact hq') ?_
            refine go 1000 rfl trivial (ops_nil ?_)
            repeat refine x_seq ?_
            refine x_if rfl (fun c6 => ?_) (fun c6 => ?_)
            · repeat refine x_seq ?_
              refine goes rfl trivial ?_
              repeat refine x_seq ?_
              exact x_ret (at_ret_loop hK1 (at_ret rfl rfl rfl rfl ⟨by rw [chk16b (by omega) hA hB hlt (by omega) c6]; rfl, he4⟩ (.inl rfl)))
            · repeat refine x_seq ?_
              refine x_skip ?_
              refine x_out ?_
              repeat refine x_seq ?_
              refine goes rfl ⟨by first | omega | (simp only [inK]; omega), trivial⟩ ?_
              refine x_next (k + 1) ⟨rfl, rfl, rfl, rfl, trivial⟩ ⟨rfl, by omega, inc_stepb hlt (fun _ => c6) hP⟩ (by omega)
          · refine go 1000 rfl trivial (ops_nil ?_)
            repeat refine x_seq ?_
            refine x_false rfl ?_
            repeat refine x_seq ?_
            refine x_skip ?_
            refine x_out ?_
            repeat refine x_seq ?_
            refine goes rfl ⟨by first | omega | (simp only [inK]; omega), trivial⟩ ?_
            refine x_next (k + 1) ⟨rfl, rfl, rfl, rfl, trivial⟩ ⟨rfl, by omega, inc_stepb hlt (fun h0 => absurd h0 (by omega)) hP⟩ (by omega)
        · repeat refine x_seq ?_
          refine x_exit_loop hK1 rfl rfl ?_
          repeat refine x_seq ?_
          refine goes rfl trivial ?_
          repeat refine x_seq ?_
          exact x_ret (at_ret rfl rfl rfl rfl ⟨by rw [chk0 (by omega) hA hB (fun i hi => hP i hi (by omega))]; rfl, he4⟩ (.inl rfl))

/-- burin/index.two -/
theorem ok39 : FnOk Tryz.prog 39 := fnok Tryz.func39 (by kernel_rfl) rfl
set_option maxRecDepth 10000 in
theorem w39 {h : Hp} {v v' : Value} {l l' : List Bs} (hn : Small l) (hn' : Small l') (hl : Strs h v l) (hl' : Strs h v' l') : CallsH Tryz.prog 39 #[v, v'] h (fun v h' => v = I (if checkList l ≠ 0 then checkList l else checkList l') ∧ Ext h h') := by
  refine enter ok39 Tryz.func39 rfl Tryz.ntmps39 (by simp) (fun w0 => ?_)
  repeat refine x_seq ?_
  refine goes rfl trivial ?_
  repeat refine x_seq ?_
  refine x_reg ?_
  refine go 1 rfl trivial ?_
  refine ops_call rfl rfl rfl (w55 hn hl) ?_
  rintro _ h2 ⟨rfl, he2⟩
  refine go 1000 rfl trivial (ops_nil ?_)
  repeat refine x_seq ?_
  refine goes rfl trivial ?_
  repeat refine x_seq ?_
  refine x_ifd rfl (fun c1 => ?_) (fun c1 => ?_)
  · repeat refine x_seq ?_
    refine goes rfl trivial ?_
    repeat refine x_seq ?_
    exact x_ret (at_ret rfl rfl rfl rfl ⟨by rw [if_pos (by omega)]; rfl, he2⟩ (.inl rfl))
  · repeat refine x_seq ?_
    refine x_skip ?_
    repeat refine x_seq ?_
    refine x_reg ?_
    refine go 1 rfl trivial ?_
    refine ops_call rfl rfl rfl (w55 hn' (hl'.ext he2)) ?_
    rintro _ h3 ⟨rfl, he3⟩
    refine go 1000 rfl trivial (ops_nil ?_)
    repeat refine x_seq ?_
    exact x_ret (at_ret rfl rfl rfl rfl ⟨by rw [if_neg (by omega)]; rfl, he2.trans he3⟩ (.inl rfl))

end Go.Proofs.YtmfgiabmmdbmoaaGreatDoor
