/-
  A part of the proofs of the laws of the index: what the functions of this program compute. Conditions: none beyond those that its theorems name.
-/
import Derived.Test.YtmfgiabmmdbmoaaGreatDoorGwId20
import Derived.Test.YtmfgiabmmdbmoaaGreatDoorGwLaw1
namespace Go.Proofs.YtmfgiabmmdbmoaaGreatDoor
open Go.Gw Go.Ix Go.Sort

theorem st_ext {x y : St} (h1 : x.ends = y.ends) (h2 : x.letters = y.letters) (h3 : x.next = y.next) : x = y := by
  cases x; cases y; simp_all
/-- The examples' lists. -/
def L4 : List Bs := [[98, 97, 114], [98, 97, 116], [99, 97, 114], [99, 97, 116]]
def L3 : List Bs := [[97], [97, 98], [98]]
/-- Automata that are not too great. -/
def SmS (l : List St) : Prop := l.length ≤ 1000000 ∧ ∀ x ∈ l, x.next.length ≤ 1000000

/-- burin/burinlaw11.States -/
theorem ok22 : FnOk Tryz.prog 22 := fnok Tryz.func22 (by kernel_rfl) rfl
set_option maxRecDepth 10000 in
theorem w22 {h : Hp} {v v' : Value} {l l' : List St} (hs : SmS l) (hl : Sts h v l) (hl' : Sts h v' l') : CallsH Tryz.prog 22 #[v, v'] h (fun r h' => r = .bool (decide (l = l')) ∧ h' = h) := by
  have hn := hs.1
  obtain ⟨a, cap, rfl, hcap, hl⟩ := hl
  obtain ⟨a', cap', rfl, hcap', hl'⟩ := hl'
  refine enter ok22 Tryz.func22 rfl Tryz.ntmps22 (by simp) (fun w0 => ?_)
  repeat refine x_seq ?_
  refine goes rfl trivial ?_
  repeat refine x_seq ?_
  refine goes rfl trivial ?_
  repeat refine x_seq ?_
  refine x_ifd rfl (fun c1 => ?_) (fun c1 => ?_)
  · repeat refine x_seq ?_
    refine goes rfl trivial ?_
    repeat refine x_seq ?_
    exact x_ret (at_ret rfl rfl rfl rfl ⟨by rw [decide_eq_false (fun e => c1 (by rw [e]))]; rfl, rfl⟩ (.inl rfl))
  · repeat refine x_seq ?_
    refine x_skip ?_
    repeat refine x_seq ?_
    refine goes rfl trivial ?_
    repeat refine x_seq ?_
    refine x_block ?_
    repeat refine x_seq ?_
    refine x_loop (fun k : Nat => [(0, .slice a l.length cap), (1, ( .slice a' l'.length cap')), (5, I k)]) (fun k h' => (h = h') ∧ (k ≤ l.length) ∧ l.take k = l'.take k) (fun k => l.length - k) 0 ⟨rfl, rfl, rfl, trivial⟩ ⟨rfl, by omega, rfl⟩ ?_
    rintro k _ ⟨rfl, hk, hP⟩ K1 hK1
    repeat refine x_seq ?_
    refine goes rfl trivial ?_
    repeat refine x_seq ?_
    refine x_ifd rfl (fun c2 => ?_) (fun c2 => ?_)
    · repeat refine x_seq ?_
      refine x_skip ?_
      repeat refine x_seq ?_
      refine x_block ?_
      repeat refine x_seq ?_
      have hlt : k < l.length := by omega
      have hlt' : k < l'.length := by omega
      obtain ⟨q, rfl, nv, hc, hi⟩ := hl k hlt
      obtain ⟨q', rfl, nv', hc', hi'⟩ := hl' k hlt'
      obtain ⟨an, cn, rfl, -, hnx⟩ := hi.op
      obtain ⟨an', cn', rfl, -, hnx'⟩ := hi'.op
      have hnl := hs.2 _ (List.getElem_mem hlt)
      refine x_draw [(0, true), (1, true), (2, true), (3, true), (4, true), (5, true), (6, true), (7, true), (8, true), (9, true), (10, true), (11, true), (12, true), (13, true), (14, true), (15, true), (16, true), (17, true), (18, true), (19, true), (20, true), (21, true), (22, true), (23, true), (24, true), (25, true), (26, true), (27, true), (28, true), (29, true), (30, true), (31, true), (32, true), (33, true), (34, true), (35, true), (36, true), (37, true), (38, true)] [] (· = _) mixed (by kernel_rfl) rfl rfl rfl ?_
      refine sgo 4 rfl ⟨by first | omega | (simp only [inK]; omega), trivial⟩ ?_
      refine seq_load tabOk rfl rfl rfl rfl (by rintro _ rfl; exact (hc 0 _ rfl)) ?_
      refine sgo 4 rfl ⟨by first | omega | (simp only [inK]; omega), trivial⟩ ?_
      refine seq_load tabOk rfl rfl rfl rfl (by rintro _ rfl; exact (hc' 0 _ rfl)) ?_
      refine sgo 2 rfl trivial ?_
      refine seq_dec 29 rfl (fun c3 => ?_) (fun c3 => ?_)
      · refine sgo 1000 rfl trivial (seq_tail ?_)
        refine ops_nil ?_
        repeat refine x_seq ?_
        refine x_true rfl ?_
        repeat refine x_seq ?_
        refine goes rfl trivial ?_
        repeat refine x_seq ?_
        exact x_ret (at_ret_loop hK1 (at_ret rfl rfl rfl rfl ⟨by rw [decide_eq_false (fun e => c3 (by simp [e]))]; rfl, rfl⟩ (.inl rfl)))
      · refine sgo 4 rfl ⟨by first | omega | (simp only [inK]; omega), trivial⟩ ?_
        refine seq_guard_yes rfl rfl rfl ?_
        refine seq_load tabOk rfl rfl rfl rfl (by rintro _ rfl; exact (hc 1 _ rfl)) ?_
        refine sgo 4 rfl ⟨by first | omega | (simp only [inK]; omega), trivial⟩ ?_
        refine seq_guard_yes rfl rfl rfl ?_
        refine seq_load tabOk rfl rfl rfl rfl (by rintro _ rfl; exact (hc' 1 _ rfl)) ?_
        refine sgo 3 rfl trivial ?_
        refine seq_dec 42 rfl (fun c4 => ?_) (fun c4 => ?_)
        · refine sgo 1000 rfl trivial (seq_tail ?_)
          refine ops_nil ?_
          repeat refine x_seq ?_
          refine x_true rfl ?_
          repeat refine x_seq ?_
          refine goes rfl trivial ?_
          repeat refine x_seq ?_
          exact x_ret (at_ret_loop hK1 (at_ret rfl rfl rfl rfl ⟨by rw [decide_eq_false (fun e => c4 (by simp [e]))]; rfl, rfl⟩ (.inl rfl)))
        · refine sgo 4 rfl ⟨by first | omega | (simp only [inK]; omega), trivial⟩ ?_
          refine seq_guard_yes rfl rfl rfl ?_
          refine seq_load tabOk rfl rfl rfl rfl (by rintro _ rfl; exact (hc 2 _ rfl)) ?_
          refine sgo 5 rfl ⟨by first | omega | (simp only [inK]; omega), trivial⟩ ?_
          refine seq_guard_yes rfl rfl rfl ?_
          refine seq_load tabOk rfl rfl rfl rfl (by rintro _ rfl; exact (hc' 2 _ rfl)) ?_
          refine sgo 1000 rfl trivial (seq_tail ?_)
          refine ops_nil ?_
          repeat refine x_seq ?_
          refine x_ifd rfl (fun c5 => ?_) (fun c5 => ?_)
          · repeat refine x_seq ?_
            refine goes rfl trivial ?_
            repeat refine x_seq ?_
            exact x_ret (at_ret_loop hK1 (at_ret rfl rfl rfl rfl ⟨by rw [decide_eq_false (fun e => c5 (by simp [e]))]; rfl, rfl⟩ (.inl rfl)))
          · repeat refine x_seq ?_
            refine x_skip ?_
            repeat refine x_seq ?_
            refine goes rfl trivial ?_
            repeat refine x_seq ?_
            refine x_block ?_
            repeat refine x_seq ?_
            refine x_loop (fun j : Nat => [(0, .slice (some q) l.length cap), (1, ( .slice (some q') l'.length cap')), (5, I k), (6, I j)]) (fun j h' => (h = h') ∧ (j ≤ l[k].next.length) ∧ l[k].next.take j = l'[k].next.take j) (fun j => l[k].next.length - j) 0 ⟨rfl, rfl, rfl, rfl, trivial⟩ ⟨rfl, by omega, rfl⟩ ?_
            rintro j _ ⟨rfl, hk2, hP2⟩ K2 hK2
            repeat refine x_seq ?_
            refine x_reg ?_
            refine go 5 rfl ⟨by first | omega | (simp only [inK]; omega), trivial⟩ ?_
            refine ops_load tabOk rfl rfl rfl rfl (hc 2 _ rfl) ?_
            refine go 1000 rfl trivial (ops_nil ?_)
            repeat refine x_seq ?_
            refine x_ifd rfl (fun c6 => ?_) (fun c6 => ?_)
            · repeat refine x_seq ?_
              refine x_skip ?_
              repeat refine x_seq ?_
              refine x_block ?_
              repeat refine x_seq ?_
              have hjl : j < l[k].next.length := by omega
              have hjl' : j < l'[k].next.length := by omega
              obtain ⟨p9, rfl, hp9⟩ := hnx j hjl
              obtain ⟨p9', rfl, hp9'⟩ := hnx' j hjl'
              refine x_draw [(0, true), (1, true), (2, true), (3, true), (4, true), (5, true), (6, true), (7, true), (8, true), (9, true), (10, true), (11, true), (12, true), (13, true), (14, true), (15, true), (16, true)] [] (· = _) mixed (by kernel_rfl) rfl rfl rfl ?_
              refine sgo 4 rfl ⟨by first | omega | (simp only [inK]; omega), trivial⟩ ?_
              refine seq_load tabOk rfl rfl rfl rfl (by rintro _ rfl; exact (hc 2 _ rfl)) ?_
              refine sgo 2 rfl ⟨by first | omega | (simp only [inK]; omega), trivial⟩ ?_
              refine seq_load tabOk rfl rfl rfl rfl (by rintro _ rfl; exact hp9) ?_
              refine sgo 4 rfl ⟨by first | omega | (simp only [inK]; omega), trivial⟩ ?_
              refine seq_load tabOk rfl rfl rfl rfl (by rintro _ rfl; exact (hc' 2 _ rfl)) ?_
              refine sgo 2 rfl ⟨by first | omega | (simp only [inK]; omega), trivial⟩ ?_
              refine seq_load tabOk rfl rfl rfl rfl (by rintro _ rfl; exact hp9') ?_
              refine sgo 1000 rfl trivial (seq_tail ?_)
              refine ops_nil ?_
              repeat refine x_seq ?_
              refine x_ifd rfl (fun c7 => ?_) (fun c7 => ?_)
              · repeat refine x_seq ?_
                refine goes rfl trivial ?_
                repeat refine x_seq ?_
                exact x_ret (at_ret_loop hK2 (at_ret_loop hK1 (at_ret rfl rfl rfl rfl ⟨by rw [decide_eq_false (fun e => c7 (by simp [e]))]; rfl, rfl⟩ (.inl rfl))))
              · repeat refine x_seq ?_
                refine x_skip ?_
                refine x_out ?_
                repeat refine x_seq ?_
                refine goes rfl ⟨by first | omega | (simp only [inK]; omega), trivial⟩ ?_
                refine x_next (j + 1) ⟨rfl, rfl, rfl, rfl, trivial⟩ ⟨rfl, by omega, by rw [take_snoc hjl, take_snoc hjl', hP2, show l[k].next[j] = l'[k].next[j] by omega]⟩ (by omega)
            · repeat refine x_seq ?_
              refine x_exit_loop hK2 rfl rfl ?_
              refine x_out ?_
              repeat refine x_seq ?_
              refine goes rfl ⟨by first | omega | (simp only [inK]; omega), trivial⟩ ?_
              refine x_next (k + 1) ⟨rfl, rfl, rfl, trivial⟩ ⟨rfl, by omega, by rw [take_snoc hlt, take_snoc hlt', hP, show l[k] = l'[k] from st_ext (by omega) (Decidable.not_not.1 c4) (by rwa [List.take_of_length_le (by omega), List.take_of_length_le (by omega)] at hP2)]⟩ (by omega)
    · repeat refine x_seq ?_
      refine x_exit_loop hK1 rfl rfl ?_
      repeat refine x_seq ?_
      refine goes rfl trivial ?_
      repeat refine x_seq ?_
      exact x_ret (at_ret rfl rfl rfl rfl ⟨by rw [decide_eq_true (by rwa [List.take_of_length_le (by omega), List.take_of_length_le (by omega)] at hP)]; rfl, rfl⟩ (.inl rfl))

/-- burin/burinlaw11.state -/
theorem ok29 : FnOk Tryz.prog 29 := fnok Tryz.func29 (by kernel_rfl) rfl
set_option maxRecDepth 10000 in
theorem w29 {h : Hp} (e : Int) (lt : Bs) (a : Option Addr) (n c : Nat) : CallsH Tryz.prog 29 #[I e, S lt, .slice a n c] h (fun r h' => r = .agg #[I e, S lt, .slice a n c] ∧ Ext h h') := by
  refine enter ok29 Tryz.func29 rfl Tryz.ntmps29 (by simp) (fun w0 => ?_)
  repeat refine x_seq ?_
  refine x_reg ?_
  refine ops_alloc tabOk rfl rfl rfl ?_
  intro h1 hn1
  refine ops_nil ?_
  repeat refine x_seq ?_
  refine x_reg ?_
  refine go 4 rfl trivial ?_
  refine ops_store (vs := [I e, S lt, .slice a n c]) (cs' := [I e, S lt, .slice a n c]) tabOk rfl rfl rfl rfl rfl rfl hn1.get (by simp) rfl ?_
  intro h2 hp2
  refine ops_nil ?_
  repeat refine x_seq ?_
  refine x_ret ?_
  exact at_ret_cell (C := ⟨Tryz.prog, _, _, _, _⟩) (fn := Tryz.f29) (vs := [I e, S lt, .slice a n c]) (t := 6) (a := ⟨h.size, 0, none⟩) tabOk rfl rfl rfl rfl rfl rfl (fun j u hj => by rw [add_head, hcell_block hp2.get]; simpa using hj) ⟨rfl, Bel.trans hn1.ext (hp2.bel (Nat.le_refl _))⟩ (.inl rfl)

/-- burin/burinlaw11.four -/
theorem ok23 : FnOk Tryz.prog 23 := fnok Tryz.func23 (by kernel_rfl) rfl
set_option maxRecDepth 10000 in
theorem w23 {h : Hp} : CallsH Tryz.prog 23 #[] h (fun r h' => Strs h' r L4 ∧ Ext h h') := by
  refine enter ok23 Tryz.func23 rfl Tryz.ntmps23 (by simp) (fun w0 => ?_)
  repeat refine x_seq ?_
  refine goes rfl trivial ?_
  repeat refine x_seq ?_
  refine x_reg ?_
  refine ops_buildSlice (cs := L4.map S) tabOk rfl rfl rfl rfl rfl rfl rfl rfl rfl ?_
  intro h1 hn1
  refine ops_call rfl rfl rfl (w27 _) ?_
  rintro _ _ ⟨rfl, rfl⟩
  refine go 1000 rfl trivial (ops_nil ?_)
  repeat refine x_seq ?_
  exact x_ret (at_ret rfl rfl rfl rfl ⟨Sl.of_new hn1 rfl (Nat.le_refl _), hn1.ext⟩ (.inl rfl))

/-- burin/burinlaw11.three -/
theorem ok24 : FnOk Tryz.prog 24 := fnok Tryz.func24 (by kernel_rfl) rfl
set_option maxRecDepth 10000 in
theorem w24 {h : Hp} : CallsH Tryz.prog 24 #[] h (fun r h' => Strs h' r L3 ∧ Ext h h') := by
  refine enter ok24 Tryz.func24 rfl Tryz.ntmps24 (by simp) (fun w0 => ?_)
  repeat refine x_seq ?_
  refine goes rfl trivial ?_
  repeat refine x_seq ?_
  refine x_reg ?_
  refine ops_buildSlice (cs := L3.map S) tabOk rfl rfl rfl rfl rfl rfl rfl rfl rfl ?_
  intro h1 hn1
  refine ops_call rfl rfl rfl (w27 _) ?_
  rintro _ _ ⟨rfl, rfl⟩
  refine go 1000 rfl trivial (ops_nil ?_)
  repeat refine x_seq ?_
  exact x_ret (at_ret rfl rfl rfl rfl ⟨Sl.of_new hn1 rfl (Nat.le_refl _), hn1.ext⟩ (.inl rfl))

/-- burin/burinlaw11.built -/
theorem ok21 : FnOk Tryz.prog 21 := fnok Tryz.func21 (by kernel_rfl) rfl
set_option maxRecDepth 10000 in
theorem w21 {h : Hp} {v : Value} {l : List Bs} (ok : Ok l) (hl : Strs h v l) : CallsH Tryz.prog 21 #[v] h (fun r h' => ∃ rv, r = .tuple #[rv, .bool true] ∧ Sts h' rv (statesL l) ∧ Ext h h') := by
  have hr := reads_states ok
  have hfew := ok.few
  have hsm : Small l := ⟨by omega, fun s hs => by have := ok.short s hs; omega⟩
  have hb : buildL l = (statesL l, 0) := by unfold buildL; rw [if_neg (by rw [of_ok ok]; simp)]
  refine enter ok21 Tryz.func21 rfl Tryz.ntmps21 (by simp) (fun w0 => ?_)
  repeat refine x_seq ?_
  refine goes rfl trivial ?_
  repeat refine x_seq ?_
  refine x_reg ?_
  refine go 1 rfl trivial ?_
  refine ops_call rfl rfl rfl (w28 hsm hl) ?_
  rintro _ h2 ⟨rv, rfl, hs2, he2⟩
  rw [hb] at hs2 ⊢
  refine go 1000 rfl trivial (ops_nil ?_)
  repeat refine x_seq ?_
  refine x_reg ?_
  refine go 4 rfl trivial ?_
  refine ops_guard_yes rfl rfl rfl ?_
  refine ops_call rfl rfl rfl (w47 hr.good hs2) ?_
  rintro _ hq ⟨rfl, e9⟩
  obtain rfl := e9.symm
  refine go 1000 rfl trivial (ops_nil ?_)
  repeat refine x_seq ?_
  refine x_false rfl ?_
  repeat refine x_seq ?_
  refine x_skip ?_
  repeat refine x_seq ?_
  refine x_reg ?_
  refine go 1 rfl trivial ?_
  refine ops_call rfl rfl rfl (w31 hr hs2) ?_
  rintro _ h3 ⟨r1, rfl, hs3, he3⟩
  refine go 1000 rfl trivial (ops_nil ?_)
  repeat refine x_seq ?_
  refine x_reg ?_
  refine go 1 rfl trivial ?_
  refine ops_call rfl rfl rfl (w48 hr (hs2.ext he3)) ?_
  rintro _ h4 ⟨r2, rfl, hs4, he4⟩
  refine go 1000 rfl trivial (ops_nil ?_)
  repeat refine x_seq ?_
  refine x_reg ?_
  refine go 10 rfl trivial ?_
  refine ops_guard_yes rfl rfl rfl ?_
  refine ops_call rfl rfl rfl (CallsH.mono (w19 (by omega) (hs3.ext he4) (hl.ext ((he2.trans he3).trans he4))) (R' := fun v h' => v = .bool true ∧ h' = h4) (by rintro _ _ ⟨rfl, rfl⟩; exact ⟨by simp, rfl⟩)) ?_
  rintro _ hq ⟨rfl, e9⟩
  obtain rfl := e9.symm
  refine go 4 rfl trivial ?_
  refine ops_guard_yes rfl rfl rfl ?_
  refine ops_call rfl rfl rfl (CallsH.mono (w19 (by omega) hs4 (hl.ext ((he2.trans he3).trans he4))) (R' := fun v h' => v = .bool true ∧ h' = h4) (by rintro _ _ ⟨rfl, rfl⟩; exact ⟨by simp, rfl⟩)) ?_
  rintro _ hq ⟨rfl, e9⟩
  obtain rfl := e9.symm
  refine go 1000 rfl trivial (ops_nil ?_)
  repeat refine x_seq ?_
  exact x_ret (at_ret rfl rfl rfl rfl ⟨rv, rfl, (hs2.ext he3).ext he4, (he2.trans he3).trans he4⟩ (.inl rfl))

end Go.Proofs.YtmfgiabmmdbmoaaGreatDoor
