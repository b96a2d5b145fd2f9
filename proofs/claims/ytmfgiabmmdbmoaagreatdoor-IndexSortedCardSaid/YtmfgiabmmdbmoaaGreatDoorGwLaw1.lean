/-
  A part of the proofs of the laws of the index: what the functions of this program compute. Conditions: none beyond those that its theorems name.
-/
import Derived.Test.YtmfgiabmmdbmoaaGreatDoorGwRef1
import Derived.Test.YtmfgiabmmdbmoaaGreatDoorGwIx2
namespace Go.Proofs.YtmfgiabmmdbmoaaGreatDoor
open Go.Gw Go.Ix

/-- burin/burinlaw11.great -/
theorem ok30 : FnOk Tryz.prog 30 := fnok Tryz.func30 (by kernel_rfl) rfl
set_option maxRecDepth 10000 in
theorem w30 {h : Hp} {v : Value} {l : List Bs} (hl : Strs h v l) : CallsH Tryz.prog 30 #[v] h (fun v h' => v = .bool (great l) ∧ h' = h) := by
  obtain ⟨a, cap, rfl, hcap, hl⟩ := hl.op
  refine enter ok30 Tryz.func30 rfl Tryz.ntmps30 (by simp) (fun w0 => ?_)
  repeat refine x_seq ?_
  refine goes rfl trivial ?_
  repeat refine x_seq ?_
  refine goes rfl trivial ?_
  repeat refine x_seq ?_
  refine x_ifd rfl (fun c1 => ?_) (fun c1 => ?_)
  · repeat refine x_seq ?_
    refine goes rfl trivial ?_
    repeat refine x_seq ?_
    exact x_ret (at_ret rfl rfl rfl rfl ⟨by rw [great_n (by omega)]; rfl, rfl⟩ (.inl rfl))
  · repeat refine x_seq ?_
    refine x_skip ?_
    repeat refine x_seq ?_
    refine goes rfl trivial ?_
    repeat refine x_seq ?_
    refine x_block ?_
    repeat refine x_seq ?_
    refine x_loop (fun k : Nat => [(0, .slice a l.length cap), (3, I k)]) (fun k h' => (h = h') ∧ (k ≤ l.length) ∧ ∀ s ∈ l.take k, ¬ 20 < s.length) (fun k => l.length - k) 0 ⟨rfl, rfl, trivial⟩ ⟨rfl, by omega, by simp⟩ ?_
    rintro k _ ⟨rfl, hk, hP⟩ K1 hK1
    repeat refine x_seq ?_
    refine goes rfl trivial ?_
    repeat refine x_seq ?_
    refine x_ifd rfl (fun c2 => ?_) (fun c2 => ?_)
    · repeat refine x_seq ?_
      refine x_skip ?_
      repeat refine x_seq ?_
      refine x_block ?_
      repeat refine x_seq ?_
      have hlt : k < l.length := by omega
      obtain ⟨p, rfl, hp⟩ := hl k hlt
      refine x_reg ?_
      refine go 3 rfl ⟨by first | omega | (simp only [inK]; omega), trivial⟩ ?_
      refine ops_load tabOk rfl rfl rfl rfl (by assumption) ?_
      refine go 1000 rfl trivial (ops_nil ?_)
      repeat refine x_seq ?_
      refine x_ifd rfl (fun c3 => ?_) (fun c3 => ?_)
      · repeat refine x_seq ?_
        refine goes rfl trivial ?_
        repeat refine x_seq ?_
        exact x_ret (at_ret_loop hK1 (at_ret rfl rfl rfl rfl ⟨by rw [great_at hlt (by omega)]; rfl, rfl⟩ (.inl rfl)))
      · repeat refine x_seq ?_
        refine x_skip ?_
        refine x_out ?_
        repeat refine x_seq ?_
        refine goes rfl ⟨by first | omega | (simp only [inK]; omega), trivial⟩ ?_
        refine x_next (k + 1) ⟨rfl, rfl, trivial⟩ ⟨rfl, by omega, all_take hlt hP (by omega)⟩ (by omega)
    · repeat refine x_seq ?_
      refine x_exit_loop hK1 rfl rfl ?_
      repeat refine x_seq ?_
      refine goes rfl trivial ?_
      repeat refine x_seq ?_
      exact x_ret (at_ret rfl rfl rfl rfl ⟨by rw [great_no (by omega) (all_end (by omega) hP)]; rfl, rfl⟩ (.inl rfl))

/-- burin/burinlaw11.fine -/
theorem ok10 : FnOk Tryz.prog 10 := fnok Tryz.func10 (by kernel_rfl) rfl
set_option maxRecDepth 10000 in
theorem w10 {h : Hp} {v : Value} {l : List Bs} (hl : Strs h v l) : CallsH Tryz.prog 10 #[v] h (fun v h' => v = .bool (fine l) ∧ h' = h) := by
  refine enter ok10 Tryz.func10 rfl Tryz.ntmps10 (by simp) (fun w0 => ?_)
  repeat refine x_seq ?_
  refine goes rfl trivial ?_
  repeat refine x_seq ?_
  refine x_reg ?_
  refine go 1 rfl trivial ?_
  refine ops_call rfl rfl rfl (w30 hl) ?_
  rintro _ _ ⟨rfl, rfl⟩
  refine go 2 rfl trivial ?_
  refine ops_bool 6 rfl (fun c1 => ?_) (fun c1 => ?_)
  · refine go 1 rfl trivial ?_
    refine ops_guard_yes rfl rfl rfl ?_
    refine ops_call rfl rfl rfl (w20 (small_great (by simpa using c1)) hl) ?_
    rintro _ _ ⟨rfl, rfl⟩
    refine go 1000 rfl trivial (ops_nil ?_)
    repeat refine x_seq ?_
    exact x_ret (at_ret rfl rfl rfl rfl ⟨by rw [show fine l = decide (checkList l = 0) from by unfold fine; rw [show great l = false from by simpa using c1]; rfl]; rfl, rfl⟩ (.inl rfl))
  · refine go 1000 rfl trivial (ops_nil ?_)
    repeat refine x_seq ?_
    exact x_ret (at_ret rfl rfl rfl rfl ⟨by rw [show fine l = false from by unfold fine; rw [show great l = true from by simpa using c1]; rfl]; rfl, rfl⟩ (.inl rfl))

/-- burin/burinlaw11.within -/
theorem ok16 : FnOk Tryz.prog 16 := fnok Tryz.func16 (by kernel_rfl) rfl
set_option maxRecDepth 10000 in
theorem w16 {h : Hp} {v v' : Value} {l l' : List Bs} (hn : l.length ≤ 1000000) (hn' : l'.length ≤ 1000000) (hl : Strs h v l) (hl' : Strs h v' l') : CallsH Tryz.prog 16 #[v, v'] h (fun v h' => v = .bool (decide (∀ s ∈ l, s ∈ l')) ∧ h' = h) := by
  obtain ⟨a, cap, rfl, hcap, hl⟩ := hl.op
  refine enter ok16 Tryz.func16 rfl Tryz.ntmps16 (by simp) (fun w0 => ?_)
  repeat refine x_seq ?_
  refine goes rfl trivial ?_
  repeat refine x_seq ?_
  refine goes rfl trivial ?_
  repeat refine x_seq ?_
  refine x_block ?_
  repeat refine x_seq ?_
  refine x_loop (fun k : Nat => [(0, .slice a l.length cap), (1, v'), (5, I k)]) (fun k h' => (h = h') ∧ (k ≤ l.length) ∧ ∀ s ∈ l.take k, s ∈ l') (fun k => l.length - k) 0 ⟨rfl, rfl, rfl, trivial⟩ ⟨rfl, by omega, by simp⟩ ?_
  rintro k _ ⟨rfl, hk, hP⟩ K1 hK1
  repeat refine x_seq ?_
  refine goes rfl trivial ?_
  repeat refine x_seq ?_
  refine x_ifd rfl (fun c1 => ?_) (fun c1 => ?_)
  · repeat refine x_seq ?_
    refine x_skip ?_
    repeat refine x_seq ?_
    refine x_block ?_
    repeat refine x_seq ?_
    have hlt : k < l.length := by omega
    obtain ⟨p, rfl, hp⟩ := hl k hlt
    refine x_reg ?_
    refine go 4 rfl ⟨by first | omega | (simp only [inK]; omega), trivial⟩ ?_
    refine ops_load tabOk rfl rfl rfl rfl (by assumption) ?_
    refine ops_call rfl rfl rfl (w14 _ hn' hl') ?_
    rintro _ _ ⟨rfl, rfl⟩
    refine go 1000 rfl trivial (ops_nil ?_)
    repeat refine x_seq ?_
    refine x_if rfl (fun c2 => ?_) (fun c2 => ?_)
    · repeat refine x_seq ?_
      refine goes rfl trivial ?_
      repeat refine x_seq ?_
      exact x_ret (at_ret_loop hK1 (at_ret rfl rfl rfl rfl ⟨by rw [decide_eq_false (fun e => by have := e _ (List.getElem_mem hlt); simp [this] at c2)]; rfl, rfl⟩ (.inl rfl)))
    · repeat refine x_seq ?_
      refine x_skip ?_
      refine x_out ?_
      repeat refine x_seq ?_
      refine goes rfl ⟨by first | omega | (simp only [inK]; omega), trivial⟩ ?_
      refine x_next (k + 1) ⟨rfl, rfl, rfl, trivial⟩ ⟨rfl, by omega, all_take hlt hP (by simpa using c2)⟩ (by omega)
  · repeat refine x_seq ?_
    refine x_exit_loop hK1 rfl rfl ?_
    repeat refine x_seq ?_
    refine goes rfl trivial ?_
    repeat refine x_seq ?_
    exact x_ret (at_ret rfl rfl rfl rfl ⟨by rw [decide_eq_true (all_end (by omega) hP)]; rfl, rfl⟩ (.inl rfl))

/-- burin/burinlaw11.Texts -/
theorem ok19 : FnOk Tryz.prog 19 := fnok Tryz.func19 (by kernel_rfl) rfl
set_option maxRecDepth 10000 in
theorem w19 {h : Hp} {v v' : Value} {l l' : List Bs} (hn : l.length ≤ 1000000) (hl : Strs h v l) (hl' : Strs h v' l') : CallsH Tryz.prog 19 #[v, v'] h (fun v h' => v = .bool (decide (l = l')) ∧ h' = h) := by
  refine enter ok19 Tryz.func19 rfl Tryz.ntmps19 (by simp) (fun w0 => ?_)
  repeat refine x_seq ?_
  refine goes rfl trivial ?_
  repeat refine x_seq ?_
  refine x_reg ?_
  refine go 2 rfl trivial ?_
  refine ops_call rfl rfl rfl (w46 hn hl hl') ?_
  rintro _ _ ⟨rfl, rfl⟩
  refine go 1000 rfl trivial (ops_nil ?_)
  repeat refine x_seq ?_
  exact x_ret (at_ret rfl rfl rfl rfl ⟨rfl, rfl⟩ (.inl rfl))

/-- burin/burinlaw11.texts -/
theorem ok27 : FnOk Tryz.prog 27 := fnok Tryz.func27 (by kernel_rfl) rfl
set_option maxRecDepth 10000 in
theorem w27 {h : Hp} (v : Value) : CallsH Tryz.prog 27 #[v] h (fun r h' => r = v ∧ h' = h) := by
  refine enter ok27 Tryz.func27 rfl Tryz.ntmps27 (by simp) (fun w0 => ?_)
  repeat refine x_seq ?_
  refine goes rfl trivial ?_
  repeat refine x_seq ?_
  refine goes rfl trivial ?_
  repeat refine x_seq ?_
  exact x_ret (at_ret rfl rfl rfl rfl ⟨rfl, rfl⟩ (.inl rfl))

end Go.Proofs.YtmfgiabmmdbmoaaGreatDoor
