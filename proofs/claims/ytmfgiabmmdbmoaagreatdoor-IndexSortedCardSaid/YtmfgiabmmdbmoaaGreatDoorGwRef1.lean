/-
  A part of the proofs of the laws of the index: what the functions of this program compute. Conditions: none beyond those that its theorems name.
-/
import Derived.Test.YtmfgiabmmdbmoaaGreatDoorGwSeat
import Derived.Test.YtmfgiabmmdbmoaaGreatDoorGwIx
namespace Go.Proofs.YtmfgiabmmdbmoaaGreatDoor
open Go.Gw Go.Ix
/-- burin/burinref11.letters -/
theorem ok36 : FnOk Tryz.prog 36 := fnok Tryz.func36 (by kernel_rfl) rfl
set_option maxRecDepth 10000 in
theorem w36 {h : Hp} (s : Bs) (hs : s.length ≤ 1000000) : CallsH Tryz.prog 36 #[S s] h (fun v h' => v = .bool (letters s) ∧ h' = h) := by
  refine enter ok36 Tryz.func36 rfl Tryz.ntmps36 (by simp) (fun w0 => ?_)
  repeat refine x_seq ?_
  refine goes rfl trivial ?_
  repeat refine x_seq ?_
  refine goes rfl trivial ?_
  repeat refine x_seq ?_
  refine x_block ?_
  repeat refine x_seq ?_
  refine x_loop (fun k : Nat => [(0, S s), (3, I k)]) (fun k h' => (h = h') ∧ (k ≤ s.length) ∧ ∀ b ∈ s.take k, lett b = true) (fun k => s.length - k) 0 ⟨rfl, rfl, trivial⟩ ⟨rfl, by omega, by simp⟩ ?_
  rintro k _ ⟨rfl, hk, hP⟩ K1 hK1
  repeat refine x_seq ?_
  refine goes rfl trivial ?_
  repeat refine x_seq ?_
  refine x_ifd rfl (fun c1 => ?_) (fun c1 => ?_)
  · repeat refine x_seq ?_
    refine x_skip ?_
    repeat refine x_seq ?_
    refine x_block ?_
    repeat refine x_seq ?_
    have hlt : k < s.length := by omega
    refine x_reg ?_
    refine go 5 rfl ⟨by first | omega | (simp only [inK]; omega), trivial⟩ ?_
    refine ops_dec 14 rfl (fun c2 => ?_) (fun c2 => ?_)
    · refine go 1000 rfl trivial (ops_nil ?_)
      repeat refine x_seq ?_
      refine x_true rfl ?_
      repeat refine x_seq ?_
      refine goes rfl trivial ?_
      repeat refine x_seq ?_
      exact x_ret (at_ret_loop hK1 (at_ret rfl rfl rfl rfl ⟨by rw [letters_f hlt (by simp at c2; simp [lett]; omega)]; rfl, rfl⟩ (.inl rfl)))
    · refine go 1000 rfl ⟨by first | omega | (simp only [inK]; omega), trivial⟩ (ops_nil ?_)
      repeat refine x_seq ?_
      refine x_ifd rfl (fun c3 => ?_) (fun c3 => ?_)
      · repeat refine x_seq ?_
        refine goes rfl trivial ?_
        repeat refine x_seq ?_
        exact x_ret (at_ret_loop hK1 (at_ret rfl rfl rfl rfl ⟨by rw [letters_f hlt (by simp at c2 c3; simp [lett]; omega)]; rfl, rfl⟩ (.inl rfl)))
      · repeat refine x_seq ?_
        refine x_skip ?_
        refine x_out ?_
        repeat refine x_seq ?_
        refine goes rfl ⟨by first | omega | (simp only [inK]; omega), trivial⟩ ?_
        refine x_next (k + 1) ⟨rfl, rfl, trivial⟩ ⟨rfl, by omega, all_take hlt hP (by simp only [lett, Bool.and_eq_true, decide_eq_true_eq]; simp [hlt] at c2 c3; omega)⟩ (by omega)
  · repeat refine x_seq ?_
    refine x_exit_loop hK1 rfl rfl ?_
    repeat refine x_seq ?_
    refine goes rfl trivial ?_
    repeat refine x_seq ?_
    exact x_ret (at_ret rfl rfl rfl rfl ⟨by rw [letters_t (by omega) hP]; rfl, rfl⟩ (.inl rfl))

/-- burin/burinref11.Word -/
theorem ok13 : FnOk Tryz.prog 13 := fnok Tryz.func13 (by kernel_rfl) rfl
set_option maxRecDepth 10000 in
theorem w13 {h : Hp} (s : Bs) (hs : s.length ≤ 1000000) : CallsH Tryz.prog 13 #[S s] h (fun v h' => v = I (wordErr s) ∧ h' = h) := by
  refine enter ok13 Tryz.func13 rfl Tryz.ntmps13 (by simp) (fun w0 => ?_)
  repeat refine x_seq ?_
  refine goes rfl trivial ?_
  repeat refine x_seq ?_
  refine goes rfl trivial ?_
  repeat refine x_seq ?_
  refine x_ifd rfl (fun c1 => ?_) (fun c1 => ?_)
  · repeat refine x_seq ?_
    refine goes rfl trivial ?_
    repeat refine x_seq ?_
    exact x_ret (at_ret rfl rfl rfl rfl ⟨by simp only [wordErr]; rw [if_pos (by omega)]; rfl, rfl⟩ (.inl rfl))
  · repeat refine x_seq ?_
    refine x_skip ?_
    repeat refine x_seq ?_
    refine x_reg ?_
    refine go 1 rfl trivial ?_
    refine ops_call rfl rfl rfl (w36 s hs) ?_
    rintro _ _ ⟨rfl, rfl⟩
    refine go 1000 rfl trivial (ops_nil ?_)
    repeat refine x_seq ?_
    refine x_if rfl (fun c2 => ?_) (fun c2 => ?_)
    · repeat refine x_seq ?_
      refine goes rfl trivial ?_
      repeat refine x_seq ?_
      exact x_ret (at_ret rfl rfl rfl rfl ⟨by simp only [wordErr]; rw [if_neg (by omega), if_neg (by simpa using c2)]; rfl, rfl⟩ (.inl rfl))
    · repeat refine x_seq ?_
      refine x_skip ?_
      repeat refine x_seq ?_
      refine goes rfl trivial ?_
      repeat refine x_seq ?_
      exact x_ret (at_ret rfl rfl rfl rfl ⟨by simp only [wordErr]; rw [if_neg (by omega), if_pos (by simpa using c2)]; rfl, rfl⟩ (.inl rfl))

/-- burin/burinref11.Same -/
theorem ok46 : FnOk Tryz.prog 46 := fnok Tryz.func46 (by kernel_rfl) rfl
set_option maxRecDepth 10000 in
theorem w46 {h : Hp} {v v' : Value} {l l' : List Bs} (hn : l.length ≤ 1000000) (hl : Strs h v l) (hl' : Strs h v' l') : CallsH Tryz.prog 46 #[v, v'] h (fun v h' => v = .bool (decide (l = l')) ∧ h' = h) := by
  obtain ⟨a, cap, rfl, hcap, hl⟩ := hl.op
  obtain ⟨a', cap', rfl, hcap', hl'⟩ := hl'.op
  refine enter ok46 Tryz.func46 rfl Tryz.ntmps46 (by simp) (fun w0 => ?_)
  repeat refine x_seq ?_
  refine goes rfl trivial ?_
  repeat refine x_seq ?_
  refine goes rfl trivial ?_
  repeat refine x_seq ?_
  refine x_ifd rfl (fun c1 => ?_) (fun c1 => ?_)
  · repeat refine x_seq ?_
    refine goes rfl trivial ?_
    repeat refine x_seq ?_
    exact x_ret (at_ret rfl rfl rfl rfl ⟨by rw [decide_eq_false (fun e => c1 (by rw [e]))]; rfl, rfl⟩ (.inl rfl))
  · repeat refine x_seq ?_
    refine x_skip ?_
    repeat refine x_seq ?_
    refine goes rfl trivial ?_
    repeat refine x_seq ?_
    refine x_block ?_
    repeat refine x_seq ?_
    refine x_loop (fun k : Nat => [(0, .slice a l.length cap), (1, ( .slice a' l'.length cap')), (5, I k)]) (fun k h' => (h = h') ∧ (k ≤ l.length) ∧ l.take k = l'.take k) (fun k => l.length - k) 0 ⟨rfl, rfl, rfl, trivial⟩ ⟨rfl, by omega, rfl⟩ ?_
    rintro k _ ⟨rfl, hk, hP⟩ K1 hK1
    repeat refine x_seq ?_
    refine goes rfl trivial ?_
    repeat refine x_seq ?_
    refine x_ifd rfl (fun c2 => ?_) (fun c2 => ?_)
    · repeat refine x_seq ?_
      refine x_skip ?_
      repeat refine x_seq ?_
      refine x_block ?_
      repeat refine x_seq ?_
      have hlt : k < l.length := by omega
      have hlt' : k < l'.length := by omega
      obtain ⟨p, rfl, hp⟩ := hl k hlt
      obtain ⟨p', rfl, hp'⟩ := hl' k hlt'
      refine x_draw [(0, true), (1, true), (2, true), (3, true), (4, true), (5, true), (6, true), (7, true), (8, true)] [] (· = _) mixed (by kernel_rfl) rfl rfl rfl ?_
      refine sgo 3 rfl ⟨by first | omega | (simp only [inK]; omega), trivial⟩ ?_
      refine seq_load tabOk rfl rfl rfl rfl (by rintro _ rfl; assumption) ?_
      refine sgo 3 rfl ⟨by first | omega | (simp only [inK]; omega), trivial⟩ ?_
      refine seq_load tabOk rfl rfl rfl rfl (by rintro _ rfl; assumption) ?_
      refine sgo 1000 rfl trivial (seq_tail ?_)
      refine ops_nil ?_
      repeat refine x_seq ?_
      refine x_ifd rfl (fun c3 => ?_) (fun c3 => ?_)
      · repeat refine x_seq ?_
        refine goes rfl trivial ?_
        repeat refine x_seq ?_
        exact x_ret (at_ret_loop hK1 (at_ret rfl rfl rfl rfl ⟨by rw [decide_eq_false (fun e => c3 (by simp [e]))]; rfl, rfl⟩ (.inl rfl)))
      · repeat refine x_seq ?_
        refine x_skip ?_
        refine x_out ?_
        repeat refine x_seq ?_
        refine goes rfl ⟨by first | omega | (simp only [inK]; omega), trivial⟩ ?_
        refine x_next (k + 1) ⟨rfl, rfl, rfl, trivial⟩ ⟨rfl, by omega, by rw [take_snoc hlt, take_snoc hlt', hP, Decidable.not_not.1 c3]⟩ (by omega)
    · repeat refine x_seq ?_
      refine x_exit_loop hK1 rfl rfl ?_
      repeat refine x_seq ?_
      refine goes rfl trivial ?_
      repeat refine x_seq ?_
      exact x_ret (at_ret rfl rfl rfl rfl ⟨by rw [decide_eq_true (by rwa [List.take_of_length_le (by omega), List.take_of_length_le (by omega)] at hP)]; rfl, rfl⟩ (.inl rfl))

/-- burin/burinref11.Has -/
theorem ok14 : FnOk Tryz.prog 14 := fnok Tryz.func14 (by kernel_rfl) rfl
set_option maxRecDepth 10000 in
theorem w14 {h : Hp} {v : Value} {l : List Bs} (s : Bs) (hn : l.length ≤ 1000000) (hl : Strs h v l) : CallsH Tryz.prog 14 #[v, S s] h (fun v h' => v = .bool (decide (s ∈ l)) ∧ h' = h) := by
  obtain ⟨a, cap, rfl, hcap, hl⟩ := hl.op
  refine enter ok14 Tryz.func14 rfl Tryz.ntmps14 (by simp) (fun w0 => ?_)
  repeat refine x_seq ?_
  refine goes rfl trivial ?_
  repeat refine x_seq ?_
  refine goes rfl trivial ?_
  repeat refine x_seq ?_
  refine x_block ?_
  repeat refine x_seq ?_
  refine x_loop (fun k : Nat => [(0, .slice a l.length cap), (1, S s), (5, I k)]) (fun k h' => (h = h') ∧ (k ≤ l.length) ∧ ∀ x ∈ l.take k, ¬ x = s) (fun k => l.length - k) 0 ⟨rfl, rfl, rfl, trivial⟩ ⟨rfl, by omega, by simp⟩ ?_
  rintro k _ ⟨rfl, hk, hP⟩ K1 hK1
  repeat refine x_seq ?_
  refine goes rfl trivial ?_
  repeat refine x_seq ?_
  refine x_ifd rfl (fun c1 => ?_) (fun c1 => ?_)
  · repeat refine x_seq ?_
    refine x_skip ?_
    repeat refine x_seq ?_
    refine x_block ?_
    repeat refine x_seq ?_
    have hlt : k < l.length := by omega
    obtain ⟨p, rfl, hp⟩ := hl k hlt
    refine x_reg ?_
    refine go 3 rfl ⟨by first | omega | (simp only [inK]; omega), trivial⟩ ?_
    refine ops_load tabOk rfl rfl rfl rfl (by assumption) ?_
    refine go 1000 rfl trivial (ops_nil ?_)
    repeat refine x_seq ?_
    refine x_ifd rfl (fun c2 => ?_) (fun c2 => ?_)
    · repeat refine x_seq ?_
      refine goes rfl trivial ?_
      repeat refine x_seq ?_
      exact x_ret (at_ret_loop hK1 (at_ret rfl rfl rfl rfl ⟨by rw [decide_eq_true (c2 ▸ List.getElem_mem hlt)]; rfl, rfl⟩ (.inl rfl)))
    · repeat refine x_seq ?_
      refine x_skip ?_
      refine x_out ?_
      repeat refine x_seq ?_
      refine goes rfl ⟨by first | omega | (simp only [inK]; omega), trivial⟩ ?_
      refine x_next (k + 1) ⟨rfl, rfl, rfl, trivial⟩ ⟨rfl, by omega, all_take hlt hP c2⟩ (by omega)
  · repeat refine x_seq ?_
    refine x_exit_loop hK1 rfl rfl ?_
    repeat refine x_seq ?_
    refine goes rfl trivial ?_
    repeat refine x_seq ?_
    exact x_ret (at_ret rfl rfl rfl rfl ⟨by rw [decide_eq_false (fun e => all_end (by omega) hP s e rfl)]; rfl, rfl⟩ (.inl rfl))

/-- burin/burinref11.CheckList -/
theorem ok20 : FnOk Tryz.prog 20 := fnok Tryz.func20 (by kernel_rfl) rfl
set_option maxRecDepth 10000 in
theorem w20 {h : Hp} {v : Value} {l : List Bs} (hn : Small l) (hl : Strs h v l) : CallsH Tryz.prog 20 #[v] h (fun v h' => v = I (checkList l) ∧ h' = h) := by
  obtain ⟨a, cap, rfl, hcap, hl⟩ := hl.op
  have hn1 := hn.1
  refine enter ok20 Tryz.func20 rfl Tryz.ntmps20 (by simp) (fun w0 => ?_)
  repeat refine x_seq ?_
  refine goes rfl trivial ?_
  repeat refine x_seq ?_
  refine goes rfl trivial ?_
  repeat refine x_seq ?_
  refine x_ifd rfl (fun c1 => ?_) (fun c1 => ?_)
  · repeat refine x_seq ?_
    refine goes rfl trivial ?_
    repeat refine x_seq ?_
    exact x_ret (at_ret rfl rfl rfl rfl ⟨by rw [chk6 (by omega)]; rfl, rfl⟩ (.inl rfl))
  · repeat refine x_seq ?_
    refine x_skip ?_
    repeat refine x_seq ?_
    refine goes rfl trivial ?_
    repeat refine x_seq ?_
    refine x_block ?_
    repeat refine x_seq ?_
    refine x_loop (fun k : Nat => [(0, .slice a l.length cap), (3, I k)]) (fun k h' => (h = h') ∧ (k ≤ l.length) ∧ ∀ s ∈ l.take k, ¬ s.length > 10) (fun k => l.length - k) 0 ⟨rfl, rfl, trivial⟩ ⟨rfl, by omega, by simp⟩ ?_
    rintro k _ ⟨rfl, hk, hP⟩ K1 hK1
    repeat refine x_seq ?_
    refine goes rfl trivial ?_
    repeat refine x_seq ?_
    refine x_ifd rfl (fun c2 => ?_) (fun c2 => ?_)
    · repeat refine x_seq ?_
      refine x_skip ?_
      repeat refine x_seq ?_
      refine x_block ?_
      repeat refine x_seq ?_
      have hlt : k < l.length := by omega
      obtain ⟨p, rfl, hp⟩ := hl k hlt
      refine x_reg ?_
      refine go 3 rfl ⟨by first | omega | (simp only [inK]; omega), trivial⟩ ?_
      refine ops_load tabOk rfl rfl rfl rfl (by assumption) ?_
      refine go 1000 rfl trivial (ops_nil ?_)
      repeat refine x_seq ?_
      refine x_ifd rfl (fun c3 => ?_) (fun c3 => ?_)
      · repeat refine x_seq ?_
        refine goes rfl trivial ?_
        repeat refine x_seq ?_
        exact x_ret (at_ret_loop hK1 (at_ret rfl rfl rfl rfl ⟨by rw [chk7 (by omega) hlt (by omega)]; rfl, rfl⟩ (.inl rfl)))
      · repeat refine x_seq ?_
        refine x_skip ?_
        refine x_out ?_
        repeat refine x_seq ?_
        refine goes rfl ⟨by first | omega | (simp only [inK]; omega), trivial⟩ ?_
        refine x_next (k + 1) ⟨rfl, rfl, trivial⟩ ⟨rfl, by omega, all_take hlt hP (by omega)⟩ (by omega)
    · repeat refine x_seq ?_
      refine x_exit_loop hK1 rfl rfl ?_
      have hA := all_end (by omega) hP
      repeat refine x_seq ?_
      refine goes rfl trivial ?_
      repeat refine x_seq ?_
      refine x_block ?_
      repeat refine x_seq ?_
      refine x_loop (fun k : Nat => [(0, .slice a l.length cap), (4, I k)]) (fun k h' => (h = h') ∧ (k ≤ l.length) ∧ ∀ s ∈ l.take k, badName s = false) (fun k => l.length - k) 0 ⟨rfl, rfl, trivial⟩ ⟨rfl, by omega, by simp⟩ ?_
      rintro k _ ⟨rfl, hk, hP⟩ K2 hK2
      repeat refine x_seq ?_
      refine goes rfl trivial ?_
      repeat refine x_seq ?_
      refine x_ifd rfl (fun c4 => ?_) (fun c4 => ?_)
      · repeat refine x_seq ?_
        refine x_skip ?_
        repeat refine x_seq ?_
        refine x_block ?_
        repeat refine x_seq ?_
        have hlt : k < l.length := by omega
        obtain ⟨p, rfl, hp⟩ := hl k hlt
        refine x_reg ?_
        refine go 3 rfl ⟨by first | omega | (simp only [inK]; omega), trivial⟩ ?_
        refine ops_load tabOk rfl rfl rfl rfl (by assumption) ?_
        refine go 2 rfl trivial ?_
        refine ops_dec 32 rfl (fun c5 => ?_) (fun c5 => ?_)
        · refine go 1000 rfl trivial (ops_nil ?_)
          repeat refine x_seq ?_
          refine x_true rfl ?_
          repeat refine x_seq ?_
          refine goes rfl trivial ?_
          repeat refine x_seq ?_
          exact x_ret (at_ret_loop hK2 (at_ret rfl rfl rfl rfl ⟨by rw [chk8 (by omega) hA hlt (by simp [badName, c5])]; rfl, rfl⟩ (.inl rfl)))
        · refine go 3 rfl ⟨by first | omega | (simp only [inK]; omega), trivial⟩ ?_
          refine ops_guard_yes rfl rfl rfl ?_
          refine ops_load tabOk rfl rfl rfl rfl (by assumption) ?_
          refine ops_guard_yes rfl rfl rfl ?_
          refine ops_call rfl rfl rfl (w36 _ (hn.at hlt)) ?_
          rintro _ _ ⟨rfl, rfl⟩
          refine go 1000 rfl trivial (ops_nil ?_)
          repeat refine x_seq ?_
          refine x_if rfl (fun c6 => ?_) (fun c6 => ?_)
          · repeat refine x_seq ?_
            refine goes rfl trivial ?_
            repeat refine x_seq ?_
            exact x_ret (at_ret_loop hK2 (at_ret rfl rfl rfl rfl ⟨by rw [chk8 (by omega) hA hlt (by simp [badName]; right; simpa using c6)]; rfl, rfl⟩ (.inl rfl)))
          · repeat refine x_seq ?_
            refine x_skip ?_
            refine x_out ?_
            repeat refine x_seq ?_
            refine goes rfl ⟨by first | omega | (simp only [inK]; omega), trivial⟩ ?_
            refine x_next (k + 1) ⟨rfl, rfl, trivial⟩ ⟨rfl, by omega, all_take hlt hP (by simp [badName, c5]; simpa using c6)⟩ (by omega)
      · repeat refine x_seq ?_
        refine x_exit_loop hK2 rfl rfl ?_
        have hB := all_end (by omega) hP
        repeat refine x_seq ?_
        refine goes rfl trivial ?_
        repeat refine x_seq ?_
        refine x_block ?_
        repeat refine x_seq ?_
        refine x_loop (fun k : Nat => [(0, .slice a l.length cap), (5, I k)]) (fun k h' => (h = h') ∧ (1 ≤ k ∧ (k ≤ l.length ∨ k = 1)) ∧ ∀ i (hi : i + 1 < l.length), i + 1 < k → lt l[i] l[i + 1] = true) (fun k => l.length - k) 1 ⟨rfl, rfl, trivial⟩ ⟨rfl, by omega, by intro i _ h; omega⟩ ?_
        rintro k _ ⟨rfl, hk, hP⟩ K3 hK3
        repeat refine x_seq ?_
        refine goes rfl trivial ?_
        repeat refine x_seq ?_
        refine x_ifd rfl (fun c7 => ?_) (fun c7 => ?_)
        · repeat refine x_seq ?_
          refine x_skip ?_
          repeat refine x_seq ?_
          refine x_block ?_
          repeat refine x_seq ?_
          have hlt : k < l.length := by omega
          have hlt' : k - 1 < l.length := by omega
          obtain ⟨p, rfl, hp⟩ := hl k hlt
          obtain ⟨_, e, hp'⟩ := hl (k - 1) hlt'
          cases e
          refine x_draw [(0, true), (1, true), (2, true), (3, true), (4, true), (5, true), (6, true), (7, true), (8, true), (9, true)] [] (· = _) mixed (by kernel_rfl) rfl rfl rfl ?_
          refine sgo 3 rfl ⟨by first | omega | (simp only [inK]; omega), trivial⟩ ?_
          refine seq_load tabOk rfl rfl rfl rfl (by rintro _ rfl; assumption) ?_
          refine sgo 4 rfl ⟨by first | omega | (simp only [inK]; omega), by first | omega | (simp only [inK]; omega), trivial⟩ ?_
          refine seq_load tabOk rfl rfl rfl rfl (by rintro _ rfl; exact (by rw [show ((k : Int) - 1).toNat = k - 1 from by omega]; exact hp')) ?_
          refine sgo 1000 rfl trivial (seq_tail ?_)
          refine ops_nil ?_
          repeat refine x_seq ?_
          refine x_if rfl (fun c8 => ?_) (fun c8 => ?_)
          · repeat refine x_seq ?_
            refine goes rfl trivial ?_
            repeat refine x_seq ?_
            exact x_ret (at_ret_loop hK3 (at_ret rfl rfl rfl rfl ⟨by rw [chk16' (by omega) hA hB hlt hk.1 c8]; rfl, rfl⟩ (.inl rfl)))
          · repeat refine x_seq ?_
            refine x_skip ?_
            refine x_out ?_
            repeat refine x_seq ?_
            refine goes rfl ⟨by first | omega | (simp only [inK]; omega), trivial⟩ ?_
            refine x_next (k + 1) ⟨rfl, rfl, trivial⟩ ⟨rfl, by omega, inc_step hlt hk.1 c8 hP⟩ (by omega)
        · repeat refine x_seq ?_
          refine x_exit_loop hK3 rfl rfl ?_
          repeat refine x_seq ?_
          refine goes rfl trivial ?_
          repeat refine x_seq ?_
          exact x_ret (at_ret rfl rfl rfl rfl ⟨by rw [chk0 (by omega) hA hB (fun i hi => hP i hi (by omega))]; rfl, rfl⟩ (.inl rfl))

end Go.Proofs.YtmfgiabmmdbmoaaGreatDoor
