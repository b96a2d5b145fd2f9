/-
  A part of the proofs of the laws of the index: what the functions of this program compute. Conditions: none beyond those that its theorems name.
-/
import Derived.Test.YtmfgiabmmdbmoaaGreatDoorGwLaw3
namespace Go.Proofs.YtmfgiabmmdbmoaaGreatDoor
open Go.Gw Go.Ix Go.Sort

theorem wordsErr_one (a : Bs) : wordsErr [a] = wordErr a := by
  simp only [wordsErr, List.map_cons, List.map_nil, orI]; split <;> omega
theorem wordsErr_two (a b : Bs) : wordsErr [a, b] = if wordErr a ≠ 0 then wordErr a else wordErr b := by
  simp only [wordsErr, List.map_cons, List.map_nil, orI]
  split
  · rfl
  · split <;> omega
theorem openErr_ok {l ws : List Bs} (ok : Ok l) : openErr l ws = wordsErr ws := by unfold openErr; rw [if_neg (by rw [of_ok ok]; simp)]
theorem tell_err {l : List Bs} (ok : Ok l) {a b : Bs} (h : wordErr a ≠ 0 ∨ wordErr b ≠ 0) : (tellL l a b).1 = [] ∧ (tellL l a b).2 ≠ 0 := by
  have h0 : openErr l [a, b] ≠ 0 := by
    rw [openErr_ok ok, wordsErr_two]
    by_cases h1 : wordErr a ≠ 0
    · rw [if_pos h1]; exact h1
    · rw [if_neg h1]; rcases h with h | h
      · exact absurd h h1
      · exact h
  unfold tellL
  rw [if_pos h0]
  exact ⟨rfl, h0⟩
theorem tell_fine {l : List Bs} (ok : Ok l) {a b : Bs} (ha : wordErr a = 0) (hb : wordErr b = 0) : tellL l a b = tellR (apartL l a b) := by
  unfold tellL
  rw [openErr_ok ok, wordsErr_two, if_neg (show ¬ wordErr a ≠ 0 by omega), if_neg (by omega)]
theorem apart_swap (l : List Bs) (a b : Bs) : apartL l a b = apartL l b a := srt_eq _ List.perm_append_comm
theorem tell_swap {l : List Bs} (ok : Ok l) {a b : Bs} (ha : wordErr a = 0) (hb : wordErr b = 0) : tellL l a b = tellL l b a := by
  rw [tell_fine ok ha hb, tell_fine ok hb ha, apart_swap]
theorem mem_tells1 {l : List Bs} {a b e : Bs} : e ∈ tells1 l a b ↔ a ++ e ∈ l ∧ b ++ e ∉ l := by
  unfold tells1; rw [List.mem_filter, mem_endings]; simp
theorem mem_apart {l : List Bs} {a b e : Bs} : e ∈ apartL l a b ↔ (a ++ e ∈ l ∧ b ++ e ∉ l) ∨ (b ++ e ∈ l ∧ a ++ e ∉ l) := by
  unfold apartL; rw [(srt_perm _ _).mem_iff, List.mem_append, mem_tells1, mem_tells1]
theorem tell_len {l : List Bs} (ok : Ok l) (a b : Bs) : (tellL l a b).1.length ≤ 10 := by
  have key : ∀ x : List Bs, (∀ e ∈ x, e.length ≤ 10) → (tellR x).1.length ≤ 10 := fun x h => by
    cases x with
    | nil => simp [tellR]
    | cons e r => exact h e (by simp)
  unfold tellL
  split
  · simp
  · refine key _ (fun e he => ?_)
    rcases mem_apart.1 he with h | h <;> · have := ok.short _ h.1; simp at this; omega
theorem tell_found {l : List Bs} (ok : Ok l) {a b : Bs} (ha : wordErr a = 0) (hb : wordErr b = 0) (h : (tellL l a b).2 = 0) : (decide (a ++ (tellL l a b).1 ∈ l) != decide (b ++ (tellL l a b).1 ∈ l)) = true := by
  rw [tell_fine ok ha hb] at h ⊢
  cases hx : apartL l a b with
  | nil => rw [hx] at h; simp [tellR] at h
  | cons e r =>
    have : e ∈ apartL l a b := by rw [hx]; simp
    rcases mem_apart.1 this with ⟨h1, h2⟩ | ⟨h1, h2⟩ <;> simp [tellR, h1, h2]
theorem tell_none {l : List Bs} (ok : Ok l) {a b : Bs} (ha : wordErr a = 0) (hb : wordErr b = 0) (h : (tellL l a b).2 ≠ 0) : apartL l a b = [] ∧ tellL l a b = ([], 5) := by
  rw [tell_fine ok ha hb] at h ⊢
  cases hx : apartL l a b with
  | nil => exact ⟨rfl, rfl⟩
  | cons e r => rw [hx] at h; simp [tellR] at h
theorem word_snoc {a : Bs} {b : UInt8} (ha : wordErr a = 0) (hl : a.length < 10) (hb : lett b = true) : wordErr (a ++ [b]) = 0 := by
  have h1 : letters a = true := by
    unfold wordErr at ha
    rw [if_neg (by omega)] at ha
    exact Classical.byContradiction fun hn => by rw [if_neg hn] at ha; cases ha
  exact wordErr_0 (by simp; omega) (by rw [letters_app, h1]; simp [letters, hb])
theorem tell_more {l : List Bs} (ok : Ok l) {a b : Bs} {c : UInt8} (ha : wordErr a = 0) (hb : wordErr b = 0) (hc : lett c = true) (hla : a.length < 10) (hlb : b.length < 10) (h : (tellL l a b).2 ≠ 0) : tellL l (a ++ [c]) (b ++ [c]) = ([], 5) := by
  have h1 := (tell_none ok ha hb h).1
  rw [tell_fine ok (word_snoc ha hla hc) (word_snoc hb hlb hc)]
  have h2 : apartL l (a ++ [c]) (b ++ [c]) = [] := by
    refine List.eq_nil_iff_forall_not_mem.2 (fun e he => ?_)
    have h3 : c :: e ∈ apartL l a b := by
      rw [mem_apart] at he ⊢
      simpa using he
    rw [h1] at h3; cases h3
  rw [h2]; rfl
theorem letter_mod (c : Nat) : ∃ b : UInt8, (97 + (c : Int) % 26) = (b.toNat : Int) ∧ lett b = true := by
  refine ⟨UInt8.ofNat (97 + c % 26), ?_, ?_⟩
  · rw [UInt8.toNat_ofNat_of_lt' (by show 97 + c % 26 < 256; omega)]; omega
  · unfold lett
    rw [UInt8.toNat_ofNat_of_lt' (by show 97 + c % 26 < 256; omega)]
    simp; omega

/-- burin/burinlaw11.IndexTold -/
theorem ok3 : FnOk Tryz.prog 3 := fnok Tryz.func3 (by kernel_rfl) rfl
set_option maxRecDepth 10000 in
theorem w3 {h : Hp} {v : Value} {l : List Bs} (one two : Bs) (c : Nat) (hc : c ≤ 255) (hl : Strs h v l) : CallsH Tryz.prog 3 #[v, S one, S two, .int .u8 (c : Int)] h (fun r h' => r = .bool true ∧ Ext h h') := by
  have hl0 := hl
  refine enter ok3 Tryz.func3 rfl Tryz.ntmps3 (by simp) (fun w0 => ?_)
  repeat refine x_seq ?_
  refine goes rfl trivial ?_
  repeat refine x_seq ?_
  refine x_reg ?_
  refine go 1 rfl trivial ?_
  refine ops_call rfl rfl rfl (w10 hl) ?_
  rintro _ hq ⟨rfl, e9⟩
  obtain rfl := e9.symm
  refine go 2 rfl trivial ?_
  refine ops_bool 19 rfl (fun c1 => ?_) (fun c1 => ?_)
  · refine go 1000 rfl trivial (ops_nil ?_)
    repeat refine x_seq ?_
    refine x_true rfl ?_
    repeat refine x_seq ?_
    refine x_reg ?_
    refine ops_call rfl rfl rfl (w11) ?_
    rintro _ hw ⟨rfl, hew⟩
    refine go 1000 rfl trivial (ops_nil ?_)
    repeat refine x_seq ?_
    exact x_ret (at_ret rfl rfl rfl rfl ⟨rfl, hew⟩ (.inl rfl))
  · refine go 5 rfl trivial ?_
    refine ops_dec 24 rfl (fun c2 => ?_) (fun c2 => ?_)
    · refine go 1000 rfl trivial (ops_nil ?_)
      repeat refine x_seq ?_
      refine x_true rfl ?_
      repeat refine x_seq ?_
      refine x_reg ?_
      refine ops_call rfl rfl rfl (w11) ?_
      rintro _ hw ⟨rfl, hew⟩
      refine go 1000 rfl trivial (ops_nil ?_)
      repeat refine x_seq ?_
      exact x_ret (at_ret rfl rfl rfl rfl ⟨rfl, hew⟩ (.inl rfl))
    · refine go 1000 rfl trivial (ops_nil ?_)
      repeat refine x_seq ?_
      refine x_ifd rfl (fun c3 => ?_) (fun c3 => ?_)
      · repeat refine x_seq ?_
        refine x_reg ?_
        refine ops_call rfl rfl rfl (w11) ?_
        rintro _ hw ⟨rfl, hew⟩
        refine go 1000 rfl trivial (ops_nil ?_)
        repeat refine x_seq ?_
        exact x_ret (at_ret rfl rfl rfl rfl ⟨rfl, hew⟩ (.inl rfl))
      · repeat refine x_seq ?_
        refine x_skip ?_
        repeat refine x_seq ?_
        have hfine : fine l = true := by simpa using c1
        have hck : checkList l = 0 := by unfold fine at hfine; simp at hfine; exact hfine.2
        have ok := ok_of hck
        have hsm : Small l := ⟨by have := ok.few; omega, fun s hs => by have := ok.short s hs; omega⟩
        refine x_reg ?_
        refine go 3 rfl trivial ?_
        refine ops_call rfl rfl rfl (w12 one two hsm (by omega) (by omega) hl) ?_
        rintro _ h2 ⟨rfl, he2⟩
        refine go 1000 rfl trivial (ops_nil ?_)
        repeat refine x_seq ?_
        refine x_reg ?_
        refine go 3 rfl trivial ?_
        refine ops_call rfl rfl rfl (w12 two one hsm (by omega) (by omega) (hl.ext he2)) ?_
        rintro _ h3 ⟨rfl, he3⟩
        have he23 := he2.trans he3
        refine go 1000 rfl trivial (ops_nil ?_)
        repeat refine x_seq ?_
        refine x_reg ?_
        refine go 1 rfl trivial ?_
        refine ops_call rfl rfl rfl (w13 one (by omega)) ?_
        rintro _ hq ⟨rfl, e9⟩
        obtain rfl := e9.symm
        refine go 2 rfl trivial ?_
        refine ops_dec 47 rfl (fun c4 => ?_) (fun c4 => ?_)
        · refine go 1000 rfl trivial (ops_nil ?_)
          repeat refine x_seq ?_
          refine x_true rfl ?_
          repeat refine x_seq ?_
          have herr := tell_err ok (a := one) (b := two) (by omega)
          have herr' := tell_err ok (a := two) (b := one) (by omega)
          refine x_reg ?_
          refine go 3 rfl trivial ?_
          refine ops_dec 54 rfl (fun c5 => ?_) (fun c5 => ?_)
          · refine go 4 rfl trivial ?_
            refine ops_dec 58 rfl (fun c6 => ?_) (fun c6 => ?_)
            · refine go 4 rfl trivial ?_
              refine ops_dec 62 rfl (fun c7 => ?_) (fun c7 => ?_)
              · refine go 4 rfl trivial ?_
                refine ops_dec 66 rfl (fun c8 => ?_) (fun c8 => ?_)
                · refine ops_guard_yes rfl rfl rfl ?_
                  refine ops_call rfl rfl rfl (w11) ?_
                  rintro _ hw ⟨rfl, hew⟩
                  refine go 1000 rfl trivial (ops_nil ?_)
                  repeat refine x_seq ?_
                  exact x_ret (at_ret rfl rfl rfl rfl ⟨rfl, he23.trans hew⟩ (.inl rfl))
                · exact absurd herr'.1 c8
              · exact absurd herr.1 c7
            · exact absurd herr'.2 c6
          · exact absurd herr.2 c5
        · refine go 1 rfl trivial ?_
          refine ops_guard_yes rfl rfl rfl ?_
          refine ops_call rfl rfl rfl (w13 two (by omega)) ?_
          rintro _ hq ⟨rfl, e9⟩
          obtain rfl := e9.symm
          refine go 1000 rfl trivial (ops_nil ?_)
          repeat refine x_seq ?_
          refine x_ifd rfl (fun c9 => ?_) (fun c9 => ?_)
          · repeat refine x_seq ?_
            have herr := tell_err ok (a := one) (b := two) (by omega)
            have herr' := tell_err ok (a := two) (b := one) (by omega)
            refine x_reg ?_
            refine go 3 rfl trivial ?_
            refine ops_dec 54 rfl (fun c10 => ?_) (fun c10 => ?_)
            · refine go 4 rfl trivial ?_
              refine ops_dec 58 rfl (fun c11 => ?_) (fun c11 => ?_)
              · refine go 4 rfl trivial ?_
                refine ops_dec 62 rfl (fun c12 => ?_) (fun c12 => ?_)
                · refine go 4 rfl trivial ?_
                  refine ops_dec 66 rfl (fun c13 => ?_) (fun c13 => ?_)
                  · refine ops_guard_yes rfl rfl rfl ?_
                    refine ops_call rfl rfl rfl (w11) ?_
                    rintro _ hw ⟨rfl, hew⟩
                    refine go 1000 rfl trivial (ops_nil ?_)
                    repeat refine x_seq ?_
                    exact x_ret (at_ret rfl rfl rfl rfl ⟨rfl, he23.trans hew⟩ (.inl rfl))
                  · exact absurd herr'.1 c13
                · exact absurd herr.1 c12
              · exact absurd herr'.2 c11
            · exact absurd herr.2 c10
          · repeat refine x_seq ?_
            refine x_skip ?_
            repeat refine x_seq ?_
            have hw1 : wordErr one = 0 := by omega
            have hw2 : wordErr two = 0 := by omega
            have hsw := tell_swap ok hw1 hw2
            refine x_reg ?_
            refine go 4 rfl trivial ?_
            refine ops_dec 72 rfl (fun c14 => ?_) (fun c14 => ?_)
            · exact absurd (congrArg (·.1) hsw) c14
            · refine go 1000 rfl trivial (ops_nil ?_)
              repeat refine x_seq ?_
              refine x_ifd rfl (fun c15 => ?_) (fun c15 => ?_)
              · exact absurd (congrArg (·.2) hsw) c15
              · repeat refine x_seq ?_
                refine x_skip ?_
                repeat refine x_seq ?_
                refine goes rfl trivial ?_
                repeat refine x_seq ?_
                refine x_ifd rfl (fun c16 => ?_) (fun c16 => ?_)
                · repeat refine x_seq ?_
                  refine x_reg ?_
                  refine go 4 rfl ⟨by first | omega | (simp only [inK]; omega) | (have h9 := tell_len ok one two; omega) | (simp only [List.length_cons, List.length_nil]; omega), trivial⟩ ?_
                  refine ops_call rfl rfl rfl (w14 (one ++ (tellL l one two).1) (by have := ok.few; omega) (hl.ext he23)) ?_
                  rintro _ hq ⟨rfl, e9⟩
                  obtain rfl := e9.symm
                  refine go 4 rfl ⟨by first | omega | (simp only [inK]; omega) | (have h9 := tell_len ok one two; omega) | (simp only [List.length_cons, List.length_nil]; omega), trivial⟩ ?_
                  refine ops_call rfl rfl rfl (w14 (two ++ (tellL l one two).1) (by have := ok.few; omega) (hl.ext he23)) ?_
                  rintro _ hq ⟨rfl, e9⟩
                  obtain rfl := e9.symm
                  refine go 2 rfl trivial ?_
                  refine ops_bool 90 rfl (fun c17 => ?_) (fun c17 => ?_)
                  · refine ops_guard_yes rfl rfl rfl ?_
                    refine ops_call rfl rfl rfl (w11) ?_
                    rintro _ hw ⟨rfl, hew⟩
                    refine go 1000 rfl trivial (ops_nil ?_)
                    repeat refine x_seq ?_
                    exact x_ret (at_ret rfl rfl rfl rfl ⟨rfl, he23.trans hew⟩ (.inl rfl))
                  · rw [tell_found ok hw1 hw2 c16] at c17; cases c17
                · repeat refine x_seq ?_
                  refine x_skip ?_
                  repeat refine x_seq ?_
                  obtain ⟨b, hb1, hb2⟩ := letter_mod c
                  have c99 : (tellL l one two).2 ≠ 0 := c16
                  have htn := (tell_none ok hw1 hw2 c99).2
                  refine x_reg ?_
                  refine go 3 rfl ⟨by first | omega | (simp only [inK]; omega) | (have h9 := tell_len ok one two; omega) | (simp only [List.length_cons, List.length_nil]; omega), by first | omega | (simp only [inK]; omega) | (have h9 := tell_len ok one two; omega) | (simp only [List.length_cons, List.length_nil]; omega), trivial⟩ ?_
                  rw [hb1]
                  refine ops_buildSlice (cs := [U b]) tabOk rfl rfl rfl rfl rfl rfl rfl rfl rfl ?_
                  intro h4 hn4
                  refine ops_fromBytes (l := [b]) tabOk rfl rfl rfl rfl rfl rfl rfl (Sl.of_new hn4 rfl (Nat.le_refl _)) rfl ?_
                  refine go 1000 rfl trivial (ops_nil ?_)
                  repeat refine x_seq ?_
                  refine x_reg ?_
                  refine go 4 rfl trivial ?_
                  refine ops_dec 101 rfl (fun c18 => ?_) (fun c18 => ?_)
                  · refine go 1000 rfl trivial (ops_nil ?_)
                    repeat refine x_seq ?_
                    refine x_true rfl ?_
                    repeat refine x_seq ?_
                    refine x_reg ?_
                    refine go 3 rfl trivial ?_
                    refine ops_dec 108 rfl (fun c19 => ?_) (fun c19 => ?_)
                    · refine ops_guard_yes rfl rfl rfl ?_
                      refine ops_call rfl rfl rfl (w11) ?_
                      rintro _ hw ⟨rfl, hew⟩
                      refine go 1000 rfl trivial (ops_nil ?_)
                      repeat refine x_seq ?_
                      exact x_ret (at_ret rfl rfl rfl rfl ⟨rfl, (he23.trans hn4.ext).trans hew⟩ (.inl rfl))
                    · exact absurd (congrArg (·.2) htn) c19
                  · refine go 1000 rfl trivial (ops_nil ?_)
                    repeat refine x_seq ?_
                    refine x_ifd rfl (fun c20 => ?_) (fun c20 => ?_)
                    · repeat refine x_seq ?_
                      refine x_reg ?_
                      refine go 3 rfl trivial ?_
                      refine ops_dec 108 rfl (fun c21 => ?_) (fun c21 => ?_)
                      · refine ops_guard_yes rfl rfl rfl ?_
                        refine ops_call rfl rfl rfl (w11) ?_
                        rintro _ hw ⟨rfl, hew⟩
                        refine go 1000 rfl trivial (ops_nil ?_)
                        repeat refine x_seq ?_
                        exact x_ret (at_ret rfl rfl rfl rfl ⟨rfl, (he23.trans hn4.ext).trans hew⟩ (.inl rfl))
                      · exact absurd (congrArg (·.2) htn) c21
                    · repeat refine x_seq ?_
                      refine x_skip ?_
                      repeat refine x_seq ?_
                      refine x_reg ?_
                      refine go 7 rfl ⟨by first | omega | (simp only [inK]; omega) | (have h9 := tell_len ok one two; omega) | (simp only [List.length_cons, List.length_nil]; omega), by first | omega | (simp only [inK]; omega) | (have h9 := tell_len ok one two; omega) | (simp only [List.length_cons, List.length_nil]; omega), trivial⟩ ?_
                      refine ops_call rfl rfl rfl (w12 (one ++ [b]) (two ++ [b]) hsm (by simp; omega) (by simp; omega) (hl.ext (he23.trans hn4.ext))) ?_
                      rintro _ h5 ⟨rfl, he5⟩
                      have he25 := (he23.trans hn4.ext).trans he5
                      rw [tell_more ok hw1 hw2 hb2 (by omega) (by omega) c99]
                      refine go 1000 rfl trivial (ops_nil ?_)
                      repeat refine x_seq ?_
                      refine x_reg ?_
                      refine go 3 rfl trivial ?_
                      refine ops_dec 124 rfl (fun c22 => ?_) (fun c22 => ?_)
                      · refine go 4 rfl trivial ?_
                        refine ops_dec 128 rfl (fun c23 => ?_) (fun c23 => ?_)
                        · refine go 4 rfl trivial ?_
                          refine ops_dec 132 rfl (fun c24 => ?_) (fun c24 => ?_)
                          · refine ops_guard_yes rfl rfl rfl ?_
                            refine ops_call rfl rfl rfl (w11) ?_
                            rintro _ hw ⟨rfl, hew⟩
                            refine go 1000 rfl trivial (ops_nil ?_)
                            repeat refine x_seq ?_
                            exact x_ret (at_ret rfl rfl rfl rfl ⟨rfl, he25.trans hew⟩ (.inl rfl))
                          · exact absurd rfl c24
                        · exact absurd rfl c23
                      · exact absurd (congrArg (·.2) htn) c22

end Go.Proofs.YtmfgiabmmdbmoaaGreatDoor
