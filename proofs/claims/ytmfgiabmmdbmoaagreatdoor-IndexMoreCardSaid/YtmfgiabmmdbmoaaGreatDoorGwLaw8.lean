/-
  A part of the proofs of the laws of the index: what the functions of this program compute. Conditions: none beyond those that its theorems name.
-/
import Derived.Test.YtmfgiabmmdbmoaaGreatDoorGwLaw6
import Derived.Test.YtmfgiabmmdbmoaaGreatDoorGwIx8
namespace Go.Proofs.YtmfgiabmmdbmoaaGreatDoor
open Go.Gw Go.Ix Go.Sort

theorem states_len (l : List Bs) : (statesL l).length = (firsts l).length := by unfold statesL; simp
theorem small_one {w : Bs} (h : w.length ≤ 20) : Small [w] := ⟨by simp, fun s hs => by rw [List.mem_singleton] at hs; subst hs; omega⟩
theorem join_few {l : List Bs} {w : Bs} (hl : l.Pairwise (· < ·)) (h : l.length < 30) : ¬ 30 < (joinL l [w]).length := by
  have := join_len hl (List.pairwise_singleton (· < ·) w)
  simp at this
  omega
theorem ok_fine {l : List Bs} (h : Ok l) : fine l = true := by
  unfold fine
  have h1 : great l = false := by
    unfold great
    simp only [Bool.or_eq_false_iff, decide_eq_false_iff_not, List.any_eq_false, decide_eq_true_eq]
    exact ⟨by have := h.few; omega, fun s hs => by have := h.short s hs; omega⟩
  rw [h1, of_ok h]; rfl

/-- burin/burinlaw11.IndexMore -/
theorem ok8 : FnOk Tryz.prog 8 := fnok Tryz.func8 (by kernel_rfl) rfl
set_option maxRecDepth 10000 in
theorem w8 {h : Hp} {v : Value} {l : List Bs} (word : Bs) (hl : Strs h v l) : CallsH Tryz.prog 8 #[v, S word] h (fun r h' => r = .bool true ∧ Ext h h') := by
  have hlo := hl
  obtain ⟨a, cap, rfl, hcap, hl⟩ := Strs.op hl
  refine enter ok8 Tryz.func8 rfl Tryz.ntmps8 (by simp) (fun w0 => ?_)
  repeat refine x_seq ?_
  refine goes rfl trivial ?_
  repeat refine x_seq ?_
  refine x_reg ?_
  refine go 1 rfl trivial ?_
  refine ops_call rfl rfl rfl (w10 hlo) ?_
  rintro _ hq ⟨rfl, e9⟩
  obtain rfl := e9.symm
  refine go 2 rfl trivial ?_
  refine ops_bool 14 rfl (fun c1 => ?_) (fun c1 => ?_)
  · refine go 1000 rfl trivial (ops_nil ?_)
    repeat refine x_seq ?_
    refine x_true rfl ?_
    repeat refine x_seq ?_
    refine x_reg ?_
    refine ops_call rfl rfl rfl (w11) ?_
    rintro _ hw ⟨rfl, hew⟩
    refine go 1000 rfl trivial (ops_nil ?_)
    repeat refine x_seq ?_
    exact x_ret (at_ret rfl rfl rfl rfl ⟨rfl, hew⟩ (.inl rfl))
  · refine go 5 rfl trivial ?_
    refine ops_dec 19 rfl (fun c2 => ?_) (fun c2 => ?_)
    · refine go 1000 rfl trivial (ops_nil ?_)
      repeat refine x_seq ?_
      refine x_true rfl ?_
      repeat refine x_seq ?_
      refine x_reg ?_
      refine ops_call rfl rfl rfl (w11) ?_
      rintro _ hw ⟨rfl, hew⟩
      refine go 1000 rfl trivial (ops_nil ?_)
      repeat refine x_seq ?_
      exact x_ret (at_ret rfl rfl rfl rfl ⟨rfl, hew⟩ (.inl rfl))
    · refine go 5 rfl trivial ?_
      refine ops_dec 24 rfl (fun c3 => ?_) (fun c3 => ?_)
      · refine go 1000 rfl trivial (ops_nil ?_)
        repeat refine x_seq ?_
        refine x_true rfl ?_
        repeat refine x_seq ?_
        refine x_reg ?_
        refine ops_call rfl rfl rfl (w11) ?_
        rintro _ hw ⟨rfl, hew⟩
        refine go 1000 rfl trivial (ops_nil ?_)
        repeat refine x_seq ?_
        exact x_ret (at_ret rfl rfl rfl rfl ⟨rfl, hew⟩ (.inl rfl))
      · refine go 1 rfl trivial ?_
        refine ops_guard_yes rfl rfl rfl ?_
        refine ops_buildSlice (cs := [S word]) tabOk rfl rfl rfl rfl rfl rfl rfl rfl rfl ?_
        intro h1 hn1
        refine ops_guard_yes rfl rfl rfl ?_
        refine ops_call rfl rfl rfl (w20 (l := [word]) (small_one (by omega)) (Sl.of_new hn1 rfl (Nat.le_refl _))) ?_
        rintro _ hq ⟨rfl, e9⟩
        obtain rfl := e9.symm
        refine go 1000 rfl trivial (ops_nil ?_)
        repeat refine x_seq ?_
        refine x_ifd rfl (fun c4 => ?_) (fun c4 => ?_)
        · repeat refine x_seq ?_
          refine x_reg ?_
          refine ops_call rfl rfl rfl (w11) ?_
          rintro _ hw ⟨rfl, hew⟩
          refine go 1000 rfl trivial (ops_nil ?_)
          repeat refine x_seq ?_
          exact x_ret (at_ret rfl rfl rfl rfl ⟨rfl, hn1.ext.trans hew⟩ (.inl rfl))
        · repeat refine x_seq ?_
          refine x_skip ?_
          repeat refine x_seq ?_
          have ok : Ok l := fine_ok (by simpa using c1)
          have hck : checkList [word] = 0 := by omega
          have okw : Ok [word] := ok_of hck
          have hfew : ¬ 30 < (joinL l [word]).length := join_few ok.sorted (by omega)
          have okm : Ok (joinL l [word]) := join_ok ok okw hfew
          have hjs : joinS l [word] = (joinL l [word], 0) := by rw [joinS_ok ok okw, if_neg hfew]
          refine x_reg ?_
          refine go 2 rfl trivial ?_
          refine ops_buildSlice (cs := [S word]) tabOk rfl rfl rfl rfl rfl rfl rfl rfl rfl ?_
          intro h2 hn2
          refine ops_call rfl rfl rfl (w17 (a := l) (b := [word]) ok.sm okw.sm (hlo.ext (hn1.ext.trans hn2.ext)) (Sl.of_new hn2 rfl (Nat.le_refl _))) ?_
          rintro _ h3 ⟨vx, rfl, hx, he3⟩
          rw [hjs] at hx ⊢
          replace hx : Strs _ vx (joinL l [word]) := hx
          obtain ⟨ax, cx, rfl, -, -⟩ := Strs.op hx
          refine go 1000 rfl trivial (ops_nil ?_)
          repeat refine x_seq ?_
          have he13 := (hn1.ext.trans hn2.ext).trans he3
          refine x_reg ?_
          refine go 3 rfl trivial ?_
          refine ops_dec 40 rfl (fun c5 => ?_) (fun c5 => ?_)
          · exact absurd rfl c5
          · refine go 1 rfl trivial ?_
            refine ops_guard_yes rfl rfl rfl ?_
            refine ops_call rfl rfl rfl (w10 (l := joinL l [word]) hx) ?_
            rintro _ hq ⟨rfl, e9⟩
            obtain rfl := e9.symm
            refine go 1000 rfl trivial (ops_nil ?_)
            repeat refine x_seq ?_
            refine x_if rfl (fun c6 => ?_) (fun c6 => ?_)
            · rw [ok_fine okm] at c6; cases c6
            · repeat refine x_seq ?_
              refine x_skip ?_
              repeat refine x_seq ?_
              refine x_reg ?_
              refine go 1 rfl trivial ?_
              refine ops_call rfl rfl rfl (w21 ok (hlo.ext he13)) ?_
              rintro _ h4 ⟨vs, rfl, hs4, he4⟩
              refine go 1000 rfl trivial (ops_nil ?_)
              repeat refine x_seq ?_
              refine x_reg ?_
              refine go 1 rfl trivial ?_
              refine ops_call rfl rfl rfl (w21 (l := joinL l [word]) okm (hx.ext he4)) ?_
              rintro _ h5 ⟨vt, rfl, hs5, he5⟩
              refine go 1000 rfl trivial (ops_nil ?_)
              repeat refine x_seq ?_
              have hbound := firsts_more ok okm
              have hl1 := states_len l
              have hl2 := states_len (joinL l [word])
              have he15 := (he13.trans he4).trans he5
              have h31 := firsts_301 ok
              have h32 := firsts_301 okm
              obtain ⟨a4, c4', rfl, -, -⟩ := id hs4
              obtain ⟨a5, c5', rfl, -, -⟩ := id hs5
              refine x_reg ?_
              refine go 2 rfl trivial ?_
              refine ops_bool 56 rfl (fun c7 => ?_) (fun c7 => ?_)
              · refine go 3 rfl trivial ?_
                refine ops_bool 59 rfl (fun c8 => ?_) (fun c8 => ?_)
                · refine go 10 rfl ⟨by first | omega | (simp only [inK]; omega), trivial⟩ ?_
                  refine ops_dec 69 rfl (fun c9 => ?_) (fun c9 => ?_)
                  · refine ops_guard_yes rfl rfl rfl ?_
                    refine ops_call rfl rfl rfl (w11) ?_
                    rintro _ hw ⟨rfl, hew⟩
                    refine go 1000 rfl trivial (ops_nil ?_)
                    repeat refine x_seq ?_
                    exact x_ret (at_ret rfl rfl rfl rfl ⟨rfl, he15.trans hew⟩ (.inl rfl))
                  · exact absurd (by omega) c9
                · cases c8
              · cases c7

end Go.Proofs.YtmfgiabmmdbmoaaGreatDoor
