/-
  A part of the proofs of the laws of the index: what the functions of this program compute. Conditions: none beyond those that its theorems name.
-/
import Derived.Test.YtmfgiabmmdbmoaaGreatDoorGwLaw3
import Derived.Test.YtmfgiabmmdbmoaaGreatDoorGwIx6
namespace Go.Proofs.YtmfgiabmmdbmoaaGreatDoor
open Go.Gw Go.Ix Go.Sort

theorem fine_ok {l : List Bs} (h : fine l = true) : Ok l := ok_of (by unfold fine at h; simp at h; exact h.2)
theorem bothS_ok {a b : List Bs} (ha : Ok a) (hb : Ok b) : bothS a b = (bothF a b, 0) := by unfold bothS; rw [if_neg (by rw [two_ok ha hb]; simp)]
theorem joinS_swap {a b : List Bs} (ha : Ok a) (hb : Ok b) : joinS b a = joinS a b := by rw [joinS_ok hb ha, joinS_ok ha hb, join_swap b a]
theorem joinS_self {a : List Bs} (ha : Ok a) : joinS a a = (a, 0) := by
  rw [joinS_ok ha ha, join_self ha.sorted, if_neg (by have := ha.few; omega)]
theorem joinS_len {a b : List Bs} (ha : Ok a) (hb : Ok b) : (joinS a b).1.length ≤ 30 := by
  rw [joinS_ok ha hb]; split
  · simp
  · simp only; omega

/-- burin/burinlaw11.IndexJoined -/
theorem ok5 : FnOk Tryz.prog 5 := fnok Tryz.func5 (by kernel_rfl) rfl
set_option maxRecDepth 10000 in
theorem w5 {h : Hp} {v v' : Value} {a b : List Bs} (hl0 : Strs h v a) (hl1 : Strs h v' b) : CallsH Tryz.prog 5 #[v, v'] h (fun r h' => r = .bool true ∧ Ext h h') := by
  have hE := Ext.refl h
  obtain ⟨aa, ca, rfl, -, -⟩ := id hl0.op
  obtain ⟨ab, cb, rfl, -, -⟩ := id hl1.op
  refine enter ok5 Tryz.func5 rfl Tryz.ntmps5 (by simp) (fun w0 => ?_)
  repeat refine x_seq ?_
  refine goes rfl trivial ?_
  repeat refine x_seq ?_
  refine x_reg ?_
  refine go 1 rfl trivial ?_
  refine ops_call rfl rfl rfl (w10 hl0) ?_
  rintro _ hq ⟨rfl, e9⟩
  obtain rfl := e9.symm
  refine go 2 rfl trivial ?_
  refine ops_bool 20 rfl (fun c1 => ?_) (fun c1 => ?_)
  · refine go 1000 rfl trivial (ops_nil ?_)
    repeat refine x_seq ?_
    refine x_true rfl ?_
    repeat refine x_seq ?_
    refine x_reg ?_
    refine ops_call rfl rfl rfl (w11) ?_
    rintro _ hw ⟨rfl, hew⟩
    have hEw := hE.trans hew
    refine go 1000 rfl trivial (ops_nil ?_)
    repeat refine x_seq ?_
    exact x_ret (at_ret rfl rfl rfl rfl ⟨rfl, hEw⟩ (.inl rfl))
  · refine go 1 rfl trivial ?_
    refine ops_guard_yes rfl rfl rfl ?_
    refine ops_call rfl rfl rfl (w10 hl1) ?_
    rintro _ hq ⟨rfl, e9⟩
    obtain rfl := e9.symm
    refine go 1000 rfl trivial (ops_nil ?_)
    repeat refine x_seq ?_
    refine x_if rfl (fun c2 => ?_) (fun c2 => ?_)
    · repeat refine x_seq ?_
      refine x_reg ?_
      refine ops_call rfl rfl rfl (w11) ?_
      rintro _ hw ⟨rfl, hew⟩
      have hEw := hE.trans hew
      refine go 1000 rfl trivial (ops_nil ?_)
      repeat refine x_seq ?_
      exact x_ret (at_ret rfl rfl rfl rfl ⟨rfl, hEw⟩ (.inl rfl))
    · repeat refine x_seq ?_
      refine x_skip ?_
      repeat refine x_seq ?_
      have oka : Ok a := fine_ok (by simpa using c1)
      have okb : Ok b := fine_ok (by simpa using c2)
      have ha30 := oka.few
      have hb30 := okb.few
      refine x_reg ?_
      refine go 2 rfl trivial ?_
      refine ops_call rfl rfl rfl (w17 oka.sm okb.sm hl0 hl1) ?_
      rintro _ hh ⟨vx, rfl, hx, he⟩
      
      replace hE := hE.trans he
      replace hl0 := hl0.ext he
      replace hl1 := hl1.ext he
      refine go 1000 rfl trivial (ops_nil ?_)
      repeat refine x_seq ?_
      refine x_reg ?_
      refine go 2 rfl trivial ?_
      refine ops_call rfl rfl rfl (w17 okb.sm oka.sm hl1 hl0) ?_
      rintro _ hh ⟨vy, rfl, hy, he⟩
      rw [joinS_swap oka okb] at hy ⊢
      replace hy : Strs hh vy (joinS a b).1 := hy
      replace hE := hE.trans he
      replace hl0 := hl0.ext he
      replace hl1 := hl1.ext he
      replace hx := hx.ext he
      refine go 1000 rfl trivial (ops_nil ?_)
      repeat refine x_seq ?_
      refine x_reg ?_
      refine go 2 rfl trivial ?_
      refine ops_call rfl rfl rfl (w18 oka.sm okb.sm hl0 hl1) ?_
      rintro _ hh ⟨vu, rfl, hu, he⟩
      rw [bothS_ok oka okb] at hu ⊢
      replace hu : Strs hh vu (bothF a b) := hu
      replace hE := hE.trans he
      replace hl0 := hl0.ext he
      replace hl1 := hl1.ext he
      replace hx := hx.ext he
      replace hy := hy.ext he
      refine go 1000 rfl trivial (ops_nil ?_)
      repeat refine x_seq ?_
      refine x_reg ?_
      refine go 2 rfl trivial ?_
      refine ops_call rfl rfl rfl (w18 okb.sm oka.sm hl1 hl0) ?_
      rintro _ hh ⟨vv, rfl, hv, he⟩
      rw [bothS_ok okb oka, ← both_swap oka.sorted okb.sorted] at hv ⊢
      replace hv : Strs hh vv (bothF a b) := hv
      replace hE := hE.trans he
      replace hl0 := hl0.ext he
      replace hl1 := hl1.ext he
      replace hx := hx.ext he
      replace hy := hy.ext he
      replace hu := hu.ext he
      refine go 1000 rfl trivial (ops_nil ?_)
      repeat refine x_seq ?_
      refine x_reg ?_
      refine go 2 rfl trivial ?_
      refine ops_call rfl rfl rfl (w17 oka.sm oka.sm hl0 hl0) ?_
      rintro _ hh ⟨vs, rfl, hs, he⟩
      rw [joinS_self oka] at hs ⊢
      replace hs : Strs hh vs a := hs
      replace hE := hE.trans he
      replace hl0 := hl0.ext he
      replace hl1 := hl1.ext he
      replace hx := hx.ext he
      replace hy := hy.ext he
      replace hu := hu.ext he
      replace hv := hv.ext he
      refine go 1000 rfl trivial (ops_nil ?_)
      repeat refine x_seq ?_
      refine x_reg ?_
      refine go 2 rfl trivial ?_
      refine ops_call rfl rfl rfl (w18 oka.sm oka.sm hl0 hl0) ?_
      rintro _ hh ⟨vt, rfl, ht, he⟩
      rw [bothS_ok oka oka, both_self] at ht ⊢
      replace ht : Strs hh vt a := ht
      replace hE := hE.trans he
      replace hl0 := hl0.ext he
      replace hl1 := hl1.ext he
      replace hx := hx.ext he
      replace hy := hy.ext he
      replace hu := hu.ext he
      replace hv := hv.ext he
      replace hs := hs.ext he
      refine go 1000 rfl trivial (ops_nil ?_)
      repeat refine x_seq ?_
      have hulen : (bothF a b).length ≤ a.length := List.length_filter_le _ _
      obtain ⟨au, cu, rfl, -, -⟩ := Strs.op hu
      have hjl := joinS_len oka okb
      have hjn := join_len oka.sorted okb.sorted
      have hjs := joinS_ok oka okb
      refine x_reg ?_
      refine go 4 rfl trivial ?_
      refine ops_dec 65 rfl (fun c3 => ?_) (fun c3 => ?_)
      · exact absurd rfl c3
      · refine go 2 rfl trivial ?_
        refine ops_guard_yes rfl rfl rfl ?_
        refine ops_call rfl rfl rfl (callsH_to (w19 (l := (joinS a b).1) (l' := (joinS a b).1) (by omega) hx hy) rfl) ?_
        rintro _ hq ⟨rfl, e9⟩
        obtain rfl := e9.symm
        refine go 13 rfl trivial ?_
        refine ops_guard_yes rfl rfl rfl ?_
        refine ops_call rfl rfl rfl (callsH_to (w19 (l := bothF a b) (l' := bothF a b) (by omega) hu hv) rfl) ?_
        rintro _ hq ⟨rfl, e9⟩
        obtain rfl := e9.symm
        refine go 9 rfl trivial ?_
        refine ops_guard_yes rfl rfl rfl ?_
        refine ops_call rfl rfl rfl (callsH_to (w19 (l := a) (l' := a) (by omega) hs hl0) rfl) ?_
        rintro _ hq ⟨rfl, e9⟩
        obtain rfl := e9.symm
        refine go 9 rfl trivial ?_
        refine ops_guard_yes rfl rfl rfl ?_
        refine ops_call rfl rfl rfl (callsH_to (w19 (l := a) (l' := a) (by omega) ht hl0) rfl) ?_
        rintro _ hq ⟨rfl, e9⟩
        obtain rfl := e9.symm
        refine go 5 rfl trivial ?_
        refine ops_guard_yes rfl rfl rfl ?_
        refine ops_call rfl rfl rfl (callsH_to (w16 (l := bothF a b) (l' := a) (by omega) (by omega) hu hl0) (fun s hs => (mem_both.1 hs).1)) ?_
        rintro _ hq ⟨rfl, e9⟩
        obtain rfl := e9.symm
        refine go 5 rfl trivial ?_
        refine ops_guard_yes rfl rfl rfl ?_
        refine ops_call rfl rfl rfl (callsH_to (w16 (l := bothF a b) (l' := b) (by omega) (by omega) hu hl1) (fun s hs => (mem_both.1 hs).2)) ?_
        rintro _ hq ⟨rfl, e9⟩
        obtain rfl := e9.symm
        refine go 1000 rfl trivial (ops_nil ?_)
        repeat refine x_seq ?_
        refine x_false rfl ?_
        repeat refine x_seq ?_
        refine x_skip ?_
        repeat refine x_seq ?_
        refine goes rfl trivial ?_
        repeat refine x_seq ?_
        refine x_ifd rfl (fun c4 => ?_) (fun c4 => ?_)
        · repeat refine x_seq ?_
          have c98 : 30 < (joinL a b).length := Classical.byContradiction fun hgt => c4 (by rw [hjs, if_neg hgt])
          rw [if_pos c98] at hjs
          rw [hjs]
          refine x_reg ?_
          refine go 3 rfl trivial ?_
          refine ops_dec 121 rfl (fun c5 => ?_) (fun c5 => ?_)
          · refine go 11 rfl ⟨by first | omega | (simp only [inK]; omega), by first | omega | (simp only [inK]; omega), trivial⟩ ?_
            refine ops_dec 132 rfl (fun c6 => ?_) (fun c6 => ?_)
            · refine ops_guard_yes rfl rfl rfl ?_
              refine ops_call rfl rfl rfl (w11) ?_
              rintro _ hw ⟨rfl, hew⟩
              have hEw := hE.trans hew
              refine go 1000 rfl trivial (ops_nil ?_)
              repeat refine x_seq ?_
              exact x_ret (at_ret rfl rfl rfl rfl ⟨rfl, hEw⟩ (.inl rfl))
            · omega
          · exact absurd rfl c5
        · repeat refine x_seq ?_
          refine x_skip ?_
          repeat refine x_seq ?_
          have c99 : ¬ 30 < (joinL a b).length := fun hgt => c4 (by rw [hjs, if_pos hgt]; simp)
          rw [if_neg c99] at hjs
          rw [hjs] at hx ⊢
          replace hx : Strs _ vx (joinL a b) := hx
          obtain ⟨ax, cx, rfl, -, -⟩ := Strs.op hx
          refine x_reg ?_
          refine go 1 rfl trivial ?_
          refine ops_call rfl rfl rfl (w20 (join_ok oka okb c99).sm hx) ?_
          rintro _ hq ⟨rfl, e9⟩
          obtain rfl := e9.symm
          rw [of_ok (join_ok oka okb c99)]
          refine go 15 rfl ⟨by first | omega | (simp only [inK]; omega), by first | omega | (simp only [inK]; omega), trivial⟩ ?_
          refine ops_dec 151 rfl (fun c7 => ?_) (fun c7 => ?_)
          · refine go 2 rfl trivial ?_
            refine ops_guard_yes rfl rfl rfl ?_
            refine ops_call rfl rfl rfl (callsH_to (w16 (l := a) (l' := joinL a b) (by omega) (by omega) hl0 hx) (fun s hs => mem_join.2 (.inl hs))) ?_
            rintro _ hq ⟨rfl, e9⟩
            obtain rfl := e9.symm
            refine go 4 rfl trivial ?_
            refine ops_guard_yes rfl rfl rfl ?_
            refine ops_call rfl rfl rfl (callsH_to (w16 (l := b) (l' := joinL a b) (by omega) (by omega) hl1 hx) (fun s hs => mem_join.2 (.inr hs))) ?_
            rintro _ hq ⟨rfl, e9⟩
            obtain rfl := e9.symm
            refine go 2 rfl trivial ?_
            refine ops_guard_yes rfl rfl rfl ?_
            refine ops_call rfl rfl rfl (w11) ?_
            rintro _ hw ⟨rfl, hew⟩
            have hEw := hE.trans hew
            refine go 1000 rfl trivial (ops_nil ?_)
            repeat refine x_seq ?_
            exact x_ret (at_ret rfl rfl rfl rfl ⟨rfl, hEw⟩ (.inl rfl))
          · omega

end Go.Proofs.YtmfgiabmmdbmoaaGreatDoor
