/-
  A part of the proofs of the laws of the index: what the functions of this program compute. Conditions: none beyond those that its theorems name.
-/
import Derived.Test.YtmfgiabmmdbmoaaGreatDoorGwLaw3
namespace Go.Proofs.YtmfgiabmmdbmoaaGreatDoor
open Go.Gw Go.Ix Go.Sort

theorem tell4r : tellL L4 wB wBa = ([114], 0) := by
  unfold tellL apartL; rw [srt_is (l' := [[114], [116], [97, 114], [97, 116]]) (by decide +kernel) (by decide +kernel)]; decide +kernel
theorem tell4n : tellL L4 wBar wCat = ([], 5) := by
  unfold tellL apartL; rw [srt_is (l' := []) (by decide +kernel) (by decide +kernel)]; decide +kernel
theorem apart3 : apartR L3 = ([[], wA, wAb], 0) := by
  unfold apartR; rw [if_neg (by rw [chk3]; simp), if_neg (by decide), firsts3]
theorem capart4b : apartN L4 [wBar, wCar] = (0, 25) := by decide +kernel
theorem capart4c : apartN L4 [[], wBa, [120]] = (0, 25) := by decide +kernel
theorem capart4d : apartN L4 [[], wB, wBa, wCat] = (4, 0) := by decide +kernel
theorem near4c : nearL L4 wBar 1 = ([wBar, wBat, wCar], 0) := by decide +kernel
theorem near4d : nearL L4 [120] 2 = ([], 0) := by decide +kernel
def St0 : List St := [⟨0, [], []⟩]
theorem build0 : buildL [] = (St0, 0) := by
  unfold buildL; rw [if_neg (by decide +kernel)]
  have : statesL [] = St0 := by
    show (firsts []).map (fun w => (⟨if w ∈ ([] : List Bs) then 1 else 0, outs [] w, (outs [] w).map fun c => ix (fun v => decide (form [] v = form [] (w ++ [c]))) (firsts [])⟩ : St)) = St0
    rw [firsts_empty]; decide +kernel
  rw [this]

/-- burin/burinlaw11.IndexKnown -/
theorem ok9 : FnOk Tryz.prog 9 := fnok Tryz.func9 (by kernel_rfl) rfl
set_option maxRecDepth 10000 in
theorem w9 {h : Hp} : CallsH Tryz.prog 9 #[] h (fun r h' => r = .bool true ∧ Ext h h') := by
  have hE := Ext.refl h
  refine enter ok9 Tryz.func9 rfl Tryz.ntmps9 (by simp) (fun w0 => ?_)
  repeat refine x_seq ?_
  refine goes rfl trivial ?_
  repeat refine x_seq ?_
  refine x_reg ?_
  refine ops_call rfl rfl rfl (w23) ?_
  rintro v4 hh ⟨h4, he⟩
  replace hE := hE.trans he
  refine ops_call rfl rfl rfl (w24) ?_
  rintro v3 hh ⟨h3, he⟩
  replace hE := hE.trans he
  replace h4 := h4.ext he
  refine go 1000 rfl trivial (ops_nil ?_)
  repeat refine x_seq ?_
  refine x_reg ?_
  refine go 1 rfl trivial ?_
  refine ops_call rfl rfl rfl (w12 wB wBa sm4 (by decide) (by decide) h4) ?_
  rintro _ hh ⟨rfl, he⟩
  rw [tell4r]
  replace hE := hE.trans he
  replace h4 := h4.ext he
  replace h3 := h3.ext he
  refine go 1000 rfl trivial (ops_nil ?_)
  repeat refine x_seq ?_
  refine x_reg ?_
  refine go 1 rfl trivial ?_
  refine ops_call rfl rfl rfl (w12 wBar wCat sm4 (by decide) (by decide) h4) ?_
  rintro _ hh ⟨rfl, he⟩
  rw [tell4n]
  replace hE := hE.trans he
  replace h4 := h4.ext he
  replace h3 := h3.ext he
  refine go 1000 rfl trivial (ops_nil ?_)
  repeat refine x_seq ?_
  refine x_reg ?_
  refine go 1 rfl trivial ?_
  refine ops_call rfl rfl rfl (w25 sm3 h3) ?_
  rintro _ hh ⟨vap, rfl, hap, he⟩
  rw [apart3] at hap ⊢
  replace hE := hE.trans he
  replace h4 := h4.ext he
  replace h3 := h3.ext he
  refine go 1000 rfl trivial (ops_nil ?_)
  repeat refine x_seq ?_
  refine x_reg ?_
  refine go 1 rfl trivial ?_
  refine ops_buildSlice (cs := ([wBar, wCar]).map S) tabOk rfl rfl rfl rfl rfl rfl rfl rfl rfl ?_
  intro hh hn
  replace hE := hE.trans hn.ext
  replace h4 := h4.ext hn.ext
  replace h3 := h3.ext hn.ext
  replace hap := hap.ext hn.ext
  have hbs1 : Strs hh (.slice (some ⟨_, 0, none⟩) _ _) ([wBar, wCar]) := Sl.of_new hn rfl (Nat.le_refl _)
  refine ops_call rfl rfl rfl (w27 _) ?_
  rintro _ hq ⟨rfl, e9⟩
  obtain rfl := e9.symm
  refine ops_call rfl rfl rfl (w26 sm4 ⟨by decide, by decide⟩ h4 hbs1) ?_
  rintro _ hh ⟨rfl, he⟩
  rw [capart4b]
  replace hE := hE.trans he
  replace h4 := h4.ext he
  replace h3 := h3.ext he
  replace hap := hap.ext he
  replace hbs1 := hbs1.ext he
  refine go 1000 rfl trivial (ops_nil ?_)
  repeat refine x_seq ?_
  refine x_reg ?_
  refine go 1 rfl trivial ?_
  refine ops_buildSlice (cs := ([[], wBa, [120]]).map S) tabOk rfl rfl rfl rfl rfl rfl rfl rfl rfl ?_
  intro hh hn
  replace hE := hE.trans hn.ext
  replace h4 := h4.ext hn.ext
  replace h3 := h3.ext hn.ext
  replace hap := hap.ext hn.ext
  replace hbs1 := hbs1.ext hn.ext
  have hbs2 : Strs hh (.slice (some ⟨_, 0, none⟩) _ _) ([[], wBa, [120]]) := Sl.of_new hn rfl (Nat.le_refl _)
  refine ops_call rfl rfl rfl (w27 _) ?_
  rintro _ hq ⟨rfl, e9⟩
  obtain rfl := e9.symm
  refine ops_call rfl rfl rfl (w26 sm4 ⟨by decide, by decide⟩ h4 hbs2) ?_
  rintro _ hh ⟨rfl, he⟩
  rw [capart4c]
  replace hE := hE.trans he
  replace h4 := h4.ext he
  replace h3 := h3.ext he
  replace hap := hap.ext he
  replace hbs1 := hbs1.ext he
  replace hbs2 := hbs2.ext he
  refine go 1000 rfl trivial (ops_nil ?_)
  repeat refine x_seq ?_
  refine x_reg ?_
  refine go 1 rfl trivial ?_
  refine ops_call rfl rfl rfl (w15 wBar 1 sm4 (by decide) h4) ?_
  rintro _ hh ⟨vnr, rfl, hnr, he⟩
  rw [near4c] at hnr ⊢
  replace hE := hE.trans he
  replace h4 := h4.ext he
  replace h3 := h3.ext he
  replace hap := hap.ext he
  replace hbs1 := hbs1.ext he
  replace hbs2 := hbs2.ext he
  refine go 1000 rfl trivial (ops_nil ?_)
  repeat refine x_seq ?_
  refine x_reg ?_
  refine go 1 rfl trivial ?_
  refine ops_call rfl rfl rfl (w15 [120] 2 sm4 (by decide) h4) ?_
  rintro _ hh ⟨vnr2, rfl, hnr2, he⟩
  rw [near4d] at hnr2 ⊢
  replace hE := hE.trans he
  replace h4 := h4.ext he
  replace h3 := h3.ext he
  replace hap := hap.ext he
  replace hbs1 := hbs1.ext he
  replace hbs2 := hbs2.ext he
  replace hnr := hnr.ext he
  obtain ⟨an2, cn2, rfl, -, -⟩ := id hnr2.op
  refine go 1000 rfl trivial (ops_nil ?_)
  repeat refine x_seq ?_
  refine x_reg ?_
  refine ops_call rfl rfl rfl (w28 (l := []) ⟨by decide, by decide⟩ (Sl.nil _)) ?_
  rintro _ hh ⟨vs0, rfl, hs0, he⟩
  rw [build0] at hs0 ⊢
  replace hE := hE.trans he
  replace h4 := h4.ext he
  replace h3 := h3.ext he
  replace hap := hap.ext he
  replace hbs1 := hbs1.ext he
  replace hbs2 := hbs2.ext he
  replace hnr := hnr.ext he
  replace hnr2 := hnr2.ext he
  refine go 1000 rfl trivial (ops_nil ?_)
  repeat refine x_seq ?_
  refine x_reg ?_
  refine go 1 rfl trivial ?_
  refine ops_buildSlice (cs := ([[], wB, wBa, wCat]).map S) tabOk rfl rfl rfl rfl rfl rfl rfl rfl rfl ?_
  intro hh hn
  replace hE := hE.trans hn.ext
  replace h4 := h4.ext hn.ext
  replace h3 := h3.ext hn.ext
  replace hap := hap.ext hn.ext
  replace hbs1 := hbs1.ext hn.ext
  replace hbs2 := hbs2.ext hn.ext
  replace hnr := hnr.ext hn.ext
  replace hnr2 := hnr2.ext hn.ext
  replace hs0 := hs0.ext hn.ext
  have hbs3 : Strs hh (.slice (some ⟨_, 0, none⟩) _ _) ([[], wB, wBa, wCat]) := Sl.of_new hn rfl (Nat.le_refl _)
  refine ops_call rfl rfl rfl (w27 _) ?_
  rintro _ hq ⟨rfl, e9⟩
  obtain rfl := e9.symm
  refine ops_call rfl rfl rfl (w26 sm4 ⟨by decide, by decide⟩ h4 hbs3) ?_
  rintro _ hh ⟨rfl, he⟩
  rw [capart4d]
  replace hE := hE.trans he
  replace h4 := h4.ext he
  replace h3 := h3.ext he
  replace hap := hap.ext he
  replace hbs1 := hbs1.ext he
  replace hbs2 := hbs2.ext he
  replace hnr := hnr.ext he
  replace hnr2 := hnr2.ext he
  replace hs0 := hs0.ext he
  replace hbs3 := hbs3.ext he
  refine go 1000 rfl trivial (ops_nil ?_)
  repeat refine x_seq ?_
  refine x_reg ?_
  refine go 16 rfl trivial ?_
  refine ops_guard_yes rfl rfl rfl ?_
  refine ops_buildSlice (cs := ([[], wA, wAb]).map S) tabOk rfl rfl rfl rfl rfl rfl rfl rfl rfl ?_
  intro hh hn
  replace hE := hE.trans hn.ext
  replace h4 := h4.ext hn.ext
  replace h3 := h3.ext hn.ext
  replace hap := hap.ext hn.ext
  replace hbs1 := hbs1.ext hn.ext
  replace hbs2 := hbs2.ext hn.ext
  replace hnr := hnr.ext hn.ext
  replace hnr2 := hnr2.ext hn.ext
  replace hs0 := hs0.ext hn.ext
  replace hbs3 := hbs3.ext hn.ext
  have hbs4 : Strs hh (.slice (some ⟨_, 0, none⟩) _ _) ([[], wA, wAb]) := Sl.of_new hn rfl (Nat.le_refl _)
  refine ops_guard_yes rfl rfl rfl ?_
  refine ops_call rfl rfl rfl (w27 _) ?_
  rintro _ hq ⟨rfl, e9⟩
  obtain rfl := e9.symm
  refine ops_guard_yes rfl rfl rfl ?_
  refine ops_call rfl rfl rfl (callsH_to (w19 (l := [[], wA, wAb]) (l' := [[], wA, wAb]) (by decide) hap hbs4) rfl) ?_
  rintro _ hq ⟨rfl, e9⟩
  obtain rfl := e9.symm
  refine go 15 rfl trivial ?_
  refine ops_guard_yes rfl rfl rfl ?_
  refine ops_buildSlice (cs := ([wBar, wBat, wCar]).map S) tabOk rfl rfl rfl rfl rfl rfl rfl rfl rfl ?_
  intro hh hn
  replace hE := hE.trans hn.ext
  replace h4 := h4.ext hn.ext
  replace h3 := h3.ext hn.ext
  replace hap := hap.ext hn.ext
  replace hbs1 := hbs1.ext hn.ext
  replace hbs2 := hbs2.ext hn.ext
  replace hnr := hnr.ext hn.ext
  replace hnr2 := hnr2.ext hn.ext
  replace hs0 := hs0.ext hn.ext
  replace hbs3 := hbs3.ext hn.ext
  replace hbs4 := hbs4.ext hn.ext
  have hbs5 : Strs hh (.slice (some ⟨_, 0, none⟩) _ _) ([wBar, wBat, wCar]) := Sl.of_new hn rfl (Nat.le_refl _)
  refine ops_guard_yes rfl rfl rfl ?_
  refine ops_call rfl rfl rfl (w27 _) ?_
  rintro _ hq ⟨rfl, e9⟩
  obtain rfl := e9.symm
  refine ops_guard_yes rfl rfl rfl ?_
  refine ops_call rfl rfl rfl (callsH_to (w19 (l := [wBar, wBat, wCar]) (l' := [wBar, wBat, wCar]) (by decide) hnr hbs5) rfl) ?_
  rintro _ hq ⟨rfl, e9⟩
  obtain rfl := e9.symm
  refine go 16 rfl trivial ?_
  refine ops_guard_yes rfl rfl rfl ?_
  refine ops_call rfl rfl rfl (w29 0 [] _ _ _) ?_
  rintro _ hh ⟨rfl, he⟩
  replace hE := hE.trans he
  replace h4 := h4.ext he
  replace h3 := h3.ext he
  replace hap := hap.ext he
  replace hbs1 := hbs1.ext he
  replace hbs2 := hbs2.ext he
  replace hnr := hnr.ext he
  replace hnr2 := hnr2.ext he
  replace hs0 := hs0.ext he
  replace hbs3 := hbs3.ext he
  replace hbs4 := hbs4.ext he
  replace hbs5 := hbs5.ext he
  refine ops_guard_yes rfl rfl rfl ?_
  refine ops_buildSlice (cs := stC [(⟨0, [], []⟩, .slice none 0 0)]) tabOk rfl rfl rfl rfl rfl rfl rfl rfl rfl ?_
  intro hh hn
  replace hE := hE.trans hn.ext
  replace h4 := h4.ext hn.ext
  replace h3 := h3.ext hn.ext
  replace hap := hap.ext hn.ext
  replace hbs1 := hbs1.ext hn.ext
  replace hbs2 := hbs2.ext hn.ext
  replace hnr := hnr.ext hn.ext
  replace hnr2 := hnr2.ext hn.ext
  replace hs0 := hs0.ext hn.ext
  replace hbs3 := hbs3.ext hn.ext
  replace hbs4 := hbs4.ext hn.ext
  replace hbs5 := hbs5.ext hn.ext
  have hst0 := sts_new hn (by intro p hp; simp only [List.mem_cons, List.not_mem_nil, or_false] at hp; rcases hp with rfl; exact Sl.nil _) (n := 1) rfl
  refine ops_guard_yes rfl rfl rfl ?_
  refine ops_call rfl rfl rfl (callsH_to (w22 (l := St0) (l' := St0) ⟨by decide, by decide⟩ hs0 hst0) rfl) ?_
  rintro _ hq ⟨rfl, e9⟩
  obtain rfl := e9.symm
  refine go 10 rfl trivial ?_
  refine ops_guard_yes rfl rfl rfl ?_
  refine ops_call rfl rfl rfl (w11) ?_
  rintro _ hh ⟨rfl, he⟩
  replace hE := hE.trans he
  replace h4 := h4.ext he
  replace h3 := h3.ext he
  replace hap := hap.ext he
  replace hbs1 := hbs1.ext he
  replace hbs2 := hbs2.ext he
  replace hnr := hnr.ext he
  replace hnr2 := hnr2.ext he
  replace hs0 := hs0.ext he
  replace hbs3 := hbs3.ext he
  replace hbs4 := hbs4.ext he
  replace hbs5 := hbs5.ext he
  replace hst0 := hst0.ext he
  refine go 1000 rfl trivial (ops_nil ?_)
  repeat refine x_seq ?_
  exact x_ret (at_ret rfl rfl rfl rfl ⟨rfl, hE⟩ (.inl rfl))

end Go.Proofs.YtmfgiabmmdbmoaaGreatDoor
