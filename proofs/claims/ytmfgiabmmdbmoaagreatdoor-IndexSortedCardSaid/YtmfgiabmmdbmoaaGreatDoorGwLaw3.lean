/-
  A part of the proofs of the laws of the index: what the functions of this program compute. Conditions: none beyond those that its theorems name.
-/
import Derived.Test.YtmfgiabmmdbmoaaGreatDoorGwLaw2
namespace Go.Proofs.YtmfgiabmmdbmoaaGreatDoor
open Go.Gw Go.Ix Go.Sort

/-! ### The examples of the chapter -/
theorem srt_is {f : Bs → Int} {l l' : List Bs} (hp : l.Perm l') (hs : l'.Pairwise fun x y => (!ltOf (cfF f) y x) = true) : srt f l = l' :=
  (srt_eq f hp).trans (List.mergeSort_of_pairwise hs)
theorem msort_sorted (l : List Bs) : (l.mergeSort fun x y => decide (x ≤ y)).Pairwise fun x y => x ≤ y := by
  have h := List.pairwise_mergeSort (le := fun x y : Bs => decide (x ≤ y)) (fun a b c h1 h2 => by simp only [decide_eq_true_eq] at *; exact List.le_trans h1 h2) (fun a b => by simp only [Bool.or_eq_true, decide_eq_true_eq]; exact List.le_total a b) l
  exact h.imp (fun {a b} h => by simpa using h)
theorem msort_is {l l' : List Bs} (hp : l.Perm l') (hs : l'.Pairwise fun x y => x ≤ y) : (l.mergeSort fun x y => decide (x ≤ y)) = l' :=
  List.Perm.eq_of_pairwise (le := (· ≤ ·)) (fun _ _ _ _ h1 h2 => List.le_antisymm h1 h2) (msort_sorted l) hs ((List.mergeSort_perm l _).trans hp)
abbrev wA : Bs := [97]
abbrev wB : Bs := [98]
abbrev wC : Bs := [99]
abbrev wAb : Bs := [97, 98]
abbrev wBa : Bs := [98, 97]
abbrev wBar : Bs := [98, 97, 114]
abbrev wBat : Bs := [98, 97, 116]
abbrev wCar : Bs := [99, 97, 114]
abbrev wCat : Bs := [99, 97, 116]
abbrev wCab : Bs := [99, 97, 98]
def St4 : List St := [⟨0, [98, 99], [1, 1]⟩, ⟨0, [97], [2]⟩, ⟨0, [114, 116], [3, 3]⟩, ⟨1, [], []⟩]
def St3 : List St := [⟨0, [97, 98], [1, 2]⟩, ⟨1, [98], [2]⟩, ⟨1, [], []⟩]
theorem chk4 : checkList L4 = 0 := by decide +kernel
theorem chk3 : checkList L3 = 0 := by decide +kernel
theorem sm4 : Small L4 := ⟨by decide, by decide⟩
theorem sm3 : Small L3 := ⟨by decide, by decide⟩
theorem firsts4 : firsts L4 = [[], wB, wBa, wBar] := srt_is (by decide +kernel) (by decide +kernel)
theorem firsts3 : firsts L3 = [[], wA, wAb] := srt_is (by decide +kernel) (by decide +kernel)
theorem st4 : statesL L4 = St4 := by
  show (firsts L4).map (fun w => (⟨if w ∈ L4 then 1 else 0, outs L4 w, (outs L4 w).map fun c => ix (fun v => decide (form L4 v = form L4 (w ++ [c]))) (firsts L4)⟩ : St)) = St4
  rw [firsts4]; decide +kernel
theorem st3 : statesL L3 = St3 := by
  show (firsts L3).map (fun w => (⟨if w ∈ L3 then 1 else 0, outs L3 w, (outs L3 w).map fun c => ix (fun v => decide (form L3 v = form L3 (w ++ [c]))) (firsts L3)⟩ : St)) = St3
  rw [firsts3]; decide +kernel
theorem build4 : buildL L4 = (St4, 0) := by unfold buildL; rw [if_neg (by rw [chk4]; simp), st4]
theorem build3 : buildL L3 = (St3, 0) := by unfold buildL; rw [if_neg (by rw [chk3]; simp), st3]
theorem rd4 : Reads St4 L4 := by rw [← st4]; exact reads_states (ok_of chk4)
theorem rd3 : Reads St3 L3 := by rw [← st3]; exact reads_states (ok_of chk3)
theorem tell3 : tellL L3 wA wB = (wB, 0) := by
  unfold tellL apartL; rw [srt_is (l' := [wB]) (by decide +kernel) (by decide +kernel)]; decide +kernel
theorem tell4 : tellL L4 wB wC = ([], 5) := by
  unfold tellL apartL; rw [srt_is (l' := []) (by decide +kernel) (by decide +kernel)]; decide +kernel
theorem apart4 : apartR L4 = ([[], wB, wBa, wBar], 0) := by
  unfold apartR; rw [if_neg (by rw [chk4]; simp), if_neg (by decide), firsts4]
theorem capart4 : apartN L4 [[], wB, wC] = (0, 25) := by decide +kernel
theorem near4 : nearL L4 wBa 1 = ([wBar, wBat], 0) := by decide +kernel
theorem near4' : nearL L4 wBar 3 = ([], 3) := by decide +kernel
theorem join43 : joinS L4 L3 = ([wA, wAb, wB, wBar, wBat, wCar, wCat], 0) := by
  unfold joinS joinL; rw [msort_is (l' := [wA, wAb, wB, wBar, wBat, wCar, wCat]) (by decide +kernel) (by decide +kernel)]; decide +kernel
theorem both4 : bothS L4 [wBat, wCab] = ([wBat], 0) := by decide +kernel
theorem num4 : numberR L4 wCar = (2, 0) := by decide +kernel
theorem num4' : numberR L4 wCab = (0, 5) := by decide +kernel
theorem name4 : nameR L4 3 = (wCat, 0) := by decide +kernel
theorem name4' : nameR L4 4 = ([], 3) := by decide +kernel
theorem sts_new {L : List (St × Value)} {h h' : Hp} {fz : Nat × Nat} (hn : New h h' (.cells ⟨stC L⟩ 43 fz)) (hi : ∀ p ∈ L, Ints h' p.2 p.1.next) {n : Nat} (hl : n = L.length) : Sts h' (.slice (some ⟨h.size, 0, none⟩) n n) (L.map (·.1)) := by
  subst hl
  refine ⟨some ⟨h.size, 0, none⟩, L.length, by simp, by simp, fun i hi' => ⟨_, rfl, ?_⟩⟩
  have hi2 : i < L.length := by simpa using hi'
  refine ⟨L[i].2, fun j u hj => ?_, ?_⟩
  · have hj3 : j < 3 := by have := (List.getElem?_eq_some_iff.1 hj).1; simpa using this
    rw [add_head, add_at, hcell_block hn.get, scl_eq]
    simp only [List.getElem?_toArray]
    rw [stC_at L i hi2 j hj3]
    simpa using hj
  · have := hi L[i] (List.getElem_mem hi2)
    simpa using this
theorem callsH_to {P : Program} {f : FuncId} {args : Array Value} {h : Hp} {φ : Prop} [Decidable φ] (hc : CallsH P f args h (fun v h' => v = .bool (decide φ) ∧ h' = h)) (hφ : φ) : CallsH P f args h (fun v h' => v = .bool true ∧ h' = h) :=
  hc.mono (by rintro _ _ ⟨rfl, rfl⟩; exact ⟨by rw [decide_eq_true hφ], rfl⟩)

/-- burin/burinlaw11.Works -/
theorem ok11 : FnOk Tryz.prog 11 := fnok Tryz.func11 (by kernel_rfl) rfl
set_option maxRecDepth 10000 in
theorem w11 {h : Hp} : CallsH Tryz.prog 11 #[] h (fun r h' => r = .bool true ∧ Ext h h') := by
  have hE := Ext.refl h
  refine enter ok11 Tryz.func11 rfl Tryz.ntmps11 (by simp) (fun w0 => ?_)
  repeat refine x_seq ?_
  refine goes rfl trivial ?_
  repeat refine x_seq ?_
  refine x_reg ?_
  refine ops_call rfl rfl rfl (w23) ?_
  rintro v4 hh ⟨h4, he⟩
  replace hE := hE.trans he
  refine ops_call rfl rfl rfl (w24) ?_
  rintro v3 hh ⟨h3, he⟩
  replace hE := hE.trans he
  replace h4 := h4.ext he
  refine go 1000 rfl trivial (ops_nil ?_)
  repeat refine x_seq ?_
  refine x_reg ?_
  refine go 1 rfl trivial ?_
  refine ops_call rfl rfl rfl (w28 sm4 h4) ?_
  rintro _ hh ⟨vs4, rfl, hs4, he⟩
  rw [build4] at hs4 ⊢
  replace hE := hE.trans he
  replace h4 := h4.ext he
  replace h3 := h3.ext he
  refine go 1000 rfl trivial (ops_nil ?_)
  repeat refine x_seq ?_
  refine x_reg ?_
  refine go 1 rfl trivial ?_
  refine ops_call rfl rfl rfl (w28 sm3 h3) ?_
  rintro _ hh ⟨vs3, rfl, hs3, he⟩
  rw [build3] at hs3 ⊢
  replace hE := hE.trans he
  replace h4 := h4.ext he
  replace h3 := h3.ext he
  replace hs4 := hs4.ext he
  refine go 1000 rfl trivial (ops_nil ?_)
  repeat refine x_seq ?_
  refine x_reg ?_
  refine go 1 rfl trivial ?_
  refine ops_call rfl rfl rfl (w31 rd3 hs3) ?_
  rintro _ hh ⟨vn, rfl, hn3, he⟩
  replace hE := hE.trans he
  replace h4 := h4.ext he
  replace h3 := h3.ext he
  replace hs4 := hs4.ext he
  replace hs3 := hs3.ext he
  refine go 1000 rfl trivial (ops_nil ?_)
  repeat refine x_seq ?_
  refine x_reg ?_
  refine go 1 rfl trivial ?_
  refine ops_call rfl rfl rfl (w32 wCar (by decide) rd4 hs4) ?_
  rintro _ hh ⟨rfl, he⟩
  rw [num4]
  replace hE := hE.trans he
  replace h4 := h4.ext he
  replace h3 := h3.ext he
  replace hs4 := hs4.ext he
  replace hs3 := hs3.ext he
  replace hn3 := hn3.ext he
  refine go 1000 rfl trivial (ops_nil ?_)
  repeat refine x_seq ?_
  refine x_reg ?_
  refine go 1 rfl trivial ?_
  refine ops_call rfl rfl rfl (w32 wCab (by decide) rd4 hs4) ?_
  rintro _ hh ⟨rfl, he⟩
  rw [num4']
  replace hE := hE.trans he
  replace h4 := h4.ext he
  replace h3 := h3.ext he
  replace hs4 := hs4.ext he
  replace hs3 := hs3.ext he
  replace hn3 := hn3.ext he
  refine go 1000 rfl trivial (ops_nil ?_)
  repeat refine x_seq ?_
  refine x_reg ?_
  refine go 1 rfl trivial ?_
  refine ops_call rfl rfl rfl (w33 3 rd4 hs4) ?_
  rintro _ hh ⟨rfl, he⟩
  rw [name4]
  replace hE := hE.trans he
  replace h4 := h4.ext he
  replace h3 := h3.ext he
  replace hs4 := hs4.ext he
  replace hs3 := hs3.ext he
  replace hn3 := hn3.ext he
  refine go 1000 rfl trivial (ops_nil ?_)
  repeat refine x_seq ?_
  refine x_reg ?_
  refine go 1 rfl trivial ?_
  refine ops_call rfl rfl rfl (w33 4 rd4 hs4) ?_
  rintro _ hh ⟨rfl, he⟩
  rw [name4']
  replace hE := hE.trans he
  replace h4 := h4.ext he
  replace h3 := h3.ext he
  replace hs4 := hs4.ext he
  replace hs3 := hs3.ext he
  replace hn3 := hn3.ext he
  refine go 1000 rfl trivial (ops_nil ?_)
  repeat refine x_seq ?_
  refine x_reg ?_
  refine go 1 rfl trivial ?_
  refine ops_call rfl rfl rfl (w12 wA wB sm3 (by decide) (by decide) h3) ?_
  rintro _ hh ⟨rfl, he⟩
  rw [tell3]
  replace hE := hE.trans he
  replace h4 := h4.ext he
  replace h3 := h3.ext he
  replace hs4 := hs4.ext he
  replace hs3 := hs3.ext he
  replace hn3 := hn3.ext he
  refine go 1000 rfl trivial (ops_nil ?_)
  repeat refine x_seq ?_
  refine x_reg ?_
  refine go 1 rfl trivial ?_
  refine ops_call rfl rfl rfl (w12 wB wC sm4 (by decide) (by decide) h4) ?_
  rintro _ hh ⟨rfl, he⟩
  rw [tell4]
  replace hE := hE.trans he
  replace h4 := h4.ext he
  replace h3 := h3.ext he
  replace hs4 := hs4.ext he
  replace hs3 := hs3.ext he
  replace hn3 := hn3.ext he
  refine go 1000 rfl trivial (ops_nil ?_)
  repeat refine x_seq ?_
  refine x_reg ?_
  refine go 1 rfl trivial ?_
  refine ops_call rfl rfl rfl (w25 sm4 h4) ?_
  rintro _ hh ⟨vap, rfl, hap, he⟩
  rw [apart4] at hap ⊢
  replace hE := hE.trans he
  replace h4 := h4.ext he
  replace h3 := h3.ext he
  replace hs4 := hs4.ext he
  replace hs3 := hs3.ext he
  replace hn3 := hn3.ext he
  refine go 1000 rfl trivial (ops_nil ?_)
  repeat refine x_seq ?_
  refine x_reg ?_
  refine go 1 rfl trivial ?_
  refine ops_buildSlice (cs := ([[], wB, wC]).map S) tabOk rfl rfl rfl rfl rfl rfl rfl rfl rfl ?_
  intro hh hn
  replace hE := hE.trans hn.ext
  replace h4 := h4.ext hn.ext
  replace h3 := h3.ext hn.ext
  replace hs4 := hs4.ext hn.ext
  replace hs3 := hs3.ext hn.ext
  replace hn3 := hn3.ext hn.ext
  replace hap := hap.ext hn.ext
  have hbs1 : Strs hh (.slice (some ⟨_, 0, none⟩) _ _) ([[], wB, wC]) := Sl.of_new hn rfl (Nat.le_refl _)
  refine ops_call rfl rfl rfl (w27 _) ?_
  rintro _ hq ⟨rfl, e9⟩
  obtain rfl := e9.symm
  refine ops_call rfl rfl rfl (w26 sm4 ⟨by decide, by decide⟩ h4 hbs1) ?_
  rintro _ hh ⟨rfl, he⟩
  rw [capart4]
  replace hE := hE.trans he
  replace h4 := h4.ext he
  replace h3 := h3.ext he
  replace hs4 := hs4.ext he
  replace hs3 := hs3.ext he
  replace hn3 := hn3.ext he
  replace hap := hap.ext he
  replace hbs1 := hbs1.ext he
  refine go 1000 rfl trivial (ops_nil ?_)
  repeat refine x_seq ?_
  refine x_reg ?_
  refine go 1 rfl trivial ?_
  refine ops_call rfl rfl rfl (w15 wBa 1 sm4 (by decide) h4) ?_
  rintro _ hh ⟨vnr, rfl, hnr, he⟩
  rw [near4] at hnr ⊢
  replace hE := hE.trans he
  replace h4 := h4.ext he
  replace h3 := h3.ext he
  replace hs4 := hs4.ext he
  replace hs3 := hs3.ext he
  replace hn3 := hn3.ext he
  replace hap := hap.ext he
  replace hbs1 := hbs1.ext he
  refine go 1000 rfl trivial (ops_nil ?_)
  repeat refine x_seq ?_
  refine x_reg ?_
  refine go 1 rfl trivial ?_
  refine ops_call rfl rfl rfl (w15 wBar 3 sm4 (by decide) h4) ?_
  rintro _ hh ⟨vnr2, rfl, hnr2, he⟩
  rw [near4'] at hnr2 ⊢
  replace hE := hE.trans he
  replace h4 := h4.ext he
  replace h3 := h3.ext he
  replace hs4 := hs4.ext he
  replace hs3 := hs3.ext he
  replace hn3 := hn3.ext he
  replace hap := hap.ext he
  replace hbs1 := hbs1.ext he
  replace hnr := hnr.ext he
  refine go 1000 rfl trivial (ops_nil ?_)
  repeat refine x_seq ?_
  refine x_reg ?_
  refine go 2 rfl trivial ?_
  refine ops_call rfl rfl rfl (w17 sm4 sm3 h4 h3) ?_
  rintro _ hh ⟨vjn, rfl, hjn, he⟩
  rw [join43] at hjn ⊢
  replace hE := hE.trans he
  replace h4 := h4.ext he
  replace h3 := h3.ext he
  replace hs4 := hs4.ext he
  replace hs3 := hs3.ext he
  replace hn3 := hn3.ext he
  replace hap := hap.ext he
  replace hbs1 := hbs1.ext he
  replace hnr := hnr.ext he
  replace hnr2 := hnr2.ext he
  refine go 1000 rfl trivial (ops_nil ?_)
  repeat refine x_seq ?_
  refine x_reg ?_
  refine go 1 rfl trivial ?_
  refine ops_buildSlice (cs := ([wBat, wCab]).map S) tabOk rfl rfl rfl rfl rfl rfl rfl rfl rfl ?_
  intro hh hn
  replace hE := hE.trans hn.ext
  replace h4 := h4.ext hn.ext
  replace h3 := h3.ext hn.ext
  replace hs4 := hs4.ext hn.ext
  replace hs3 := hs3.ext hn.ext
  replace hn3 := hn3.ext hn.ext
  replace hap := hap.ext hn.ext
  replace hbs1 := hbs1.ext hn.ext
  replace hnr := hnr.ext hn.ext
  replace hnr2 := hnr2.ext hn.ext
  replace hjn := hjn.ext hn.ext
  have hbs2 : Strs hh (.slice (some ⟨_, 0, none⟩) _ _) ([wBat, wCab]) := Sl.of_new hn rfl (Nat.le_refl _)
  refine ops_call rfl rfl rfl (w27 _) ?_
  rintro _ hq ⟨rfl, e9⟩
  obtain rfl := e9.symm
  refine ops_call rfl rfl rfl (w18 sm4 ⟨by decide, by decide⟩ h4 hbs2) ?_
  rintro _ hh ⟨vbt, rfl, hbt, he⟩
  rw [both4] at hbt ⊢
  replace hE := hE.trans he
  replace h4 := h4.ext he
  replace h3 := h3.ext he
  replace hs4 := hs4.ext he
  replace hs3 := hs3.ext he
  replace hn3 := hn3.ext he
  replace hap := hap.ext he
  replace hbs1 := hbs1.ext he
  replace hnr := hnr.ext he
  replace hnr2 := hnr2.ext he
  replace hjn := hjn.ext he
  replace hbs2 := hbs2.ext he
  refine go 1000 rfl trivial (ops_nil ?_)
  repeat refine x_seq ?_
  refine x_reg ?_
  refine go 1000 rfl trivial (ops_nil ?_)
  repeat refine x_seq ?_
  refine x_false rfl ?_
  repeat refine x_seq ?_
  refine x_skip ?_
  repeat refine x_seq ?_
  refine x_reg ?_
  refine go 1 rfl trivial ?_
  refine ops_buildSlice (cs := ([1, 1]).map I) tabOk rfl rfl rfl rfl rfl rfl rfl rfl rfl ?_
  intro hh hn
  replace hE := hE.trans hn.ext
  replace h4 := h4.ext hn.ext
  replace h3 := h3.ext hn.ext
  replace hs4 := hs4.ext hn.ext
  replace hs3 := hs3.ext hn.ext
  replace hn3 := hn3.ext hn.ext
  replace hap := hap.ext hn.ext
  replace hbs1 := hbs1.ext hn.ext
  replace hnr := hnr.ext hn.ext
  replace hnr2 := hnr2.ext hn.ext
  replace hjn := hjn.ext hn.ext
  replace hbs2 := hbs2.ext hn.ext
  replace hbt := hbt.ext hn.ext
  have hi1 : Ints hh (.slice (some ⟨_, 0, none⟩) _ _) ([1, 1]) := Sl.of_new hn rfl (Nat.le_refl _)
  refine ops_call rfl rfl rfl (w29 0 [98, 99] _ _ _) ?_
  rintro _ hh ⟨rfl, he⟩
  replace hE := hE.trans he
  replace h4 := h4.ext he
  replace h3 := h3.ext he
  replace hs4 := hs4.ext he
  replace hs3 := hs3.ext he
  replace hn3 := hn3.ext he
  replace hap := hap.ext he
  replace hbs1 := hbs1.ext he
  replace hnr := hnr.ext he
  replace hnr2 := hnr2.ext he
  replace hjn := hjn.ext he
  replace hbs2 := hbs2.ext he
  replace hbt := hbt.ext he
  replace hi1 := hi1.ext he
  refine ops_buildSlice (cs := ([2]).map I) tabOk rfl rfl rfl rfl rfl rfl rfl rfl rfl ?_
  intro hh hn
  replace hE := hE.trans hn.ext
  replace h4 := h4.ext hn.ext
  replace h3 := h3.ext hn.ext
  replace hs4 := hs4.ext hn.ext
  replace hs3 := hs3.ext hn.ext
  replace hn3 := hn3.ext hn.ext
  replace hap := hap.ext hn.ext
  replace hbs1 := hbs1.ext hn.ext
  replace hnr := hnr.ext hn.ext
  replace hnr2 := hnr2.ext hn.ext
  replace hjn := hjn.ext hn.ext
  replace hbs2 := hbs2.ext hn.ext
  replace hbt := hbt.ext hn.ext
  replace hi1 := hi1.ext hn.ext
  have hi2 : Ints hh (.slice (some ⟨_, 0, none⟩) _ _) ([2]) := Sl.of_new hn rfl (Nat.le_refl _)
  refine ops_call rfl rfl rfl (w29 0 [97] _ _ _) ?_
  rintro _ hh ⟨rfl, he⟩
  replace hE := hE.trans he
  replace h4 := h4.ext he
  replace h3 := h3.ext he
  replace hs4 := hs4.ext he
  replace hs3 := hs3.ext he
  replace hn3 := hn3.ext he
  replace hap := hap.ext he
  replace hbs1 := hbs1.ext he
  replace hnr := hnr.ext he
  replace hnr2 := hnr2.ext he
  replace hjn := hjn.ext he
  replace hbs2 := hbs2.ext he
  replace hbt := hbt.ext he
  replace hi1 := hi1.ext he
  replace hi2 := hi2.ext he
  refine ops_buildSlice (cs := ([3, 3]).map I) tabOk rfl rfl rfl rfl rfl rfl rfl rfl rfl ?_
  intro hh hn
  replace hE := hE.trans hn.ext
  replace h4 := h4.ext hn.ext
  replace h3 := h3.ext hn.ext
  replace hs4 := hs4.ext hn.ext
  replace hs3 := hs3.ext hn.ext
  replace hn3 := hn3.ext hn.ext
  replace hap := hap.ext hn.ext
  replace hbs1 := hbs1.ext hn.ext
  replace hnr := hnr.ext hn.ext
  replace hnr2 := hnr2.ext hn.ext
  replace hjn := hjn.ext hn.ext
  replace hbs2 := hbs2.ext hn.ext
  replace hbt := hbt.ext hn.ext
  replace hi1 := hi1.ext hn.ext
  replace hi2 := hi2.ext hn.ext
  have hi3 : Ints hh (.slice (some ⟨_, 0, none⟩) _ _) ([3, 3]) := Sl.of_new hn rfl (Nat.le_refl _)
  refine ops_call rfl rfl rfl (w29 0 [114, 116] _ _ _) ?_
  rintro _ hh ⟨rfl, he⟩
  replace hE := hE.trans he
  replace h4 := h4.ext he
  replace h3 := h3.ext he
  replace hs4 := hs4.ext he
  replace hs3 := hs3.ext he
  replace hn3 := hn3.ext he
  replace hap := hap.ext he
  replace hbs1 := hbs1.ext he
  replace hnr := hnr.ext he
  replace hnr2 := hnr2.ext he
  replace hjn := hjn.ext he
  replace hbs2 := hbs2.ext he
  replace hbt := hbt.ext he
  replace hi1 := hi1.ext he
  replace hi2 := hi2.ext he
  replace hi3 := hi3.ext he
  refine ops_call rfl rfl rfl (w29 1 [] _ _ _) ?_
  rintro _ hh ⟨rfl, he⟩
  replace hE := hE.trans he
  replace h4 := h4.ext he
  replace h3 := h3.ext he
  replace hs4 := hs4.ext he
  replace hs3 := hs3.ext he
  replace hn3 := hn3.ext he
  replace hap := hap.ext he
  replace hbs1 := hbs1.ext he
  replace hnr := hnr.ext he
  replace hnr2 := hnr2.ext he
  replace hjn := hjn.ext he
  replace hbs2 := hbs2.ext he
  replace hbt := hbt.ext he
  replace hi1 := hi1.ext he
  replace hi2 := hi2.ext he
  replace hi3 := hi3.ext he
  refine ops_buildSlice (cs := stC [(⟨0, [98, 99], [1, 1]⟩, _), (⟨0, [97], [2]⟩, _), (⟨0, [114, 116], [3, 3]⟩, _), (⟨1, [], []⟩, .slice none 0 0)]) tabOk rfl rfl rfl rfl rfl rfl rfl rfl rfl ?_
  intro hh hn
  replace hE := hE.trans hn.ext
  replace h4 := h4.ext hn.ext
  replace h3 := h3.ext hn.ext
  replace hs4 := hs4.ext hn.ext
  replace hs3 := hs3.ext hn.ext
  replace hn3 := hn3.ext hn.ext
  replace hap := hap.ext hn.ext
  replace hbs1 := hbs1.ext hn.ext
  replace hnr := hnr.ext hn.ext
  replace hnr2 := hnr2.ext hn.ext
  replace hjn := hjn.ext hn.ext
  replace hbs2 := hbs2.ext hn.ext
  replace hbt := hbt.ext hn.ext
  replace hi1 := hi1.ext hn.ext
  replace hi2 := hi2.ext hn.ext
  replace hi3 := hi3.ext hn.ext
  have hst4 := sts_new hn (by intro p hp; simp only [List.mem_cons, List.not_mem_nil, or_false] at hp; rcases hp with rfl | rfl | rfl | rfl <;> first | exact hi1 | exact hi2 | exact hi3 | exact Sl.nil _) (n := 4) rfl
  refine ops_call rfl rfl rfl (callsH_to (w22 (l := St4) (l' := St4) ⟨by decide, by decide⟩ hs4 hst4) rfl) ?_
  rintro _ hq ⟨rfl, e9⟩
  obtain rfl := e9.symm
  refine go 3 rfl trivial ?_
  refine ops_guard_yes rfl rfl rfl ?_
  refine ops_buildSlice (cs := ([1, 2]).map I) tabOk rfl rfl rfl rfl rfl rfl rfl rfl rfl ?_
  intro hh hn
  replace hE := hE.trans hn.ext
  replace h4 := h4.ext hn.ext
  replace h3 := h3.ext hn.ext
  replace hs4 := hs4.ext hn.ext
  replace hs3 := hs3.ext hn.ext
  replace hn3 := hn3.ext hn.ext
  replace hap := hap.ext hn.ext
  replace hbs1 := hbs1.ext hn.ext
  replace hnr := hnr.ext hn.ext
  replace hnr2 := hnr2.ext hn.ext
  replace hjn := hjn.ext hn.ext
  replace hbs2 := hbs2.ext hn.ext
  replace hbt := hbt.ext hn.ext
  replace hi1 := hi1.ext hn.ext
  replace hi2 := hi2.ext hn.ext
  replace hi3 := hi3.ext hn.ext
  replace hst4 := hst4.ext hn.ext
  have hi4 : Ints hh (.slice (some ⟨_, 0, none⟩) _ _) ([1, 2]) := Sl.of_new hn rfl (Nat.le_refl _)
  refine ops_guard_yes rfl rfl rfl ?_
  refine ops_call rfl rfl rfl (w29 0 [97, 98] _ _ _) ?_
  rintro _ hh ⟨rfl, he⟩
  replace hE := hE.trans he
  replace h4 := h4.ext he
  replace h3 := h3.ext he
  replace hs4 := hs4.ext he
  replace hs3 := hs3.ext he
  replace hn3 := hn3.ext he
  replace hap := hap.ext he
  replace hbs1 := hbs1.ext he
  replace hnr := hnr.ext he
  replace hnr2 := hnr2.ext he
  replace hjn := hjn.ext he
  replace hbs2 := hbs2.ext he
  replace hbt := hbt.ext he
  replace hi1 := hi1.ext he
  replace hi2 := hi2.ext he
  replace hi3 := hi3.ext he
  replace hst4 := hst4.ext he
  replace hi4 := hi4.ext he
  refine ops_guard_yes rfl rfl rfl ?_
  refine ops_buildSlice (cs := ([2]).map I) tabOk rfl rfl rfl rfl rfl rfl rfl rfl rfl ?_
  intro hh hn
  replace hE := hE.trans hn.ext
  replace h4 := h4.ext hn.ext
  replace h3 := h3.ext hn.ext
  replace hs4 := hs4.ext hn.ext
  replace hs3 := hs3.ext hn.ext
  replace hn3 := hn3.ext hn.ext
  replace hap := hap.ext hn.ext
  replace hbs1 := hbs1.ext hn.ext
  replace hnr := hnr.ext hn.ext
  replace hnr2 := hnr2.ext hn.ext
  replace hjn := hjn.ext hn.ext
  replace hbs2 := hbs2.ext hn.ext
  replace hbt := hbt.ext hn.ext
  replace hi1 := hi1.ext hn.ext
  replace hi2 := hi2.ext hn.ext
  replace hi3 := hi3.ext hn.ext
  replace hst4 := hst4.ext hn.ext
  replace hi4 := hi4.ext hn.ext
  have hi5 : Ints hh (.slice (some ⟨_, 0, none⟩) _ _) ([2]) := Sl.of_new hn rfl (Nat.le_refl _)
  refine ops_guard_yes rfl rfl rfl ?_
  refine ops_call rfl rfl rfl (w29 1 [98] _ _ _) ?_
  rintro _ hh ⟨rfl, he⟩
  replace hE := hE.trans he
  replace h4 := h4.ext he
  replace h3 := h3.ext he
  replace hs4 := hs4.ext he
  replace hs3 := hs3.ext he
  replace hn3 := hn3.ext he
  replace hap := hap.ext he
  replace hbs1 := hbs1.ext he
  replace hnr := hnr.ext he
  replace hnr2 := hnr2.ext he
  replace hjn := hjn.ext he
  replace hbs2 := hbs2.ext he
  replace hbt := hbt.ext he
  replace hi1 := hi1.ext he
  replace hi2 := hi2.ext he
  replace hi3 := hi3.ext he
  replace hst4 := hst4.ext he
  replace hi4 := hi4.ext he
  replace hi5 := hi5.ext he
  refine ops_guard_yes rfl rfl rfl ?_
  refine ops_call rfl rfl rfl (w29 1 [] _ _ _) ?_
  rintro _ hh ⟨rfl, he⟩
  replace hE := hE.trans he
  replace h4 := h4.ext he
  replace h3 := h3.ext he
  replace hs4 := hs4.ext he
  replace hs3 := hs3.ext he
  replace hn3 := hn3.ext he
  replace hap := hap.ext he
  replace hbs1 := hbs1.ext he
  replace hnr := hnr.ext he
  replace hnr2 := hnr2.ext he
  replace hjn := hjn.ext he
  replace hbs2 := hbs2.ext he
  replace hbt := hbt.ext he
  replace hi1 := hi1.ext he
  replace hi2 := hi2.ext he
  replace hi3 := hi3.ext he
  replace hst4 := hst4.ext he
  replace hi4 := hi4.ext he
  replace hi5 := hi5.ext he
  refine ops_guard_yes rfl rfl rfl ?_
  refine ops_buildSlice (cs := stC [(⟨0, [97, 98], [1, 2]⟩, _), (⟨1, [98], [2]⟩, _), (⟨1, [], []⟩, .slice none 0 0)]) tabOk rfl rfl rfl rfl rfl rfl rfl rfl rfl ?_
  intro hh hn
  replace hE := hE.trans hn.ext
  replace h4 := h4.ext hn.ext
  replace h3 := h3.ext hn.ext
  replace hs4 := hs4.ext hn.ext
  replace hs3 := hs3.ext hn.ext
  replace hn3 := hn3.ext hn.ext
  replace hap := hap.ext hn.ext
  replace hbs1 := hbs1.ext hn.ext
  replace hnr := hnr.ext hn.ext
  replace hnr2 := hnr2.ext hn.ext
  replace hjn := hjn.ext hn.ext
  replace hbs2 := hbs2.ext hn.ext
  replace hbt := hbt.ext hn.ext
  replace hi1 := hi1.ext hn.ext
  replace hi2 := hi2.ext hn.ext
  replace hi3 := hi3.ext hn.ext
  replace hst4 := hst4.ext hn.ext
  replace hi4 := hi4.ext hn.ext
  replace hi5 := hi5.ext hn.ext
  have hst3 := sts_new hn (by intro p hp; simp only [List.mem_cons, List.not_mem_nil, or_false] at hp; rcases hp with rfl | rfl | rfl <;> first | exact hi4 | exact hi5 | exact Sl.nil _) (n := 3) rfl
  refine ops_guard_yes rfl rfl rfl ?_
  refine ops_call rfl rfl rfl (callsH_to (w22 (l := St3) (l' := St3) ⟨by decide, by decide⟩ hs3 hst3) rfl) ?_
  rintro _ hq ⟨rfl, e9⟩
  obtain rfl := e9.symm
  refine go 1000 rfl trivial (ops_nil ?_)
  repeat refine x_seq ?_
  refine x_false rfl ?_
  repeat refine x_seq ?_
  refine x_skip ?_
  repeat refine x_seq ?_
  refine x_reg ?_
  refine go 2 rfl trivial ?_
  refine ops_call rfl rfl rfl (callsH_to (w19 (l := L3) (l' := L3) (by decide) hn3 h3) rfl) ?_
  rintro _ hq ⟨rfl, e9⟩
  obtain rfl := e9.symm
  refine go 14 rfl trivial ?_
  refine ops_guard_yes rfl rfl rfl ?_
  refine ops_buildSlice (cs := ([[], wB, wBa, wBar]).map S) tabOk rfl rfl rfl rfl rfl rfl rfl rfl rfl ?_
  intro hh hn
  replace hE := hE.trans hn.ext
  replace h4 := h4.ext hn.ext
  replace h3 := h3.ext hn.ext
  replace hs4 := hs4.ext hn.ext
  replace hs3 := hs3.ext hn.ext
  replace hn3 := hn3.ext hn.ext
  replace hap := hap.ext hn.ext
  replace hbs1 := hbs1.ext hn.ext
  replace hnr := hnr.ext hn.ext
  replace hnr2 := hnr2.ext hn.ext
  replace hjn := hjn.ext hn.ext
  replace hbs2 := hbs2.ext hn.ext
  replace hbt := hbt.ext hn.ext
  replace hi1 := hi1.ext hn.ext
  replace hi2 := hi2.ext hn.ext
  replace hi3 := hi3.ext hn.ext
  replace hst4 := hst4.ext hn.ext
  replace hi4 := hi4.ext hn.ext
  replace hi5 := hi5.ext hn.ext
  replace hst3 := hst3.ext hn.ext
  have hbs3 : Strs hh (.slice (some ⟨_, 0, none⟩) _ _) ([[], wB, wBa, wBar]) := Sl.of_new hn rfl (Nat.le_refl _)
  refine ops_guard_yes rfl rfl rfl ?_
  refine ops_call rfl rfl rfl (w27 _) ?_
  rintro _ hq ⟨rfl, e9⟩
  obtain rfl := e9.symm
  refine ops_guard_yes rfl rfl rfl ?_
  refine ops_call rfl rfl rfl (callsH_to (w19 (l := [[], wB, wBa, wBar]) (l' := [[], wB, wBa, wBar]) (by decide) hap hbs3) rfl) ?_
  rintro _ hq ⟨rfl, e9⟩
  obtain rfl := e9.symm
  refine go 3 rfl trivial ?_
  refine ops_guard_yes rfl rfl rfl ?_
  refine ops_buildSlice (cs := ([wBar, wBat]).map S) tabOk rfl rfl rfl rfl rfl rfl rfl rfl rfl ?_
  intro hh hn
  replace hE := hE.trans hn.ext
  replace h4 := h4.ext hn.ext
  replace h3 := h3.ext hn.ext
  replace hs4 := hs4.ext hn.ext
  replace hs3 := hs3.ext hn.ext
  replace hn3 := hn3.ext hn.ext
  replace hap := hap.ext hn.ext
  replace hbs1 := hbs1.ext hn.ext
  replace hnr := hnr.ext hn.ext
  replace hnr2 := hnr2.ext hn.ext
  replace hjn := hjn.ext hn.ext
  replace hbs2 := hbs2.ext hn.ext
  replace hbt := hbt.ext hn.ext
  replace hi1 := hi1.ext hn.ext
  replace hi2 := hi2.ext hn.ext
  replace hi3 := hi3.ext hn.ext
  replace hst4 := hst4.ext hn.ext
  replace hi4 := hi4.ext hn.ext
  replace hi5 := hi5.ext hn.ext
  replace hst3 := hst3.ext hn.ext
  replace hbs3 := hbs3.ext hn.ext
  have hbs4 : Strs hh (.slice (some ⟨_, 0, none⟩) _ _) ([wBar, wBat]) := Sl.of_new hn rfl (Nat.le_refl _)
  refine ops_guard_yes rfl rfl rfl ?_
  refine ops_call rfl rfl rfl (w27 _) ?_
  rintro _ hq ⟨rfl, e9⟩
  obtain rfl := e9.symm
  refine ops_guard_yes rfl rfl rfl ?_
  refine ops_call rfl rfl rfl (callsH_to (w19 (l := [wBar, wBat]) (l' := [wBar, wBat]) (by decide) hnr hbs4) rfl) ?_
  rintro _ hq ⟨rfl, e9⟩
  obtain rfl := e9.symm
  refine go 3 rfl trivial ?_
  refine ops_guard_yes rfl rfl rfl ?_
  refine ops_buildSlice (cs := ([wA, wAb, wB, wBar, wBat, wCar, wCat]).map S) tabOk rfl rfl rfl rfl rfl rfl rfl rfl rfl ?_
  intro hh hn
  replace hE := hE.trans hn.ext
  replace h4 := h4.ext hn.ext
  replace h3 := h3.ext hn.ext
  replace hs4 := hs4.ext hn.ext
  replace hs3 := hs3.ext hn.ext
  replace hn3 := hn3.ext hn.ext
  replace hap := hap.ext hn.ext
  replace hbs1 := hbs1.ext hn.ext
  replace hnr := hnr.ext hn.ext
  replace hnr2 := hnr2.ext hn.ext
  replace hjn := hjn.ext hn.ext
  replace hbs2 := hbs2.ext hn.ext
  replace hbt := hbt.ext hn.ext
  replace hi1 := hi1.ext hn.ext
  replace hi2 := hi2.ext hn.ext
  replace hi3 := hi3.ext hn.ext
  replace hst4 := hst4.ext hn.ext
  replace hi4 := hi4.ext hn.ext
  replace hi5 := hi5.ext hn.ext
  replace hst3 := hst3.ext hn.ext
  replace hbs3 := hbs3.ext hn.ext
  replace hbs4 := hbs4.ext hn.ext
  have hbs5 : Strs hh (.slice (some ⟨_, 0, none⟩) _ _) ([wA, wAb, wB, wBar, wBat, wCar, wCat]) := Sl.of_new hn rfl (Nat.le_refl _)
  refine ops_guard_yes rfl rfl rfl ?_
  refine ops_call rfl rfl rfl (w27 _) ?_
  rintro _ hq ⟨rfl, e9⟩
  obtain rfl := e9.symm
  refine ops_guard_yes rfl rfl rfl ?_
  refine ops_call rfl rfl rfl (callsH_to (w19 (l := [wA, wAb, wB, wBar, wBat, wCar, wCat]) (l' := [wA, wAb, wB, wBar, wBat, wCar, wCat]) (by decide) hjn hbs5) rfl) ?_
  rintro _ hq ⟨rfl, e9⟩
  obtain rfl := e9.symm
  refine go 3 rfl trivial ?_
  refine ops_guard_yes rfl rfl rfl ?_
  refine ops_buildSlice (cs := ([wBat]).map S) tabOk rfl rfl rfl rfl rfl rfl rfl rfl rfl ?_
  intro hh hn
  replace hE := hE.trans hn.ext
  replace h4 := h4.ext hn.ext
  replace h3 := h3.ext hn.ext
  replace hs4 := hs4.ext hn.ext
  replace hs3 := hs3.ext hn.ext
  replace hn3 := hn3.ext hn.ext
  replace hap := hap.ext hn.ext
  replace hbs1 := hbs1.ext hn.ext
  replace hnr := hnr.ext hn.ext
  replace hnr2 := hnr2.ext hn.ext
  replace hjn := hjn.ext hn.ext
  replace hbs2 := hbs2.ext hn.ext
  replace hbt := hbt.ext hn.ext
  replace hi1 := hi1.ext hn.ext
  replace hi2 := hi2.ext hn.ext
  replace hi3 := hi3.ext hn.ext
  replace hst4 := hst4.ext hn.ext
  replace hi4 := hi4.ext hn.ext
  replace hi5 := hi5.ext hn.ext
  replace hst3 := hst3.ext hn.ext
  replace hbs3 := hbs3.ext hn.ext
  replace hbs4 := hbs4.ext hn.ext
  replace hbs5 := hbs5.ext hn.ext
  have hbs6 : Strs hh (.slice (some ⟨_, 0, none⟩) _ _) ([wBat]) := Sl.of_new hn rfl (Nat.le_refl _)
  refine ops_guard_yes rfl rfl rfl ?_
  refine ops_call rfl rfl rfl (w27 _) ?_
  rintro _ hq ⟨rfl, e9⟩
  obtain rfl := e9.symm
  refine ops_guard_yes rfl rfl rfl ?_
  refine ops_call rfl rfl rfl (callsH_to (w19 (l := [wBat]) (l' := [wBat]) (by decide) hbt hbs6) rfl) ?_
  rintro _ hq ⟨rfl, e9⟩
  obtain rfl := e9.symm
  refine go 1000 rfl trivial (ops_nil ?_)
  repeat refine x_seq ?_
  exact x_ret (at_ret rfl rfl rfl rfl ⟨rfl, hE⟩ (.inl rfl))

end Go.Proofs.YtmfgiabmmdbmoaaGreatDoor
