/-
  A part of the proofs of the laws of the index: what the functions of this program compute. Conditions: none beyond those that its theorems name.
-/
import Derived.Test.YtmfgiabmmdbmoaaGreatDoorGwIx6
/-
  THE INDEX, IN PLAIN LEAN (10): how the states of the least automaton lie.
-/
namespace Go.Ix
open Go.Gw Go.Sort Go.Proofs

theorem nd_inj {l : List Bs} (h : l.Nodup) {i j : Nat} (hi : i < l.length) (hj : j < l.length) (e : l[i] = l[j]) : i = j := by
  rcases Nat.lt_trichotomy i j with h1 | h1 | h1
  · exact absurd e (List.pairwise_iff_getElem.1 h i j hi hj h1)
  · exact h1
  · exact absurd e.symm (List.pairwise_iff_getElem.1 h j i hj hi h1)
theorem words_st {l : List Bs} (ok : Ok l) {i : Nat} (hi : i < (firsts l).length) : words (statesL l) i = endings l (firsts l)[i] :=
  words_states ok.sorted ok.let' _ i hi (by unfold statesL; simp)
theorem st_len (l : List Bs) : (statesL l).length = (firsts l).length := by unfold statesL; simp
theorem root_some {l : List Bs} (hl : l ≠ []) : endings l [] ≠ [] := fun e => by
  obtain ⟨s, hs⟩ := List.exists_mem_of_ne_nil _ hl
  have : s ∈ endings l [] := mem_endings.2 hs
  rw [e] at this; cases this
theorem words_some {l : List Bs} (ok : Ok l) (hl : l ≠ []) {i : Nat} (hi : i < (statesL l).length) : words (statesL l) i ≠ [] := by
  rw [st_len] at hi
  rw [words_st ok hi]
  rcases mem_allW.1 (mem_firsts.1 (List.getElem_mem hi)).1 with h | h
  · rw [h]; exact root_some hl
  · exact h
theorem words_zero {l : List Bs} (ok : Ok l) : words (statesL l) 0 = l := by
  have := words_root ok
  unfold words; exact this
/-- No two states are alike. -/
theorem st_ne {l : List Bs} (ok : Ok l) {i j : Nat} (hi : i < (statesL l).length) (hj : j < (statesL l).length) (hne : i ≠ j) : (statesL l)[i] ≠ (statesL l)[j] := by
  intro e
  have g := good_states ok
  have h1 : words (statesL l) i = words (statesL l) j := by rw [words_part g hi, words_part g hj, e]
  have hi' := hi; have hj' := hj
  rw [st_len] at hi' hj'
  rw [words_st ok hi', words_st ok hj'] at h1
  have h2 := firsts_inj (List.getElem_mem hi') (List.getElem_mem hj') ((formP_endings ok.let').2 h1)
  exact hne (nd_inj (firsts_nodup l) hi' hj' h2)
theorem end_step {l : List Bs} {u v : Bs} (hs : l.Pairwise (· < ·)) (h : endings l u = endings l v) (c : UInt8) : endings l (u ++ [c]) = endings l (v ++ [c]) :=
  sorted_ext (endings_sorted hs _) (endings_sorted hs _) (fun e => by
    rw [mem_endings, mem_endings, List.append_assoc, List.append_assoc]
    exact ⟨fun h2 => mem_endings.1 (h ▸ mem_endings.2 h2), fun h2 => mem_endings.1 (h ▸ mem_endings.2 h2)⟩)
/-- From an earlier state one comes to each. -/
theorem st_from {l : List Bs} (ok : Ok l) {j : Nat} (h0 : 0 < j) (hj : j < (statesL l).length) : ∃ i, ∃ hi : i < (statesL l).length, i < j ∧ ∃ k, ∃ hk : k < (statesL l)[i].next.length, (statesL l)[i].next[k] = (j : Int) := by
  have hj' := hj
  rw [st_len] at hj'
  have hv := mem_firsts.1 (List.getElem_mem hj')
  obtain ⟨r, hr⟩ := firsts_head ok.ne
  have hf0 : (firsts l)[0]'(by omega) = [] := by simp [hr]
  have hvne : (firsts l)[j] ≠ [] := fun e => by
    have := nd_inj (firsts_nodup l) hj' (show 0 < (firsts l).length by omega) (by rw [e, hf0])
    omega
  have hve := (mem_allW.1 hv.1).resolve_left hvne
  obtain ⟨u, c, huc⟩ : ∃ u c, (firsts l)[j] = u ++ [c] := ⟨_, _, (List.dropLast_concat_getLast hvne).symm⟩
  rw [huc] at hve
  have hu : endings l u ≠ [] := by
    obtain ⟨e, he⟩ := List.exists_mem_of_ne_nil _ hve
    have h1 := mem_endings.1 he
    rw [List.append_assoc] at h1
    exact List.ne_nil_of_mem (mem_endings.2 h1)
  obtain ⟨f, hf, hfe, -⟩ := first_of (mem_allW.2 (.inr hu))
  have hfe := (formP_endings ok.let').1 hfe
  obtain ⟨i, hi, rfl⟩ := List.getElem_of_mem hf
  have hstep := end_step ok.sorted hfe c
  have hlett : lett c = true := by
    obtain ⟨e, he⟩ := List.exists_mem_of_ne_nil _ hve
    have h1 := ok.let' _ (mem_endings.1 he)
    rw [letters_app, letters_app] at h1
    simp only [Bool.and_eq_true] at h1
    have h2 := h1.1.2
    unfold letters at h2; simpa using h2
  have hc : c ∈ outs l (firsts l)[i] := mem_outs.2 ⟨hlett, by rw [hstep]; exact hve⟩
  obtain ⟨j', h1, h2, h3, h4⟩ := ix_next ok.let' hi hc
  have hjj : j' = j := by
    have h5 := firsts_inj (List.getElem_mem h3) (List.getElem_mem hj') ((formP_endings ok.let').2 (by rw [h4, hstep, huc]))
    exact nd_inj (firsts_nodup l) h3 hj' h5
  subst hjj
  have hi2 : i < (statesL l).length := by rw [st_len]; exact hi
  obtain ⟨k, hk, hkc⟩ := List.getElem_of_mem hc
  have hst : (statesL l)[i] = stOf l (firsts l)[i] := by simp only [statesL, List.getElem_map]
  refine ⟨i, hi2, h2, k, by rw [hst]; unfold stOf; simpa using hk, ?_⟩
  rw [← h1]
  simp only [hst, stOf, List.getElem_map, hkc]
/-- Longer ones come first. -/
theorem st_long {l : List Bs} (ok : Ok l) (hl : l ≠ []) {i : Nat} (hi : i + 1 < (statesL l).length) : longI (words (statesL l) (i + 1)) ≤ longI (words (statesL l) i) ∧ 0 ≤ longI (words (statesL l) i) := by
  have hi1 := hi
  rw [st_len] at hi1
  have h1 := words_some ok hl (show i < (statesL l).length by omega)
  have h2 := words_some ok hl hi
  have h3 := List.pairwise_iff_getElem.1 (firsts_sorted l) i (i + 1) (by omega) hi1 (by omega)
  unfold longest at h3
  rw [← words_st ok (show i < (firsts l).length by omega), ← words_st ok hi1] at h3
  unfold longI
  rw [if_neg h1, if_neg h2]
  omega
theorem longI_pos {L : List Bs} (h : L ≠ []) : 0 ≤ longI L := by unfold longI; rw [if_neg h]; omega

/-! ### How often one comes to a state -/
def pot (C W : Nat → Nat) : Nat → Nat → Nat
  | _, 0 => 0
  | lo, m + 1 => C lo * W lo + pot C W (lo + 1) m
def upd (C : Nat → Nat) (t v : Nat) : Nat → Nat := fun j => if j = t then v else C j
theorem pot_out {C W : Nat → Nat} {t v : Nat} : ∀ (m lo : Nat), t < lo ∨ lo + m ≤ t → pot (upd C t v) W lo m = pot C W lo m
  | 0, _, _ => rfl
  | m + 1, lo, h => by
    unfold pot
    rw [pot_out (t := t) m (lo + 1) (by omega)]
    unfold upd; rw [if_neg (by omega)]
theorem pot_in {C W : Nat → Nat} {t d : Nat} : ∀ (m lo : Nat), lo ≤ t → t < lo + m → pot (upd C t (C t + d)) W lo m = pot C W lo m + d * W t
  | 0, _, _, _ => by omega
  | m + 1, lo, h1, h2 => by
    unfold pot
    by_cases h : lo = t
    · subst h
      rw [pot_out (t := lo) m (lo + 1) (by omega)]
      unfold upd; rw [if_pos rfl, Nat.add_mul]; omega
    · rw [pot_in (t := t) m (lo + 1) (by omega) (by omega)]
      unfold upd; rw [if_neg h]; omega
theorem pot_ge {C W : Nat → Nat} {t : Nat} : ∀ (m lo : Nat), lo ≤ t → t < lo + m → C t * W t ≤ pot C W lo m
  | 0, _, _, _ => by omega
  | m + 1, lo, h1, h2 => by
    unfold pot
    by_cases h : lo = t
    · subst h; omega
    · have := pot_ge (C := C) (W := W) (t := t) m (lo + 1) (by omega) (by omega); omega
theorem pot_zero {W : Nat → Nat} : ∀ (m lo : Nat), pot (fun _ => 0) W lo m = 0
  | 0, _ => rfl
  | m + 1, lo => by unfold pot; rw [pot_zero m]; simp
abbrev cw (s : List St) (j : Nat) : Nat := (words s j).length
/-- Reached from what has been done: the states before i, and the first k letters of i. -/
def From (s : List St) (i k j : Nat) : Prop := j = 0 ∨ ∃ i', ∃ hi : i' < s.length, ∃ k', ∃ hk : k' < s[i'].next.length, (i' < i ∨ (i' = i ∧ k' < k)) ∧ s[i'].next[k'] = (j : Int)
structure Come (s : List St) (i : Nat) (C : Nat → Nat) : Prop where
  pos : ∀ j, From s i 0 j → 1 ≤ C j
  sum : pot C (cw s) i (s.length - i) ≤ 30
structure ComeK (s : List St) (i k : Nat) (hi : i < s.length) (C : Nat → Nat) : Prop where
  pos : ∀ j, From s i k j → 1 ≤ C j
  one : 1 ≤ C i
  sum : pot C (cw s) (i + 1) (s.length - (i + 1)) + C i * (cw s i - (partW s s[i] k).length) ≤ 30
theorem come_zero {s : List St} (h0 : 0 < s.length) (h : cw s 0 ≤ 30) : Come s 0 (upd (fun _ => 0) 0 1) := by
  refine ⟨fun j hj => ?_, ?_⟩
  · rcases hj with rfl | ⟨i', _, k', _, h1, _⟩
    · simp [upd]
    · omega
  · have := pot_in (C := fun _ => 0) (W := cw s) (t := 0) (d := 1) (s.length - 0) 0 (by omega) (by omega)
    rw [pot_zero] at this
    simp only [Nat.zero_add] at this
    rw [this]; omega
theorem Come.enter {s : List St} {i : Nat} {C : Nat → Nat} (hi : i < s.length) (h : Come s i C) (hr : From s i 0 i) : ComeK s i 0 hi C := by
  refine ⟨h.pos, h.pos i hr, ?_⟩
  have h1 := h.sum
  rw [show s.length - i = (s.length - (i + 1)) + 1 by omega] at h1
  unfold pot at h1
  have : C i * (cw s i - (partW s s[i] 0).length) ≤ C i * cw s i := Nat.mul_le_mul_left _ (Nat.sub_le _ _)
  omega
theorem ComeK.leave {s : List St} {i k : Nat} {C : Nat → Nat} {hi : i < s.length} (h : ComeK s i k hi C) (hk : s[i].next.length ≤ k) : Come s (i + 1) C := by
  refine ⟨fun j hj => h.pos j ?_, by have := h.sum; omega⟩
  rcases hj with rfl | ⟨i', hi', k', hk', h1, h2⟩
  · exact .inl rfl
  · refine .inr ⟨i', hi', k', hk', ?_, h2⟩
    rcases h1 with h1 | h1
    · by_cases h3 : i' = i
      · subst h3; exact .inr ⟨rfl, by omega⟩
      · exact .inl (by omega)
    · omega
theorem ComeK.small {s : List St} {i k n : Nat} {C : Nat → Nat} {hi : i < s.length} (g : GoodS s) (h : ComeK s i k hi C) (hk : k < s[i].next.length) (hn : s[i].next[k] = (n : Int)) (hw : words s n ≠ []) : C n ≤ 30 ∧ C i ≤ 30 := by
  have hx := List.getElem_mem hi
  have hlt := g.next i hi _ (List.getElem_mem hk)
  rw [hn] at hlt
  have hps := partW_succ (s := s) (g.len _ hx) hk (by rw [g.len _ hx]; exact hk)
  have hle := partW_le (s := s) (g.len _ hx) (show k + 1 ≤ s[i].next.length by omega)
  rw [hps, List.length_append, List.length_map, hn, ← words_part g hi] at hle
  have hwn : 1 ≤ (words s ((n : Int).toNat)).length := List.length_pos_iff.2 (by simpa using hw)
  have h1 := h.sum
  have h2 := pot_ge (C := C) (W := cw s) (t := n) (s.length - (i + 1)) (i + 1) (by omega) (by omega)
  have h3 : C n * 1 ≤ C n * cw s n := Nat.mul_le_mul_left _ (by simpa using hwn)
  have h4 : C i * 1 ≤ C i * (cw s i - (partW s s[i] k).length) := Nat.mul_le_mul_left _ (by unfold cw; omega)
  omega
theorem ComeK.step {s : List St} {i k n : Nat} {C : Nat → Nat} {hi : i < s.length} (g : GoodS s) (h : ComeK s i k hi C) (hk : k < s[i].next.length) (hn : s[i].next[k] = (n : Int)) : ComeK s i (k + 1) hi (upd C n (C n + C i)) := by
  have hx := List.getElem_mem hi
  have hlt := g.next i hi _ (List.getElem_mem hk)
  rw [hn] at hlt
  have hps := partW_succ (s := s) (g.len _ hx) hk (by rw [g.len _ hx]; exact hk)
  have hle := partW_le (s := s) (g.len _ hx) (show k + 1 ≤ s[i].next.length by omega)
  rw [← words_part g hi] at hle
  have hpl : (partW s s[i] (k + 1)).length = (partW s s[i] k).length + cw s n := by
    rw [hps, List.length_append, List.length_map, hn]; rfl
  have hci : upd C n (C n + C i) i = C i := by unfold upd; rw [if_neg (by omega)]
  refine ⟨fun j hj => ?_, by rw [hci]; exact h.one, ?_⟩
  · by_cases hjn : j = n
    · subst hjn; unfold upd; rw [if_pos rfl]; have := h.one; omega
    · unfold upd; rw [if_neg hjn]
      refine h.pos j ?_
      rcases hj with rfl | ⟨i', hi', k', hk', h1, h2⟩
      · exact .inl rfl
      · refine .inr ⟨i', hi', k', hk', ?_, h2⟩
        rcases h1 with h1 | ⟨h1, h3⟩
        · exact .inl h1
        · refine .inr ⟨h1, ?_⟩
          subst h1
          by_cases hkk : k' = k
          · subst hkk; rw [hn] at h2; omega
          · omega
  · rw [hci, pot_in _ _ (by omega) (by omega), hpl]
    have h1 := h.sum
    obtain ⟨r, hr⟩ : ∃ r, cw s i = (partW s s[i] k).length + cw s n + r := ⟨cw s i - ((partW s s[i] k).length + cw s n), by unfold cw at *; omega⟩
    rw [hr, show (partW s s[i] k).length + cw s n + r - (partW s s[i] k).length = cw s n + r by omega, Nat.mul_add] at h1
    rw [hr, show (partW s s[i] k).length + cw s n + r - ((partW s s[i] k).length + cw s n) = r by omega]
    omega
theorem from_st {l : List Bs} (ok : Ok l) {i j : Nat} (hj : j < (statesL l).length) (hij : j ≤ i) : From (statesL l) i 0 j := by
  by_cases h0 : j = 0
  · exact .inl h0
  · obtain ⟨i', hi', h1, k, hk, h2⟩ := st_from ok (by omega) hj
    exact .inr ⟨i', hi', k, hk, .inl (by omega), h2⟩
end Go.Ix
