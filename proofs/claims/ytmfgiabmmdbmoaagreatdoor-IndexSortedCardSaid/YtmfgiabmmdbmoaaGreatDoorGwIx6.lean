/-
  A part of the proofs of the laws of the index: what the functions of this program compute. Conditions: none beyond those that its theorems name.
-/
import Derived.Test.YtmfgiabmmdbmoaaGreatDoorGwIx3
/-
  THE INDEX, IN PLAIN LEAN (6): lists joined.
-/
namespace Go.Ix
open Go.Gw Go.Sort Go.Proofs

theorem msort_sorted (l : List Bs) : (l.mergeSort fun x y => decide (x ≤ y)).Pairwise fun x y => x ≤ y := by
  have h := List.pairwise_mergeSort (le := fun x y : Bs => decide (x ≤ y)) (fun a b c h1 h2 => by simp only [decide_eq_true_eq] at *; exact List.le_trans h1 h2) (fun a b => by simp only [Bool.or_eq_true, decide_eq_true_eq]; exact List.le_total a b) l
  exact h.imp (fun {a b} h => by simpa using h)
theorem lt_of_le_ne {a b : Bs} (h : a ≤ b) (hn : b ≠ a) : a < b := Classical.byContradiction fun h2 => hn (List.le_antisymm (List.not_lt.1 h2) h)
/-- Sorted, then compacted: strictly rising, with the same elements. -/
theorem compact_spec (zs : List Bs) (hs : zs.Pairwise fun x y => x ≤ y) : (Lib.compact zs).Pairwise (· < ·) ∧ ∀ x, x ∈ Lib.compact zs ↔ x ∈ zs := by
  have get : ∀ j (hj : j < zs.length), zs.toArray[j]! = zs[j] := fun j hj => by simp [hj]
  have key : ∀ m, m ≤ zs.length → (Lib.compactUpTo zs.toArray m).Pairwise (· < ·) ∧ (∀ x, x ∈ Lib.compactUpTo zs.toArray m ↔ x ∈ zs.take m) := by
    intro m
    induction m with
    | zero => intro _; simp [Lib.compactUpTo]
    | succ m ih =>
      intro hm
      obtain ⟨h1, h2⟩ := ih (by omega)
      have hm' : m < zs.length := by omega
      rw [Lib.compactUpTo_succ, get m hm']
      have hle : ∀ x ∈ zs.take m, x ≤ zs[m] := fun x hx => by
        rw [List.mem_take_iff_getElem] at hx
        obtain ⟨j, hj, rfl⟩ := hx
        exact List.pairwise_iff_getElem.1 hs j m (by omega) hm' (by omega)
      cases hk : Lib.keeps zs.toArray m with
      | true =>
        rw [if_pos rfl]
        unfold Lib.keeps at hk
        rw [decide_eq_true_eq] at hk
        refine ⟨List.pairwise_append.2 ⟨h1, by simp, fun a ha b hb => ?_⟩, fun x => ?_⟩
        · rw [List.mem_singleton] at hb; subst hb
          have ha' := (h2 a).1 ha
          refine lt_of_le_ne (hle a ha') (fun e => ?_)
          rcases hk with h0 | hne
          · subst h0; simp at ha'
          · rw [get m hm', get (m - 1) (by omega)] at hne
            rw [List.mem_take_iff_getElem] at ha'
            obtain ⟨j, hj, hja⟩ := ha'
            have h3 : zs[j] ≤ zs[m - 1] := by
              by_cases e2 : j = m - 1
              · subst e2; exact List.le_refl _
              · exact List.pairwise_iff_getElem.1 hs j (m - 1) (by omega) (by omega) (by omega)
            have h4 : zs[m - 1] ≤ zs[m] := List.pairwise_iff_getElem.1 hs (m - 1) m (by omega) hm' (by omega)
            rw [hja, ← e] at h3
            exact hne (List.le_antisymm h3 h4)
        · rw [List.mem_append, h2 x, take_snoc hm', List.mem_append]
      | false =>
        rw [if_neg (by simp), List.append_nil]
        refine ⟨h1, fun x => ?_⟩
        unfold Lib.keeps at hk
        rw [decide_eq_false_iff_not, not_or, Decidable.not_not] at hk
        have hpos : 0 < m := by omega
        rw [get m hm', get (m - 1) (by omega)] at hk
        rw [h2 x, take_snoc hm', List.mem_append, List.mem_singleton]
        refine ⟨fun h => .inl h, fun h => ?_⟩
        rcases h with h | h
        · exact h
        · rw [h, hk.2, List.mem_take_iff_getElem]; exact ⟨m - 1, by omega, rfl⟩
  have := key zs.length (Nat.le_refl _)
  rw [List.take_length] at this
  exact this
theorem join_sorted (a b : List Bs) : (joinL a b).Pairwise (· < ·) := (compact_spec _ (msort_sorted _)).1
theorem mem_join {a b : List Bs} {x : Bs} : x ∈ joinL a b ↔ x ∈ a ∨ x ∈ b := by
  unfold joinL
  rw [(compact_spec _ (msort_sorted _)).2, List.mem_mergeSort, List.mem_append]
theorem join_swap (a b : List Bs) : joinL a b = joinL b a := sorted_ext (join_sorted a b) (join_sorted b a) (fun x => by rw [mem_join, mem_join]; exact Or.comm)
theorem join_self {a : List Bs} (ha : a.Pairwise (· < ·)) : joinL a a = a := sorted_ext (join_sorted a a) ha (fun x => by rw [mem_join]; simp)
abbrev bothF (a b : List Bs) : List Bs := a.filter fun s => decide (s ∈ b)
theorem mem_both {a b : List Bs} {x : Bs} : x ∈ bothF a b ↔ x ∈ a ∧ x ∈ b := by simp [bothF]
theorem both_swap {a b : List Bs} (ha : a.Pairwise (· < ·)) (hb : b.Pairwise (· < ·)) : bothF a b = bothF b a :=
  sorted_ext (ha.filter _) (hb.filter _) (fun x => by rw [mem_both, mem_both]; exact And.comm)
theorem both_self (a : List Bs) : bothF a a = a := by simp [bothF]
theorem join_len {a b : List Bs} (ha : a.Pairwise (· < ·)) (hb : b.Pairwise (· < ·)) : (joinL a b).length + (bothF a b).length = a.length + b.length := by
  have h1 : (joinL a b).Perm (a ++ b.filter fun s => decide (s ∉ a)) := by
    refine (List.perm_ext_iff_of_nodup (sorted_nodup (join_sorted a b)) ?_).2 (fun x => ?_)
    · refine List.nodup_append.2 ⟨sorted_nodup ha, List.Nodup.sublist List.filter_sublist (sorted_nodup hb), fun x hx y hy e => ?_⟩
      subst e
      simp at hy; exact hy.2 hx
    · rw [mem_join, List.mem_append, List.mem_filter]
      by_cases h : x ∈ a <;> simp [h]
  have h2 := h1.length_eq
  rw [List.length_append] at h2
  have h3 : (b.filter fun s => decide (s ∉ a)).length + (b.filter fun s => decide (s ∈ a)).length = b.length := by
    clear h1 h2 hb
    induction b with
    | nil => rfl
    | cons x b ih => by_cases h : x ∈ a <;> simp [h] at ih ⊢ <;> omega
  rw [both_swap ha hb]
  unfold bothF
  omega
theorem Ok.sm {l : List Bs} (ok : Ok l) : Small l := ⟨by have := ok.few; omega, fun s hs => by have := ok.short s hs; omega⟩
theorem two_ok {a b : List Bs} (ha : Ok a) (hb : Ok b) : twoErr a b = 0 := by unfold twoErr; rw [of_ok ha, of_ok hb]; rfl
theorem joinS_ok {a b : List Bs} (ha : Ok a) (hb : Ok b) : joinS a b = if 30 < (joinL a b).length then ([], 6) else (joinL a b, 0) := by
  unfold joinS; rw [if_neg (by rw [two_ok ha hb]; simp)]
theorem join_ok {a b : List Bs} (ha : Ok a) (hb : Ok b) (hl : ¬ 30 < (joinL a b).length) : Ok (joinL a b) := by
  refine ⟨by omega, fun s hs => ?_, fun s hs => ?_, fun s hs => ?_, join_sorted a b⟩ <;> rcases mem_join.1 hs with h | h
  · exact ha.short s h
  · exact hb.short s h
  · exact ha.ne s h
  · exact hb.ne s h
  · exact ha.let' s h
  · exact hb.let' s h
end Go.Ix
