/-
  A part of the proofs of the laws of the index: what the functions of this program compute. Conditions: none beyond those that its theorems name.
-/
import Derived.Test.YtmfgiabmmdbmoaaGreatDoorGwIx6
/-
  THE INDEX, IN PLAIN LEAN (8): one more name.
-/
namespace Go.Ix
open Go.Gw Go.Sort Go.Proofs

theorem nodup_map_on {α β : Type} {f : α → β} {l : List α} (h : l.Nodup) (hf : ∀ x ∈ l, ∀ y ∈ l, f x = f y → x = y) : (l.map f).Nodup := by
  rw [List.Nodup, List.pairwise_map]
  exact List.Pairwise.imp_of_mem (fun {a b} ha hb hne e => hne (hf a ha b hb e)) h
/-- The endings after a word that the new name does not begin with. -/
theorem endings_more {l : List Bs} (hs : l.Pairwise (· < ·)) {w v : Bs} (h : ¬ v <+: w) : endings (joinL l [w]) v = endings l v :=
  sorted_ext (endings_sorted (join_sorted l [w]) v) (endings_sorted hs v) (fun e => by
    rw [mem_endings, mem_endings, mem_join, List.mem_singleton]
    exact ⟨fun h2 => h2.resolve_right (fun h3 => h ⟨e, h3⟩), .inl⟩)
theorem firsts_more {l : List Bs} {w : Bs} (ok : Ok l) (okm : Ok (joinL l [w])) : (firsts (joinL l [w])).length ≤ (firsts l).length + w.length := by
  have hA : ((firsts (joinL l [w])).filter fun v => !(decide (v <+: w))).length ≤ ((firsts l).erase []).length := by
    have hnd : (((firsts (joinL l [w])).filter fun v => !(decide (v <+: w))).map (endings l)).Nodup := by
      refine nodup_map_on ((firsts_nodup _).filter _) (fun x hx y hy e => ?_)
      simp only [List.mem_filter, Bool.not_eq_true', decide_eq_false_iff_not] at hx hy
      exact firsts_inj hx.1 hy.1 ((formP_endings okm.let').2 (by rw [endings_more ok.sorted hx.2, endings_more ok.sorted hy.2, e]))
    have hsub : (((firsts (joinL l [w])).filter fun v => !(decide (v <+: w))).map (endings l)) ⊆ ((firsts l).erase []).map (endings l) := by
      intro E hE
      obtain ⟨v, hv, rfl⟩ := List.mem_map.1 hE
      simp only [List.mem_filter, Bool.not_eq_true', decide_eq_false_iff_not] at hv
      have hv0 : v ≠ [] := fun e => hv.2 (by rw [e]; exact List.nil_prefix)
      have hve : endings l v ≠ [] := by
        rw [← endings_more ok.sorted hv.2]
        exact (mem_allW.1 (mem_firsts.1 hv.1).1).resolve_left hv0
      obtain ⟨f, hf, hfe, -⟩ := first_of (l := l) (mem_allW.2 (.inr hve))
      have hfe := (formP_endings ok.let').1 hfe
      refine List.mem_map.2 ⟨f, ((firsts_nodup l).mem_erase_iff).2 ⟨fun e => ?_, hf⟩, hfe⟩
      have hl : l ≠ [] := fun e2 => hve (by rw [e2]; rfl)
      have h1 := longest_lt ok.ne hl hv0
      unfold longest at h1
      rw [← hfe, e] at h1
      exact absurd h1 (Nat.lt_irrefl _)
    have := hnd.length_le_of_subset hsub
    simpa using this
  have hB : ((firsts (joinL l [w])).filter fun v => decide (v <+: w)).length ≤ w.length + 1 := by
    have hnd : ((firsts (joinL l [w])).filter fun v => decide (v <+: w)).Nodup := (firsts_nodup _).filter _
    have hsub : ((firsts (joinL l [w])).filter fun v => decide (v <+: w)) ⊆ (List.range (w.length + 1)).map (fun i => w.take i) := by
      intro v hv
      simp only [List.mem_filter, decide_eq_true_eq] at hv
      exact List.mem_map.2 ⟨v.length, List.mem_range.2 (by have := hv.2.length_le; omega), (List.prefix_iff_eq_take.1 hv.2).symm⟩
    simpa using hnd.length_le_of_subset hsub
  have h1 := List.length_eq_countP_add_countP (fun v => decide (v <+: w)) (l := firsts (joinL l [w]))
  rw [List.countP_eq_length_filter, List.countP_eq_length_filter] at h1
  have h2 : ((firsts (joinL l [w])).filter fun a => decide ¬(fun v => decide (v <+: w)) a = true) = (firsts (joinL l [w])).filter fun v => !(decide (v <+: w)) := by
    refine List.filter_congr (fun x _ => ?_)
    by_cases h : x <+: w <;> simp [h]
  rw [h2] at h1
  rw [List.length_erase_of_mem nil_mem_firsts] at hA
  have h3 : 0 < (firsts l).length := List.length_pos_iff.2 (List.ne_nil_of_mem nil_mem_firsts)
  omega
end Go.Ix
