/-
  A part of the proofs of the laws of the index: what the functions of this program compute. Conditions: none beyond those that its theorems name.
-/
import Derived.Test.YtmfgiabmmdbmoaaGreatDoorGwIx6
/-
  THE INDEX, IN PLAIN LEAN (9): a letter in front of all names.
-/
namespace Go.Ix
open Go.Gw Go.Sort Go.Proofs

/-- A letter in front of all names. -/
def front (c : UInt8) (l : List Bs) : List Bs := l.map (c :: ·)
theorem front_ok {c : UInt8} {l : List Bs} (hc : lett c = true) (ok : Ok l) (h : ∀ s ∈ l, s.length < 10) : Ok (front c l) := by
  unfold front
  refine ⟨by rw [List.length_map]; exact ok.few, ?_, ?_, ?_, ?_⟩
  · intro s hs; obtain ⟨t, ht, rfl⟩ := List.mem_map.1 hs; have := h t ht; simp only [List.length_cons]; omega
  · intro s hs; obtain ⟨t, ht, rfl⟩ := List.mem_map.1 hs; simp
  · intro s hs; obtain ⟨t, ht, rfl⟩ := List.mem_map.1 hs
    have := ok.let' t ht
    unfold letters at this ⊢
    rw [List.all_cons, hc, this]; rfl
  · rw [List.pairwise_map]; exact ok.sorted.imp (fun h => lt_cons.2 (.inr ⟨rfl, h⟩))
theorem mem_front {c : UInt8} {l : List Bs} {s : Bs} : c :: s ∈ front c l ↔ s ∈ l := by
  unfold front; rw [List.mem_map]
  exact ⟨fun ⟨t, ht, e⟩ => by cases e; exact ht, fun h => ⟨s, h, rfl⟩⟩
theorem nil_front {c : UInt8} {l : List Bs} : [] ∉ front c l := by
  unfold front; rw [List.mem_map]; rintro ⟨t, _, e⟩; cases e
theorem end_front {c : UInt8} {l : List Bs} (hs : l.Pairwise (· < ·)) (w : Bs) : endings (front c l) (c :: w) = endings l w :=
  sorted_ext (endings_sorted (by unfold front; rw [List.pairwise_map]; exact hs.imp (fun h => lt_cons.2 (.inr ⟨rfl, h⟩))) _) (endings_sorted hs w) (fun e => by
    rw [mem_endings, mem_endings, List.cons_append, mem_front])
theorem end_other {c x : UInt8} {l : List Bs} {w : Bs} (h : endings (front c l) (x :: w) ≠ []) : x = c := by
  obtain ⟨e, he⟩ := List.exists_mem_of_ne_nil _ h
  have := mem_endings.1 he
  unfold front at this
  obtain ⟨t, _, e2⟩ := List.mem_map.1 this
  rw [List.cons_append] at e2
  cases e2; rfl
theorem long_front {c : UInt8} {l : List Bs} (hs : l.Pairwise (· < ·)) (w : Bs) : longest (front c l) (c :: w) = longest l w := by
  unfold longest; rw [end_front hs]
theorem front_ne {c : UInt8} {l : List Bs} (h : l ≠ []) : front c l ≠ [] := fun e => h (List.map_eq_nil_iff.1 e)
theorem root_ne {l : List Bs} (ok : Ok l) (hl : l ≠ []) {w : Bs} (hw : w ≠ []) : endings l w ≠ endings l [] := fun e => by
  have := longest_lt ok.ne hl hw
  unfold longest at this
  rw [e] at this
  exact Nat.lt_irrefl _ this
theorem firsts_front {c : UInt8} {l : List Bs} (ok : Ok l) (okm : Ok (front c l)) (hl : l ≠ []) : firsts (front c l) = [] :: (firsts l).map (c :: ·) := by
  have hrest : ∀ v, c :: v ∈ firsts (front c l) ↔ v ∈ firsts l := by
    intro v
    rw [mem_firsts, mem_firsts, mem_allW, mem_allW]
    have hall : (c :: v = [] ∨ endings (front c l) (c :: v) ≠ []) ↔ (v = [] ∨ endings l v ≠ []) := by
      rw [end_front ok.sorted]
      constructor
      · rintro (h | h)
        · cases h
        · exact .inr h
      · rintro (rfl | h)
        · refine .inr (fun e => hl ?_)
          refine List.eq_nil_iff_forall_not_mem.2 (fun s hs => ?_)
          have : s ∈ endings l [] := mem_endings.2 hs
          rw [e] at this; cases this
        · exact .inr h
    rw [hall]
    refine and_congr_right (fun hv => ⟨fun h w hw e hlt => ?_, fun h w hw e hlt => ?_⟩)
    · refine h (c :: w) (mem_allW.2 (.inr ?_)) ((formP_endings okm.let').2 ?_) (lt_cons.2 (.inr ⟨rfl, hlt⟩))
      · rw [end_front ok.sorted]
        rcases mem_allW.1 hw with rfl | h2
        · intro e2
          obtain ⟨s, hs⟩ := List.exists_mem_of_ne_nil _ hl
          have : s ∈ endings l [] := mem_endings.2 hs
          rw [e2] at this; cases this
        · exact h2
      · rw [end_front ok.sorted, end_front ok.sorted]; exact (formP_endings ok.let').1 e
    · have e' := (formP_endings okm.let').1 e
      rcases mem_allW.1 hw with rfl | h2
      · exact absurd e'.symm (root_ne okm (front_ne hl) (by simp))
      · cases w with
        | nil => exact absurd e'.symm (root_ne okm (front_ne hl) (by simp))
        | cons x w =>
          obtain rfl := end_other h2
          rw [end_front ok.sorted] at h2
          rw [end_front ok.sorted, end_front ok.sorted] at e'
          exact h w (mem_allW.2 (.inr h2)) ((formP_endings ok.let').2 e') ((lt_cons.1 hlt).resolve_left (fun h3 => absurd h3 (UInt8.lt_irrefl _))).2
  have hmem : ∀ v, v ∈ firsts (front c l) ↔ v ∈ [] :: (firsts l).map (c :: ·) := by
    intro v
    cases v with
    | nil => simp [nil_mem_firsts]
    | cons x v =>
      rw [List.mem_cons, List.mem_map]
      constructor
      · intro h
        have h1 := (mem_allW.1 (mem_firsts.1 h).1).resolve_left (by simp)
        obtain rfl := end_other h1
        exact .inr ⟨v, (hrest v).1 h, rfl⟩
      · rintro (h | ⟨u, hu, e⟩)
        · cases h
        · cases e; exact (hrest v).2 hu
  have hnd : ([] :: (firsts l).map (c :: ·)).Nodup := by
    rw [List.nodup_cons]
    refine ⟨by simp, ?_⟩
    rw [List.Nodup, List.pairwise_map]
    exact (firsts_nodup l).imp (fun {a b} hne e => hne (by cases e; rfl))
  have hperm : (firsts (front c l)).Perm ([] :: (firsts l).map (c :: ·)) := (List.perm_ext_iff_of_nodup (firsts_nodup _) hnd).2 hmem
  refine List.Perm.eq_of_pairwise (le := fun x y => longest (front c l) y < longest (front c l) x ∨ (longest (front c l) x = longest (front c l) y ∧ x < y)) ?_ (firsts_sorted _) ?_ hperm
  · rintro a b _ _ (h1 | h1) (h2 | h2)
    · omega
    · omega
    · omega
    · exact absurd h2.2 (ltA h1.2)
  · rw [List.pairwise_cons, List.pairwise_map]
    refine ⟨fun v hv => ?_, (firsts_sorted l).imp (fun {a b} h => ?_)⟩
    · obtain ⟨u, _, rfl⟩ := List.mem_map.1 hv
      exact .inl (longest_lt okm.ne (front_ne hl) (by simp))
    · rw [long_front ok.sorted, long_front ok.sorted]
      exact h.imp id (fun h2 => ⟨h2.1, lt_cons.2 (.inr ⟨rfl, h2.2⟩)⟩)
theorem form_front {c : UInt8} {l : List Bs} (hs : l.Pairwise (· < ·)) (w : Bs) : form (front c l) (c :: w) = form l w := by
  unfold form; rw [end_front hs]
theorem ix_front {c : UInt8} {l : List Bs} (ok : Ok l) (okm : Ok (front c l)) (hl : l ≠ []) {w : Bs} (h : endings l w ≠ []) : ixOf (front c l) (form (front c l) (c :: w)) = ixOf l (form l w) + 1 := by
  obtain ⟨v, hv, hf, -⟩ := first_of (mem_allW.2 (.inr h))
  have hfound : (firsts l).findIdx (fun v => decide (form l v = form l w)) < (firsts l).length := by
    rw [List.findIdx_lt_length]; exact ⟨v, hv, by simpa using (Prod.mk.inj hf).2⟩
  have hroot : decide (form (front c l) [] = form (front c l) (c :: w)) = false := by
    rw [decide_eq_false_iff_not, form_endings okm.let' okm.let']
    exact fun e => root_ne okm (front_ne hl) (by simp) e.symm
  have hidx : ([] :: (firsts l).map (c :: ·)).findIdx (fun v => decide (form (front c l) v = form (front c l) (c :: w))) = (firsts l).findIdx (fun v => decide (form l v = form l w)) + 1 := by
    rw [List.findIdx_cons, hroot, cond_false, List.findIdx_map]
    congr 2
    funext v
    show decide (form (front c l) (c :: v) = _) = _
    rw [form_front ok.sorted, form_front ok.sorted]
  unfold ixOf ix
  rw [firsts_front ok okm hl, hidx, if_pos hfound, if_pos (by rw [List.length_cons, List.length_map]; omega)]
  omega
theorem form_ne {l : List Bs} {w : Bs} : form l w ≠ [] ↔ endings l w ≠ [] := not_congr form_nil
def upS (x : St) : St := ⟨x.ends, x.letters, x.next.map (· + 1)⟩
/-- The least automaton of the longer names: one state more, the others one further. -/
theorem states_front {c : UInt8} {l : List Bs} (hc : lett c = true) (ok : Ok l) (okm : Ok (front c l)) (hl : l ≠ []) : statesL (front c l) = ⟨0, [c], [1]⟩ :: (statesL l).map upS := by
  have hroot : endings l [] ≠ [] := by
    intro e
    obtain ⟨s, hs⟩ := List.exists_mem_of_ne_nil _ hl
    have : s ∈ endings l [] := mem_endings.2 hs
    rw [e] at this; cases this
  unfold statesL
  rw [firsts_front ok okm hl, List.map_cons, List.map_map, List.map_map]
  congr 1
  · have ho : outs (front c l) [] = [c] := by
      have hp : (outs (front c l) []).Perm [c] := (List.perm_ext_iff_of_nodup ((outs_sorted _ _).imp (fun h e => by subst e; exact UInt8.lt_irrefl _ h)) (by simp)).2 (fun x => by
        rw [mem_outs, List.mem_singleton, List.nil_append]
        constructor
        · exact fun h => end_other h.2
        · rintro rfl; exact ⟨hc, by rw [end_front ok.sorted]; exact hroot⟩)
      exact List.perm_singleton.1 hp
    have hi : ixOf (front c l) (form (front c l) ([] ++ [c])) = 1 := by
      rw [List.nil_append, ix_front ok okm hl hroot]
      obtain ⟨r, hr⟩ := firsts_head ok.ne
      unfold ixOf ix
      rw [hr, List.findIdx_cons]
      simp
    unfold stOf
    rw [if_neg nil_front, ho, List.map_cons, List.map_nil, hi]
  · refine List.map_congr_left (fun v hv => ?_)
    have ho : outs (front c l) (c :: v) = outs l v := by
      unfold outs
      refine List.filter_congr (fun x _ => ?_)
      rw [List.cons_append, form_front ok.sorted]
    show stOf (front c l) (c :: v) = upS (stOf l v)
    unfold stOf upS
    rw [ho]
    congr 1
    · by_cases h : v ∈ l
      · rw [if_pos h, if_pos (mem_front.2 h)]
      · rw [if_neg h, if_neg (fun h2 => h (mem_front.1 h2))]
    · rw [List.map_map]
      refine List.map_congr_left (fun x hx => ?_)
      show ixOf (front c l) (form (front c l) (c :: v ++ [x])) = ixOf l (form l (v ++ [x])) + 1
      rw [List.cons_append, ix_front ok okm hl (mem_outs.1 hx).2]
end Go.Ix
