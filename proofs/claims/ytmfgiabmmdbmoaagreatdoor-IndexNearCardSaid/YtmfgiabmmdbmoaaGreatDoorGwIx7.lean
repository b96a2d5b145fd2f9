/-
  A part of the proofs of the laws of the index: what the functions of this program compute. Conditions: none beyond those that its theorems name.
-/
import Derived.Test.YtmfgiabmmdbmoaaGreatDoorGwIx6
/-
  THE INDEX, IN PLAIN LEAN (7): words that are near to each other.
-/
namespace Go.Ix
open Go.Gw Go.Sort Go.Proofs

/-- The one word becomes the other one by n changes at most: letters left out, put in, or turned. -/
inductive Al : Nat → Bs → Bs → Prop
  | nil (n) : Al n [] []
  | same {n a b} (x) : Al n a b → Al n (x :: a) (x :: b)
  | del {n a b} (x) : Al n a b → Al (n + 1) (x :: a) b
  | ins {n a b} (y) : Al n a b → Al (n + 1) a (y :: b)
  | sub {n a b} (x y) : Al n a b → Al (n + 1) (x :: a) (y :: b)

theorem Al.mono {n m : Nat} {a b : Bs} (h : Al n a b) (hm : n ≤ m) : Al m a b := by
  induction h generalizing m with
  | nil => exact .nil _
  | same x _ ih => exact .same x (ih hm)
  | del x _ ih => obtain ⟨k, rfl⟩ : ∃ k, m = k + 1 := ⟨m - 1, by omega⟩; exact .del x (ih (by omega))
  | ins y _ ih => obtain ⟨k, rfl⟩ : ∃ k, m = k + 1 := ⟨m - 1, by omega⟩; exact .ins y (ih (by omega))
  | sub x y _ ih => obtain ⟨k, rfl⟩ : ∃ k, m = k + 1 := ⟨m - 1, by omega⟩; exact .sub x y (ih (by omega))
theorem Al.refl (a : Bs) : Al 0 a a := by
  induction a with
  | nil => exact .nil _
  | cons x a ih => exact .same x ih
theorem Al.symm {n : Nat} {a b : Bs} (h : Al n a b) : Al n b a := by
  induction h with
  | nil => exact .nil _
  | same x _ ih => exact .same x ih
  | del x _ ih => exact .ins x ih
  | ins y _ ih => exact .del y ih
  | sub x y _ ih => exact .sub y x ih
theorem Al.dels : ∀ (a : Bs), Al a.length a []
  | [] => .nil _
  | x :: a => .del x (Al.dels a)
theorem Al.len {n : Nat} {a b : Bs} (h : Al n a b) : a.length ≤ b.length + n ∧ b.length ≤ a.length + n := by
  induction h with
  | nil => simp
  | same x _ ih => simp only [List.length_cons]; omega
  | del x _ ih => simp only [List.length_cons]; omega
  | ins y _ ih => simp only [List.length_cons]; omega
  | sub x y _ ih => simp only [List.length_cons]; omega
theorem Al.zero {a b : Bs} (h : Al 0 a b) : a = b := by
  generalize hn : 0 = n at h
  induction h with
  | nil => rfl
  | same x _ ih => rw [ih hn]
  | del => omega
  | ins => omega
  | sub => omega
/-- One after another. -/
theorem Al.trans {n m : Nat} {a b c : Bs} (h : Al n a b) (k : Al m b c) : Al (n + m) a c := by
  have key : ∀ (t : Nat) (n m : Nat) (a b c : Bs), a.length + b.length + c.length = t → Al n a b → Al m b c → Al (n + m) a c := by
    intro t
    induction t using Nat.strongRecOn with
    | _ t ih =>
      intro n m a b c ht h k
      cases k with
      | nil => cases h with
        | nil => exact .nil _
        | del x h => rw [show ∀ p, p + 1 + m = p + m + 1 by omega]; exact .del x (ih _ (by simp only [List.length_cons] at ht ⊢; omega) _ _ _ _ _ rfl h (.nil _))
      | ins y k => exact .ins y (ih _ (by simp only [List.length_cons] at ht ⊢; omega) _ _ _ _ _ rfl h k)
      | same x k => cases h with
        | same _ h => exact .same x (ih _ (by simp only [List.length_cons] at ht ⊢; omega) _ _ _ _ _ rfl h k)
        | del y h => rw [show ∀ p, p + 1 + m = p + m + 1 by omega]; exact .del y (ih _ (by simp only [List.length_cons] at ht ⊢; omega) _ _ _ _ _ rfl h (.same x k))
        | ins _ h => rw [show ∀ p, p + 1 + m = p + m + 1 by omega]; exact .ins x (ih _ (by simp only [List.length_cons] at ht ⊢; omega) _ _ _ _ _ rfl h k)
        | sub y _ h => rw [show ∀ p, p + 1 + m = p + m + 1 by omega]; exact .sub y x (ih _ (by simp only [List.length_cons] at ht ⊢; omega) _ _ _ _ _ rfl h k)
      | del x k => cases h with
        | same _ h => exact .del x (ih _ (by simp only [List.length_cons] at ht ⊢; omega) _ _ _ _ _ rfl h k)
        | del y h => rw [show ∀ p q, p + 1 + (q + 1) = p + (q + 1) + 1 by omega]; exact .del y (ih _ (by simp only [List.length_cons] at ht ⊢; omega) _ _ _ _ _ rfl h (.del x k))
        | ins _ h => exact (ih _ (by simp only [List.length_cons] at ht ⊢; omega) _ _ _ _ _ rfl h k).mono (by omega)
        | sub y _ h => exact .del y ((ih _ (by simp only [List.length_cons] at ht ⊢; omega) _ _ _ _ _ rfl h k).mono (by simp only [Nat.add_eq]; omega))
      | sub x y k => cases h with
        | same _ h => exact .sub x y (ih _ (by simp only [List.length_cons] at ht ⊢; omega) _ _ _ _ _ rfl h k)
        | del z h => rw [show ∀ p q, p + 1 + (q + 1) = p + (q + 1) + 1 by omega]; exact .del z (ih _ (by simp only [List.length_cons] at ht ⊢; omega) _ _ _ _ _ rfl h (.sub x y k))
        | ins _ h => exact .ins y ((ih _ (by simp only [List.length_cons] at ht ⊢; omega) _ _ _ _ _ rfl h k).mono (by simp only [Nat.add_eq]; omega))
        | sub z _ h => exact .sub z y ((ih _ (by simp only [List.length_cons] at ht ⊢; omega) _ _ _ _ _ rfl h k).mono (by simp only [Nat.add_eq]; omega))
  exact key _ _ _ _ _ _ rfl h k
/-- A letter that both begin with may stay. -/
theorem Al.head {n : Nat} {x : UInt8} {a b : Bs} (h : Al n (x :: a) (x :: b)) : Al n a b := by
  have left : ∀ {n : Nat} {a b : Bs} {x : UInt8}, Al n a (x :: b) → Al (n + 1) a b := fun h => (h.trans (.del _ (Al.refl _)) : Al (_ + (0 + 1)) _ _)
  cases h with
  | same _ h => exact h
  | del _ h => exact left h
  | ins _ h => exact (left h.symm).symm
  | sub _ _ h => exact h.mono (by omega)
theorem Al.strip {n : Nat} : ∀ {a b : Bs}, Al n a b ↔ Al n (strip a b).1 (strip a b).2
  | [], b => by simp [Ix.strip]
  | _ :: _, [] => by simp [Ix.strip]
  | x :: a, y :: b => by
    unfold Ix.strip
    split
    · rename_i e
      subst e
      exact ⟨fun h => Al.strip.1 h.head, fun h => .same _ (Al.strip.2 h)⟩
    · exact Iff.rfl
theorem strip_ne : ∀ (a b : Bs), (strip a b).1 = [] ∨ (strip a b).2 = [] ∨ ∃ x y s t, strip a b = (x :: s, y :: t) ∧ x ≠ y
  | [], b => by simp [strip]
  | x :: a, [] => by simp [strip]
  | x :: a, y :: b => by
    unfold strip
    split
    · exact strip_ne a b
    · rename_i h; exact .inr (.inr ⟨x, y, a, b, rfl, h⟩)
theorem nearS_al : ∀ (m : Nat) (a b : Bs), nearS m a b = true ↔ Al m a b := by
  intro m
  induction m with
  | zero =>
    intro a b
    rw [Al.strip]
    unfold nearS
    simp only
    by_cases h : (strip a b).1 = [] ∨ (strip a b).2 = []
    · rw [if_pos h, decide_eq_true_eq]
      constructor
      · intro hl
        have h1 : (strip a b).1 = [] := List.eq_nil_of_length_eq_zero (by omega)
        have h2 : (strip a b).2 = [] := List.eq_nil_of_length_eq_zero (by omega)
        rw [h1, h2]; exact .nil _
      · intro h2
        have := h2.zero
        rcases h with h | h
        · rw [h, ← this, h]; simp
        · rw [this, h]; simp
    · rw [if_neg h]
      refine ⟨fun h2 => absurd h2 (by simp), fun h2 => ?_⟩
      have e := h2.zero
      rcases strip_ne a b with h3 | h3 | ⟨x, y, s, t, h3, hne⟩
      · exact absurd (.inl h3) h
      · exact absurd (.inr h3) h
      · rw [h3] at e; simp at e; exact absurd e.1 hne
  | succ m ih =>
    intro a b
    rw [Al.strip]
    unfold nearS
    simp only
    by_cases h : (strip a b).1 = [] ∨ (strip a b).2 = []
    · rw [if_pos h, decide_eq_true_eq]
      constructor
      · intro hl
        rcases h with h | h
        · rw [h] at hl ⊢; exact (Al.dels _).symm.mono (by simp at hl; omega)
        · rw [h] at hl ⊢; exact (Al.dels _).mono (by simp at hl; omega)
      · intro h2
        have := h2.len
        rcases h with h | h <;> rw [h] at this ⊢ <;> simp at this ⊢ <;> omega
    · rw [if_neg h]
      rcases strip_ne a b with h3 | h3 | ⟨x, y, s, t, h3, hne⟩
      · exact absurd (.inl h3) h
      · exact absurd (.inr h3) h
      · rw [h3]
        simp only [List.drop_succ_cons, List.drop_zero, Bool.or_eq_true, ih]
        constructor
        · rintro ((h4 | h4) | h4)
          · exact .del x h4
          · exact .ins y h4
          · exact .sub x y h4
        · intro h4
          cases h4 with
          | same => exact absurd rfl hne
          | del _ h4 => exact .inl (.inl h4)
          | ins _ h4 => exact .inl (.inr h4)
          | sub _ _ h4 => exact .inr h4
theorem Al.drop_one : ∀ (k : Nat) (a : Bs), k < a.length → Al 1 a (a.take k ++ a.drop (k + 1))
  | _, [], h => by simp at h
  | 0, x :: a, _ => by simpa using (Al.del x (Al.refl a))
  | k + 1, x :: a, h => by simpa using Al.same x (Al.drop_one k a (by simpa using h))
end Go.Ix
