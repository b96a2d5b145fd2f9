/-
  A part of the proofs of the laws of the index: what the functions of this program compute. Conditions: none beyond those that its theorems name.
-/
import Derived.Test.YtmfgiabmmdbmoaaGreatDoorGw8
import Derived.Sort.Walk0
/-
  THE INDEX, IN PLAIN LEAN: what the reference and the program compute. No program in sight.
-/
namespace Go.Ix
open Go.Gw

def lett (b : UInt8) : Bool := decide (97 ≤ b.toNat) && decide (b.toNat ≤ 122)
def letters (s : Bs) : Bool := s.all lett
def lt (a b : Bs) : Bool := Op.bytesLess a b
/-- Strictly rising. -/
def inc : List Bs → Bool
  | a :: b :: r => lt a b && inc (b :: r)
  | _ => true

def wordErr (s : Bs) : Int := if s.length > 10 then 7 else if letters s = true then 0 else 8
def badName (s : Bs) : Bool := decide (s = []) || !letters s
def checkList (l : List Bs) : Int :=
  if l.length > 30 then 6 else if ∃ s ∈ l, s.length > 10 then 7 else if ∃ s ∈ l, badName s = true then 8 else if inc l = true then 0 else 16

theorem letters_f {s : Bs} {k : Nat} (hk : k < s.length) (h : lett ((s[k]?).getD 0) = false) : letters s = false := by
  unfold letters
  rw [List.all_eq_false]
  refine ⟨s[k], List.getElem_mem hk, ?_⟩
  simpa [List.getElem?_eq_getElem hk, h] using h
theorem take_snoc {α : Type} {s : List α} {k : Nat} (hk : k < s.length) : s.take (k + 1) = s.take k ++ [s[k]] := by
  rw [List.take_succ_eq_append_getElem hk]
theorem all_take {α : Type} {p : α → Prop} {s : List α} {k : Nat} (hk : k < s.length) (h : ∀ b ∈ s.take k, p b) (hp : p s[k]) : ∀ b ∈ s.take (k + 1), p b := by
  intro b hb
  rw [take_snoc hk] at hb
  simp only [List.mem_append, List.mem_singleton] at hb
  rcases hb with hb | rfl
  · exact h b hb
  · exact hp
theorem all_end {α : Type} {p : α → Prop} {s : List α} {k : Nat} (hk : s.length ≤ k) (h : ∀ b ∈ s.take k, p b) : ∀ b ∈ s, p b := by
  rwa [List.take_of_length_le hk] at h
theorem letters_t {s : Bs} {k : Nat} (hk : s.length ≤ k) (h : ∀ b ∈ s.take k, lett b = true) : letters s = true := by
  unfold letters
  rw [List.all_eq_true]
  exact all_end hk h

theorem inc_iff : ∀ (l : List Bs), inc l = true ↔ ∀ i (hi : i + 1 < l.length), lt l[i] l[i + 1] = true
  | [] => by simp [inc]
  | [a] => by simp [inc]
  | a :: b :: r => by
    simp only [inc, Bool.and_eq_true, inc_iff (b :: r)]
    constructor
    · rintro ⟨h1, h2⟩ i hi
      cases i with
      | zero => exact h1
      | succ i => exact h2 i (by simpa using hi)
    · intro h
      exact ⟨h 0 (by simp), fun i hi => h (i + 1) (by simp at hi ⊢; omega)⟩

theorem lt_dec (a b : Bs) : lt a b = decide (a < b) := Go.Proofs.bytesLess_eq a b
theorem chk6 {l : List Bs} (h : l.length > 30) : checkList l = 6 := if_pos h
theorem chk7 {l : List Bs} {k : Nat} (h30 : ¬ l.length > 30) (hk : k < l.length) (h : l[k].length > 10) : checkList l = 7 := by
  unfold checkList; rw [if_neg h30, if_pos ⟨l[k], List.getElem_mem hk, h⟩]
theorem chk8 {l : List Bs} {k : Nat} (h30 : ¬ l.length > 30) (h10 : ∀ s ∈ l, ¬ s.length > 10) (hk : k < l.length) (h : badName l[k] = true) : checkList l = 8 := by
  unfold checkList; rw [if_neg h30, if_neg (by rintro ⟨s, hs, h⟩; exact h10 s hs h), if_pos ⟨l[k], List.getElem_mem hk, h⟩]
theorem chk16 {l : List Bs} (h30 : ¬ l.length > 30) (h10 : ∀ s ∈ l, ¬ s.length > 10) (h8 : ∀ s ∈ l, badName s = false) {i : Nat} (hi : i + 1 < l.length) (h : lt l[i] l[i + 1] = false) : checkList l = 16 := by
  unfold checkList; rw [if_neg h30, if_neg (by rintro ⟨s, hs, h⟩; exact h10 s hs h), if_neg (by rintro ⟨s, hs, h⟩; rw [h8 s hs] at h; cases h), if_neg (fun e => by have := (inc_iff l).1 e i hi; rw [h] at this; cases this)]
theorem chk0 {l : List Bs} (h30 : ¬ l.length > 30) (h10 : ∀ s ∈ l, ¬ s.length > 10) (h8 : ∀ s ∈ l, badName s = false) (h : ∀ i (hi : i + 1 < l.length), lt l[i] l[i + 1] = true) : checkList l = 0 := by
  unfold checkList; rw [if_neg h30, if_neg (by rintro ⟨s, hs, h⟩; exact h10 s hs h), if_neg (by rintro ⟨s, hs, h⟩; rw [h8 s hs] at h; cases h), if_pos ((inc_iff l).2 h)]
/-- Not too great for the model's whole numbers. -/
def Small (l : List Bs) : Prop := l.length ≤ 1000000 ∧ ∀ s ∈ l, s.length ≤ 1000000
theorem Small.at {l : List Bs} (h : Small l) {k : Nat} (hk : k < l.length) : l[k].length ≤ 1000000 := h.2 _ (List.getElem_mem hk)
theorem lt_irrefl (a : Bs) : lt a a = false := by rw [lt_dec]; simp
theorem lt_swap (a b : Bs) : (lt a b || decide (a = b)) = !lt b a := by
  simp only [lt_dec]
  by_cases h : b < a
  · have h1 : ¬ a < b := List.not_lt.2 (List.le_of_lt h)
    have h2 : ¬ a = b := fun e => by subst e; exact List.lt_irrefl a h
    simp [h, h1, h2]
  · have h1 : a ≤ b := List.not_lt.1 h
    by_cases h2 : a < b
    · simp [h, h2]
    · have h3 : a = b := List.le_antisymm h1 (List.not_lt.1 h2)
      simp [h3]

theorem chk16' {l : List Bs} (h30 : ¬ l.length > 30) (h10 : ∀ s ∈ l, ¬ s.length > 10) (h8 : ∀ s ∈ l, badName s = false) {k : Nat} (hk : k < l.length) (h0 : 1 ≤ k) (h : (Op.bytesLess l[k] l[k - 1] || decide (l[k] = l[k - 1])) = true) : checkList l = 16 := by
  refine chk16 h30 h10 h8 (i := k - 1) (by omega) ?_
  have := lt_swap l[k] l[k - 1]
  simp only [lt] at this
  rw [h] at this
  have e : k - 1 + 1 = k := by omega
  simp only [e, lt]
  simpa using this
theorem inc_step {l : List Bs} {k : Nat} (hk : k < l.length) (h0 : 1 ≤ k) (h : (Op.bytesLess l[k] l[k - 1] || decide (l[k] = l[k - 1])) = false) (hP : ∀ i (hi : i + 1 < l.length), i + 1 < k → lt l[i] l[i + 1] = true) :
    ∀ i (hi : i + 1 < l.length), i + 1 < k + 1 → lt l[i] l[i + 1] = true := by
  intro i hi hik
  by_cases e : i + 1 < k
  · exact hP i hi e
  · have e2 : i = k - 1 := by omega
    subst e2
    have := lt_swap l[k] l[k - 1]
    simp only [lt] at this
    rw [h] at this
    have e : k - 1 + 1 = k := by omega
    simp only [e, lt]
    simpa using this
/-- The index of the first that is so; -1 if none is. -/
def ix {α : Type} (p : α → Bool) (l : List α) : Int := if l.findIdx p < l.length then (l.findIdx p : Int) else -1
theorem ix_at {α : Type} {p : α → Bool} {l : List α} {k : Nat} (hk : k < l.length) (hP : ∀ x ∈ l.take k, p x = false) (h : p l[k] = true) : ix p l = k := by
  have e : l.findIdx p = k := by
    rw [List.findIdx_eq hk]
    refine ⟨h, fun j hj => ?_⟩
    have h2 := hP l[j] (by rw [List.mem_take_iff_getElem]; exact ⟨j, by omega, rfl⟩)
    exact h2
  unfold ix; rw [e, if_pos hk]
theorem ix_none {α : Type} {p : α → Bool} {l : List α} {k : Nat} (hk : l.length ≤ k) (hP : ∀ x ∈ l.take k, p x = false) : ix p l = -1 := by
  have h := all_end hk hP
  unfold ix
  rw [if_neg]
  rw [List.findIdx_lt_length]
  rintro ⟨x, hx, hp⟩
  rw [h x hx] at hp; cases hp
theorem ix_ge {α : Type} (p : α → Bool) (l : List α) : decide (0 ≤ ix p l) = l.any p := by
  unfold ix
  by_cases h : l.findIdx p < l.length
  · rw [if_pos h]
    rw [List.findIdx_lt_length] at h
    have : l.any p = true := by rw [List.any_eq_true]; exact h
    rw [this]; simp
  · rw [if_neg h]
    rw [List.findIdx_lt_length] at h
    have : l.any p = false := by rw [List.any_eq_false]; intro x hx hp; exact h ⟨x, hx, hp⟩
    rw [this]; decide
theorem ix_lt {α : Type} (p : α → Bool) (l : List α) : -1 ≤ ix p l ∧ ix p l < l.length := by
  unfold ix; split <;> omega

/-- The first that is not 0. -/
def orI : List Int → Int
  | [] => 0
  | x :: l => if x ≠ 0 then x else orI l
theorem orI_at {l : List Int} {k : Nat} (hk : k < l.length) (hP : ∀ x ∈ l.take k, x = 0) (h : l[k] ≠ 0) : orI l = l[k] := by
  induction l generalizing k with
  | nil => simp at hk
  | cons x l ih =>
    cases k with
    | zero => simp only [List.getElem_cons_zero] at h ⊢; simp [orI, h]
    | succ k =>
      have h0 : x = 0 := hP x (by simp)
      simp only [List.getElem_cons_succ] at h ⊢
      simp only [orI, h0, ne_eq, not_true_eq_false, if_false]
      exact ih (by simpa using hk) (fun y hy => hP y (by simp [hy])) h
theorem orI_none {l : List Int} (hP : ∀ x ∈ l, x = 0) : orI l = 0 := by
  induction l with
  | nil => rfl
  | cons x l ih => simp [orI, hP x (by simp), ih (fun y hy => hP y (by simp [hy]))]

theorem pre_t {p s : Bs} : decide (s.take p.length = p) = p.isPrefixOf s := by
  rw [Bool.eq_iff_iff, decide_eq_true_eq, List.isPrefixOf_iff_prefix, List.prefix_iff_eq_take]
  exact ⟨fun e => e.symm, fun e => e.symm⟩
theorem pre_f {p s : Bs} (h : ¬ p.length ≤ s.length) : p.isPrefixOf s = false := by
  rw [Bool.eq_false_iff]
  intro e
  exact h (List.IsPrefix.length_le (List.isPrefixOf_iff_prefix.1 e))

def outP (lo hi : Int) (v : Value) : Bool := match v with | .int _ n => decide (n < lo ∨ hi < n) | _ => false
theorem within_any (lo hi : Int) (l : List Int) : (!((l.map I).any (outP lo hi))) = decide (∀ n ∈ l, lo ≤ n ∧ n ≤ hi) := by
  rw [Bool.eq_iff_iff]
  simp only [Bool.not_eq_true', List.any_eq_false, List.mem_map, decide_eq_true_eq, outP]
  constructor
  · intro h n hn
    have := h (I n) ⟨n, hn, rfl⟩
    simp at this
    omega
  · rintro h _ ⟨n, hn, rfl⟩
    have := h n hn
    simp
    omega

def strP (p : Bs → Bool) (v : Value) : Bool := match v with | .string ⟨⟨s⟩⟩ => p s | _ => false
theorem any_str (p : Bs → Bool) (l : List Bs) : (l.map S).any (strP p) = l.any p := by
  rw [List.any_map]; rfl
theorem ix_map {α β : Type} (f : α → β) (p : β → Bool) (l : List α) : ix p (l.map f) = ix (p ∘ f) l := by
  unfold ix; rw [List.findIdx_map, List.length_map]
theorem ix_str (p : Bs → Bool) (l : List Bs) : ix (strP p) (l.map S) = ix p l := by rw [ix_map]; rfl
theorem chk16b {l : List Bs} (h30 : ¬ l.length > 30) (h10 : ∀ s ∈ l, ¬ s.length > 10) (h8 : ∀ s ∈ l, badName s = false) {k : Nat} (hk : k < l.length) (h0 : 0 < k) (h : (!(Op.bytesLess l[k - 1] l[k])) = true) : checkList l = 16 := by
  refine chk16 h30 h10 h8 (i := k - 1) (by omega) ?_
  have e : k - 1 + 1 = k := by omega
  simp only [e, lt]
  simpa using h
theorem inc_stepb {l : List Bs} {k : Nat} (hk : k < l.length) (h : 0 < k → (!(Op.bytesLess l[k - 1] l[k])) = false) (hP : ∀ i (hi : i + 1 < l.length), i + 1 < k → lt l[i] l[i + 1] = true) :
    ∀ i (hi : i + 1 < l.length), i + 1 < k + 1 → lt l[i] l[i + 1] = true := by
  intro i hi hik
  by_cases e : i + 1 < k
  · exact hP i hi e
  · have e2 : i = k - 1 := by omega
    subst e2
    have e : k - 1 + 1 = k := by omega
    have := h (by omega)
    simp only [e, lt]
    simpa using this
/-- The error of words. -/
def wordsErr (ws : List Bs) : Int := orI (ws.map wordErr)
theorem wordsErr_at {l : List Bs} {k : Nat} (hk : k < l.length) (hP : ∀ x ∈ l.take k, wordErr x = 0) (h : wordErr l[k] ≠ 0) : wordsErr l = wordErr l[k] := by
  unfold wordsErr
  have := orI_at (l := l.map wordErr) (k := k) (by simpa using hk) (fun x hx => by rw [← List.map_take] at hx; obtain ⟨y, hy, rfl⟩ := List.mem_map.1 hx; exact hP y hy) (by simpa using h)
  simpa using this
theorem wordsErr_none {l : List Bs} (hP : ∀ x ∈ l, wordErr x = 0) : wordsErr l = 0 := orI_none (fun x hx => by obtain ⟨y, hy, rfl⟩ := List.mem_map.1 hx; exact hP y hy)
theorem wordErr_7 {s : Bs} (h : 10 < s.length) : wordErr s = 7 := if_pos h
theorem wordErr_8 {s : Bs} (h : ¬ 10 < s.length) (h2 : letters s = false) : wordErr s = 8 := by unfold wordErr; rw [if_neg h, if_neg (by rw [h2]; simp)]
theorem wordErr_0 {s : Bs} (h : ¬ 10 < s.length) (h2 : letters s = true) : wordErr s = 0 := by unfold wordErr; rw [if_neg h, if_pos h2]
/-- Strictly rising letters. -/
def rising : Bs → Bool
  | a :: b :: r => decide (a.toNat < b.toNat) && rising (b :: r)
  | _ => true
theorem rising_iff : ∀ (l : Bs), rising l = true ↔ ∀ i (hi : i + 1 < l.length), l[i].toNat < l[i + 1].toNat
  | [] => by simp [rising]
  | [a] => by simp [rising]
  | a :: b :: r => by
    simp only [rising, Bool.and_eq_true, rising_iff (b :: r), decide_eq_true_eq]
    constructor
    · rintro ⟨h1, h2⟩ i hi
      cases i with
      | zero => exact h1
      | succ i => exact h2 i (by simpa using hi)
    · intro h
      exact ⟨h 0 (by simp), fun i hi => h (i + 1) (by simp at hi ⊢; omega)⟩
theorem rising_f {s : Bs} {k : Nat} (hk : k < s.length) (h0 : 1 ≤ k) (h : ((s[k]?).getD 0).toNat ≤ ((s[k - 1]?).getD 0).toNat) : rising s = false := by
  rw [Bool.eq_false_iff]
  intro e
  have := (rising_iff s).1 e (k - 1) (by omega)
  have e2 : k - 1 + 1 = k := by omega
  simp only [e2] at this
  have hk1 : k - 1 < s.length := by omega
  simp [hk, hk1] at h
  omega
theorem rising_step {s : Bs} {k : Nat} (hk : k < s.length) (_ : 1 ≤ k) (h : ¬ ((s[k]?).getD 0).toNat ≤ ((s[k - 1]?).getD 0).toNat) (hP : ∀ i (hi : i + 1 < s.length), i + 1 < k → s[i].toNat < s[i + 1].toNat) :
    ∀ i (hi : i + 1 < s.length), i + 1 < k + 1 → s[i].toNat < s[i + 1].toNat := by
  intro i hi hik
  by_cases e : i + 1 < k
  · exact hP i hi e
  · have e2 : i = k - 1 := by omega
    subst e2
    have e : k - 1 + 1 = k := by omega
    have hk1 : k - 1 < s.length := by omega
    simp [hk, hk1] at h
    simp only [e]
    omega
theorem rising_t {s : Bs} (h : ∀ i (hi : i + 1 < s.length), s[i].toNat < s[i + 1].toNat) : rising s = true := (rising_iff s).2 h

/-! ### Endings -/
def ends1 (w s : Bs) : List Bs := if w.isPrefixOf s = true then [s.drop w.length] else []
/-- All endings that make a word into a name. -/
def endings (l : List Bs) (w : Bs) : List Bs := l.flatMap (ends1 w)
def semi (l : List Bs) : Bs := l.flatMap (· ++ [59])
def form (l : List Bs) (w : Bs) : Bs := semi (endings l w)
def longOf (l : List Bs) : Nat := l.foldl (fun n e => max n e.length) 0
def longest (l : List Bs) (w : Bs) : Nat := longOf (endings l w)
def Small2 (l : List Bs) : Prop := l.length ≤ 1000 ∧ ∀ s ∈ l, s.length ≤ 1000
theorem Small2.at {l : List Bs} (h : Small2 l) {k : Nat} (hk : k < l.length) : l[k].length ≤ 1000 := h.2 _ (List.getElem_mem hk)

theorem endings_take {l : List Bs} {k : Nat} (hk : k < l.length) (w : Bs) : endings (l.take (k + 1)) w = endings (l.take k) w ++ ends1 w l[k] := by
  unfold endings; rw [take_snoc hk, List.flatMap_append]; simp
theorem endings_split {l : List Bs} {k : Nat} (hk : k < l.length) (w : Bs) : endings l w = endings (l.take k) w ++ (ends1 w l[k] ++ endings (l.drop (k + 1)) w) := by
  have : l = l.take k ++ (l[k] :: l.drop (k + 1)) := by rw [← List.drop_eq_getElem_cons hk, List.take_append_drop]
  unfold endings
  conv => lhs; rw [this]
  rw [List.flatMap_append, List.flatMap_cons]
theorem endings_at {l : List Bs} {k : Nat} (hk : k < l.length) (w : Bs) (hp : w.isPrefixOf l[k] = true) : ((endings l w).map S)[(endings (l.take k) w).length]? = some (S (l[k].drop w.length)) := by
  rw [endings_split hk w, ends1, if_pos hp]
  simp
theorem ends_len_t {l : List Bs} {k : Nat} (hk : k < l.length) (w : Bs) (hp : w.isPrefixOf l[k] = true) : (endings (l.take (k + 1)) w).length = (endings (l.take k) w).length + 1 := by
  rw [endings_take hk, ends1, if_pos hp]; simp
theorem ends_len_f {l : List Bs} {k : Nat} (hk : k < l.length) (w : Bs) (hp : w.isPrefixOf l[k] = false) : (endings (l.take (k + 1)) w).length = (endings (l.take k) w).length := by
  rw [endings_take hk, ends1, if_neg (by rw [hp]; simp)]; simp
theorem endings_length (l : List Bs) (w : Bs) : (endings l w).length ≤ l.length := by
  induction l with
  | nil => simp [endings]
  | cons s l ih =>
    unfold endings at *
    rw [List.flatMap_cons, List.length_append]
    have : (ends1 w s).length ≤ 1 := by unfold ends1; split <;> simp
    simp only [List.length_cons]; omega
theorem mem_endings {l : List Bs} {w e : Bs} : e ∈ endings l w ↔ w ++ e ∈ l := by
  unfold endings ends1
  simp only [List.mem_flatMap]
  constructor
  · rintro ⟨s, hs, he⟩
    split at he
    · rename_i hp
      simp only [List.mem_singleton] at he
      obtain ⟨t, rfl⟩ := List.isPrefixOf_iff_prefix.1 hp
      simp at he
      subst he; exact hs
    · cases he
  · intro hs
    refine ⟨w ++ e, hs, ?_⟩
    rw [if_pos (List.isPrefixOf_iff_prefix.2 ⟨e, rfl⟩)]; simp
theorem ending_len {l : List Bs} (hs : Small2 l) {w e : Bs} (h : e ∈ endings l w) : e.length ≤ 1000 := by
  have := hs.2 _ (mem_endings.1 h); simp at this; omega
theorem semi_take {l : List Bs} {i : Nat} (hi : i < l.length) : semi (l.take (i + 1)) = semi (l.take i) ++ (l[i] ++ [59]) := by
  unfold semi; rw [take_snoc hi, List.flatMap_append]; simp
theorem semi_len {l : List Bs} (h : ∀ s ∈ l, s.length ≤ 1000) : (semi l).length ≤ l.length * 1001 := by
  induction l with
  | nil => simp [semi]
  | cons s l ih =>
    have h1 := h s (by simp)
    have h2 := ih (fun t ht => h t (by simp [ht]))
    unfold semi at *
    rw [List.flatMap_cons, List.length_append]
    simp only [List.length_append, List.length_cons, List.length_nil] at *
    omega
theorem longOf_take {l : List Bs} {i : Nat} (hi : i < l.length) : longOf (l.take (i + 1)) = max (longOf (l.take i)) l[i].length := by
  unfold longOf; rw [take_snoc hi, List.foldl_append]; rfl

theorem maxI (m k : Nat) : (if (k : Int) > (m : Int) then (k : Int) else (m : Int)) = ((max m k : Nat) : Int) := by split <;> omega

theorem longOf_le {l : List Bs} (h : ∀ s ∈ l, s.length ≤ 1000) : longOf l ≤ 1000 := by
  unfold longOf
  have key : ∀ (l : List Bs) (n : Nat), n ≤ 1000 → (∀ s ∈ l, s.length ≤ 1000) → l.foldl (fun n e => max n e.length) n ≤ 1000 := by
    intro l
    induction l with
    | nil => intro n h _; exact h
    | cons s l ih => intro n h1 h2; exact ih _ (show max n s.length ≤ 1000 from by have := h2 s (by simp); omega) (fun t ht => h2 t (by simp [ht]))
  exact key l 0 (by omega) h
theorem longest_le {l : List Bs} (hn : Small2 l) (w : Bs) : longest l w ≤ 1000 := longOf_le (fun _ hs => ending_len hn hs)

/-! ### The first words of the states -/
abbrev Key := Bool × Bs
def formP (l : List Bs) (w : Bs) : Key := (decide (w ∈ l), form l w)
abbrev fS (p : Key × Bs) : Key × Value := (p.1, S p.2)
def getW (a : Key) : List (Key × Bs) → Option Bs
  | [] => none
  | (b, v) :: M => if a = b then some v else getW a M
def delW (a : Key) : List (Key × Bs) → List (Key × Bs)
  | [] => []
  | (b, v) :: M => if a = b then M else (b, v) :: delW a M
theorem getM_map (a : Key) : ∀ (M : List (Key × Bs)), getM a (M.map fS) = (getW a M).map S
  | [] => rfl
  | (b, v) :: M => by
    simp only [List.map_cons, getM, getW]
    split
    · rfl
    · exact getM_map a M
theorem delM_map (a : Key) : ∀ (M : List (Key × Bs)), delM a (M.map fS) = (delW a M).map fS
  | [] => rfl
  | (b, v) :: M => by
    simp only [List.map_cons, delM, delW]
    split
    · rfl
    · simp [delM_map a M]
theorem getW_none {a : Key} : ∀ {M : List (Key × Bs)}, getW a M = none ↔ a ∉ M.map (·.1)
  | [] => by simp [getW]
  | (b, v) :: M => by
    simp only [getW, List.map_cons, List.mem_cons, not_or]
    split
    · rename_i h; simp [h]
    · rename_i h; rw [getW_none (M := M)]; simp [h]
theorem getW_del {a : Key} : ∀ {M : List (Key × Bs)}, (M.map (·.1)).Nodup → getW a (delW a M) = none
  | [], _ => rfl
  | (b, v) :: M, h => by
    simp only [List.map_cons, List.nodup_cons] at h
    simp only [delW]
    split
    · rename_i e; subst e; exact getW_none.2 h.1
    · rename_i e; simp only [getW, e, if_false]; exact getW_del h.2
/-- One word more is kept, if it is the first of its form. -/
def keepW (l : List Bs) (M : List (Key × Bs)) (w : Bs) : List (Key × Bs) :=
  if (!(getW (formP l w) M).isSome || lt w ((getW (formP l w) M).getD [])) = true then delW (formP l w) M ++ [(formP l w, w)] else M

/-- The shelf's cells: the list, how often each letter is there, the first words. -/
def zsh (vl : Value) (cs : List Int) (vf : Value) : List Value := vl :: (cs.map I ++ [vf])
theorem zsh_len (vl vf : Value) (cs : List Int) : (zsh vl cs vf).length = cs.length + 2 := by simp [zsh]
theorem zsh_at {vl vf : Value} {cs : List Int} {i : Nat} (hi : i < cs.length) : (zsh vl cs vf)[1 + i]? = some (I cs[i]) := by
  rw [zsh, Nat.add_comm, List.getElem?_cons_succ, List.getElem?_append_left (by simpa using hi)]; simp [hi]
theorem zsh_set {vl vf : Value} {cs : List Int} {i : Nat} (hi : i < cs.length) (x : Int) : patch (zsh vl cs vf) (1 + i) [I x] = zsh vl (cs.set i x) vf := by
  unfold patch zsh
  rw [Nat.add_comm 1 i]
  simp only [List.take_succ_cons, List.length_singleton, List.drop_succ_cons, List.cons_append, List.nil_append]
  congr 1
  rw [List.set_eq_take_append_cons_drop, if_pos hi]
  have e1 : i - (cs.map I).length = 0 := by simp; omega
  rw [List.take_append_of_le_length (by simp; omega), List.drop_append_of_le_length (by simp; omega)]
  simp [List.map_take, List.map_drop]
theorem zsh_last (vl vf vf' : Value) (cs : List Int) : patch (zsh vl cs vf) (cs.length + 1) [vf'] = zsh vl cs vf' := by
  unfold patch zsh
  simp
theorem zsh_vf (vl vf : Value) (cs : List Int) : (zsh vl cs vf)[cs.length + 1]? = some vf := by
  unfold zsh; simp
theorem sum_set {cs : List Int} {i : Nat} (hi : i < cs.length) : (cs.set i (cs[i] + 1)).sum = cs.sum + 1 := by
  induction cs generalizing i with
  | nil => simp at hi
  | cons c cs ih =>
    cases i with
    | zero => simp; omega
    | succ i => simp only [List.getElem_cons_succ, List.set_cons_succ, List.sum_cons]; rw [ih (by simpa using hi)]; omega
theorem le_sum {cs : List Int} (h : ∀ c ∈ cs, 0 ≤ c) {i : Nat} (hi : i < cs.length) : cs[i] ≤ cs.sum := by
  induction cs generalizing i with
  | nil => simp at hi
  | cons c cs ih =>
    have hc := h c (by simp)
    have hs : 0 ≤ cs.sum := by
      clear ih hi
      induction cs with
      | nil => simp
      | cons d ds ih2 => have := h d (by simp); have := ih2 (fun x hx => h x (by simp at hx ⊢; rcases hx with hx | hx <;> simp [hx])); simp; omega
    cases i with
    | zero => simp; omega
    | succ i => have := ih (fun x hx => h x (by simp [hx])) (i := i) (by simpa using hi); simp only [List.getElem_cons_succ, List.sum_cons]; omega
theorem nonneg_set {cs : List Int} (h : ∀ c ∈ cs, 0 ≤ c) {i : Nat} {x : Int} (hx : 0 ≤ x) : ∀ c ∈ cs.set i x, 0 ≤ c := by
  intro c hc
  rcases List.mem_or_eq_of_mem_set hc with h1 | rfl
  · exact h c h1
  · exact hx
theorem sum_zero {cs : List Int} (h : ∀ c ∈ cs, 0 ≤ c) : cs.sum = 0 ↔ ∀ c ∈ cs, c = 0 := by
  constructor
  · intro hs c hc
    obtain ⟨i, hi, rfl⟩ := List.mem_iff_getElem.1 hc
    have := le_sum h hi
    have := h _ hc
    omega
  · intro h0
    induction cs with
    | nil => rfl
    | cons c cs ih => simp [h0 c (by simp), ih (fun x hx => h x (by simp [hx])) (fun x hx => h0 x (by simp [hx]))]

/-- A state of an automaton. -/
structure St where
  ends : Int
  letters : Bs
  next : List Int
deriving DecidableEq

def StAt (h : Hp) (p : Addr) (x : St) : Prop := ∃ nv, Cells h p [I x.ends, S x.letters, nv] ∧ Ints h nv x.next
def Sts (h : Hp) (v : Value) (l : List St) : Prop :=
  ∃ a cap, v = .slice a l.length cap ∧ l.length ≤ cap ∧ ∀ i (hi : i < l.length), ∃ p, a = some p ∧ StAt h (p.add (scl i 3)) l[i]

theorem Sts.bel {B : Nat} {h h' : Hp} {v : Value} {l : List St} (s : Sts h v l) (e : Bel B h h') (hB : h.size ≤ B) : Sts h' v l := by
  obtain ⟨a, cap, rfl, hc, hx⟩ := s
  refine ⟨a, cap, rfl, hc, fun i hi => ?_⟩
  obtain ⟨p, rfl, nv, h1, h2⟩ := hx i hi
  exact ⟨p, rfl, nv, fun j u hj => e.cell (h1 j u hj) (Nat.lt_of_lt_of_le (lt_of_hcell (h1 j u hj)) hB), h2.bel e hB⟩
theorem Sts.ext {h h' : Hp} {v : Value} {l : List St} (s : Sts h v l) (e : Ext h h') : Sts h' v l := s.bel e (Nat.le_refl _)
end Go.Ix
