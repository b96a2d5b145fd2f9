/-
  A part of the proofs of the laws of the index: what the functions of this program compute. Conditions: none beyond those that its theorems name.
-/
import Derived.Test.YtmfgiabmmdbmoaaGreatDoorGwIx
import Derived.Lib.SlTrimSet
import Derived.Lib.Bytealg
import Derived.Shelf.SlSortCmp.NoneTotal
import Derived.Lib.SlicesCompact
/-
  THE INDEX, IN PLAIN LEAN (2): the alphabet as a cutset; comparisons.
-/
namespace Go.Ix
open Go.Gw Go.Sort Go.Proofs

def alpha : Bs := [97, 98, 99, 100, 101, 102, 103, 104, 105, 106, 107, 108, 109, 110, 111, 112, 113, 114, 115, 116, 117, 118, 119, 120, 121, 122]
set_option maxRecDepth 100000 in
theorem alpha_lett (b : UInt8) : alpha.contains b = lett b := by
  have h : ∀ n : Fin 256, alpha.contains (UInt8.ofNat n.val) = lett (UInt8.ofNat n.val) := by decide
  have := h ⟨b.toNat, b.toNat_lt⟩
  simpa using this
theorem dropWhile_all {p : UInt8 → Bool} : ∀ {l : Bs}, l.dropWhile p = [] ↔ l.all p = true
  | [] => by simp
  | b :: l => by
    rw [List.dropWhile_cons]
    cases h : p b with
    | true => simp [h, dropWhile_all (l := l)]
    | false => simp [h]
theorem trim_letters (s : Bs) : decide (Lib.trimS s alpha ≠ []) = !letters s := by
  have hp : (fun b => alpha.contains b) = lett := funext alpha_lett
  have key : Lib.trimS s alpha = [] ↔ letters s = true := by
    unfold Lib.trimS Lib.trimLeftS Lib.trimRightS letters
    rw [hp]
    constructor
    · intro h
      by_cases h2 : s.all lett = true
      · exact h2
      · exfalso
        have h3 : (s.reverse.dropWhile lett) ≠ [] := by
          rw [Ne, dropWhile_all]; simpa using h2
        -- the last that is no letter stands at the end: it stays
        have h4 := dropWhile_all.1 h
        obtain ⟨b, t, hbt⟩ := List.exists_cons_of_ne_nil h3
        have hb : lett b = false := by
          have := List.head?_dropWhile_not lett s.reverse
          rw [hbt] at this
          simpa using this
        rw [hbt] at h4
        simp [hb] at h4
    · intro h
      have : s.reverse.dropWhile lett = [] := dropWhile_all.2 (by simpa using h)
      rw [this]; rfl
  rw [Bool.eq_iff_iff]
  simp only [ne_eq, decide_eq_true_eq, Bool.not_eq_true', Bool.eq_false_iff]
  exact not_congr key

theorem cmpB : ∀ (a b : Bs), (Lib.compareBytes a b < 0 ↔ a < b) ∧ (Lib.compareBytes a b = 0 ↔ a = b)
  | [], [] => by simp [Lib.compareBytes]
  | [], _ :: _ => by simp [Lib.compareBytes]
  | _ :: _, [] => by simp [Lib.compareBytes]
  | a :: xs, b :: ys => by
    have ih := cmpB xs ys
    unfold Lib.compareBytes
    rw [List.cons_lt_cons_iff]
    by_cases h1 : a < b
    · have hne : a ≠ b := fun e => by subst e; exact (UInt8.lt_irrefl a) h1
      simp [h1, hne]
    · by_cases h2 : b < a
      · have hne : a ≠ b := fun e => by subst e; exact (UInt8.lt_irrefl a) h2
        simp [h1, h2, hne]
      · have he : a = b := UInt8.le_antisymm (UInt8.not_lt.1 h2) (UInt8.not_lt.1 h1)
        subst he
        simp [h1, ih.1, ih.2]

/-- A comparison: by a number, then by the bytes. -/
def cfF (f : Bs → Int) (a b : Bs) : Int := orI [f a - f b, Lib.compareBytes a b]
theorem ltOf_cfF (f : Bs → Int) (x y : Bs) : ltOf (cfF f) x y = decide (f x < f y ∨ (f x = f y ∧ x < y)) := by
  have h := cmpB x y
  unfold ltOf cfF orI orI orI
  rw [Bool.eq_iff_iff]
  simp only [decide_eq_true_eq]
  by_cases h1 : f x - f y ≠ 0
  · rw [if_pos h1]
    constructor
    · intro h2; left; omega
    · rintro (h2 | ⟨h2, _⟩) <;> omega
  · rw [if_neg h1]
    by_cases h2 : Lib.compareBytes x y ≠ 0
    · rw [if_pos h2, h.1]
      constructor
      · intro h3; exact .inr ⟨by omega, h3⟩
      · rintro (h3 | ⟨_, h3⟩); omega; exact h3
    · rw [if_neg h2]
      have : x = y := h.2.1 (by simpa using h2)
      subst this
      simp [List.lt_irrefl]
theorem swoF (f : Bs → Int) : SWO (ltOf (cfF f)) where
  irrefl x := by rw [ltOf_cfF]; simp [List.lt_irrefl]
  trans x y z h1 h2 := by
    rw [ltOf_cfF, decide_eq_true_eq] at *
    rcases h1 with h1 | ⟨h1, h1'⟩ <;> rcases h2 with h2 | ⟨h2, h2'⟩
    · exact .inl (by omega)
    · exact .inl (by omega)
    · exact .inl (by omega)
    · exact .inr ⟨by omega, List.lt_trans h1' h2'⟩
  ntrans x y z h1 h2 := by
    rw [ltOf_cfF, decide_eq_false_iff_not] at *
    rintro (h3 | ⟨h3, h3'⟩)
    · exact h1 (.inl (by have : ¬ f y < f z := fun h => h2 (.inl h); omega))
    · have a1 : ¬ f x < f y := fun h => h1 (.inl h)
      have a2 : ¬ f y < f z := fun h => h2 (.inl h)
      have e1 : f x = f y := by omega
      have e2 : f y = f z := by omega
      have b1 : ¬ x < y := fun h => h1 (.inr ⟨e1, h⟩)
      have b2 : ¬ y < z := fun h => h2 (.inr ⟨e2, h⟩)
      exact List.not_lt.2 (List.le_trans (List.not_lt.1 b2) (List.not_lt.1 b1)) h3'
theorem totF (f : Bs → Int) (x y : Bs) (h1 : ltOf (cfF f) x y = false) (h2 : ltOf (cfF f) y x = false) : x = y := by
  rw [ltOf_cfF, decide_eq_false_iff_not] at *
  have a1 : ¬ f x < f y := fun h => h1 (.inl h)
  have a2 : ¬ f y < f x := fun h => h2 (.inl h)
  have e1 : f x = f y := by omega
  exact List.le_antisymm (List.not_lt.1 fun h => h2 (.inr ⟨e1.symm, h⟩)) (List.not_lt.1 fun h => h1 (.inr ⟨e1, h⟩))
/-- Sorted by it. -/
def srt (f : Bs → Int) (l : List Bs) : List Bs := l.mergeSort fun x y => !ltOf (cfF f) y x
theorem srt_perm (f : Bs → Int) (l : List Bs) : (srt f l).Perm l := List.mergeSort_perm _ _
theorem srt_sorted (f : Bs → Int) (l : List Bs) : (srt f l).Pairwise fun x y => (!ltOf (cfF f) y x) = true := by
  refine List.pairwise_mergeSort (fun a b c h1 h2 => ?_) (fun a b => ?_) l
  · simp only [Bool.not_eq_true'] at *
    exact (swoF f).ntrans c b a h2 h1
  · cases h : ltOf (cfF f) b a with
    | false => simp
    | true =>
      have : ltOf (cfF f) a b = false := by
        cases h2 : ltOf (cfF f) a b with
        | false => rfl
        | true => have := (swoF f).trans a b a h2 h; rw [(swoF f).irrefl] at this; cases this
      simp [this]
theorem srt_eq (f : Bs → Int) {l l' : List Bs} (h : l.Perm l') : srt f l = srt f l' := by
  refine List.Perm.eq_of_pairwise (le := fun x y => (!ltOf (cfF f) y x) = true) (fun a b _ _ h1 h2 => ?_) (srt_sorted f l) (srt_sorted f l') ((srt_perm f l).trans (h.trans (srt_perm f l').symm))
  exact totF f a b (by simpa using h2) (by simpa using h1)

/-! ### The first words -/
def prefixesOf (s : Bs) (j : Nat) : List Bs := (List.range j).map fun n => s.take (n + 1)
/-- All beginnings of names, in the order in which they are met. -/
def allW (l : List Bs) : List Bs := [] :: l.flatMap fun s => prefixesOf s s.length
def keepAll (l : List Bs) : List (Key × Bs) := (allW l).foldl (keepW l) []
def rank (l : List Bs) (w : Bs) : Int := -(longest l w : Int)
/-- The first words of the states, in their order. -/
def firsts (l : List Bs) : List Bs := srt (rank l) ((keepAll l).map (·.2))
def kp (l : List Bs) (ws : List Bs) : List (Key × Bs) := ws.foldl (keepW l) []
theorem kp_snoc (l : List Bs) (ws : List Bs) (w : Bs) : kp l (ws ++ [w]) = keepW l (kp l ws) w := by simp [kp]
theorem delW_sub (a : Key) : ∀ (M : List (Key × Bs)), List.Sublist (delW a M) M
  | [] => List.Sublist.refl _
  | (b, v) :: M => by
    simp only [delW]
    split
    · exact List.sublist_cons_self _ _
    · exact (delW_sub a M).cons_cons _
theorem kp_nodup (l : List Bs) (ws : List Bs) : ((kp l ws).map (·.1)).Nodup := by
  unfold kp
  have key : ∀ (ws : List Bs) (M : List (Key × Bs)), (M.map (·.1)).Nodup → ((ws.foldl (keepW l) M).map (·.1)).Nodup := by
    intro ws
    induction ws with
    | nil => intro M h; exact h
    | cons w ws ih =>
      intro M h
      refine ih _ ?_
      unfold keepW
      split
      · rw [List.map_append]
        refine List.nodup_append.2 ⟨List.Nodup.sublist ((delW_sub _ M).map _) h, by simp, fun a ha b hb => ?_⟩
        simp only [List.map_cons, List.map_nil, List.mem_singleton] at hb
        subst hb
        intro e
        subst e
        exact getW_none.1 (getW_del h) ha
      · exact h
  exact key ws [] (by simp)
theorem prefixesOf_succ (s : Bs) (j : Nat) : prefixesOf s (j + 1) = prefixesOf s j ++ [s.take (j + 1)] := by
  unfold prefixesOf; rw [List.range_succ, List.map_append]; rfl
def allTo (l : List Bs) (k : Nat) : List Bs := [] :: (l.take k).flatMap fun s => prefixesOf s s.length
theorem allTo_succ {l : List Bs} {k : Nat} (hk : k < l.length) : allTo l (k + 1) = allTo l k ++ prefixesOf l[k] l[k].length := by
  unfold allTo; rw [take_snoc hk, List.flatMap_append]; simp
theorem allTo_all {l : List Bs} {k : Nat} (hk : l.length ≤ k) : allTo l k = allW l := by
  unfold allTo allW; rw [List.take_of_length_le hk]
theorem kp_mem (l : List Bs) (ws : List Bs) : ∀ p ∈ kp l ws, p.2 ∈ ws := by
  unfold kp
  have key : ∀ (ws : List Bs) (M : List (Key × Bs)) (T : List Bs), (∀ p ∈ M, p.2 ∈ T) → ∀ p ∈ ws.foldl (keepW l) M, p.2 ∈ T ++ ws := by
    intro ws
    induction ws with
    | nil => intro M T h p hp; simpa using h p hp
    | cons w ws ih =>
      intro M T h p hp
      have := ih (keepW l M w) (T ++ [w]) (fun q hq => by
        unfold keepW at hq
        split at hq
        · rcases List.mem_append.1 hq with hq | hq
          · exact List.mem_append_left _ (h q ((delW_sub _ M).subset hq))
          · simp only [List.mem_singleton] at hq; subst hq; simp
        · exact List.mem_append_left _ (h q hq)) p hp
      simpa using this
  intro p hp
  simpa using key ws [] [] (by simp) p hp
theorem allW_len {l : List Bs} (hn : Small2 l) : ∀ w ∈ allW l, w.length ≤ 1000 := by
  intro w hw
  unfold allW at hw
  rcases List.mem_cons.1 hw with rfl | hw
  · simp
  · obtain ⟨s, hs, hw⟩ := List.mem_flatMap.1 hw
    obtain ⟨n, _, rfl⟩ := List.mem_map.1 hw
    have := hn.2 s hs
    rw [List.length_take]; omega
theorem allW_count {l : List Bs} (hn : Small2 l) : (allW l).length ≤ 1000001 := by
  have key : ∀ (l : List Bs), (∀ s ∈ l, s.length ≤ 1000) → (l.flatMap fun s => prefixesOf s s.length).length ≤ l.length * 1000 := by
    intro l
    induction l with
    | nil => simp
    | cons s l ih =>
      intro h
      have h1 := h s (by simp)
      have h2 := ih (fun t ht => h t (by simp [ht]))
      rw [List.flatMap_cons, List.length_append]
      have h3 : (prefixesOf s s.length).length = s.length := by simp [prefixesOf]
      simp only [List.length_cons]; omega
  have := key l hn.2
  have := hn.1
  unfold allW
  simp only [List.length_cons]; omega
theorem kp_count (l ws : List Bs) : (kp l ws).length ≤ ws.length := by
  unfold kp
  have key : ∀ (ws : List Bs) (M : List (Key × Bs)), (ws.foldl (keepW l) M).length ≤ M.length + ws.length := by
    intro ws
    induction ws with
    | nil => intro M; simp
    | cons w ws ih =>
      intro M
      have h1 := ih (keepW l M w)
      have h2 : (keepW l M w).length ≤ M.length + 1 := by
        unfold keepW
        split
        · have := (delW_sub (formP l w) M).length_le
          simp; omega
        · omega
      simp only [List.foldl_cons, List.length_cons]; omega
  simpa using key ws []

theorem flat_len {l : List Bs} (hn : Small2 l) (k : Nat) : (l.take k).flatten.length ≤ 1000000 := by
  have key : ∀ (l : List Bs), (∀ s ∈ l, s.length ≤ 1000) → l.flatten.length ≤ l.length * 1000 := by
    intro l
    induction l with
    | nil => simp
    | cons s l ih => intro h; have h1 := h s (by simp); have h2 := ih (fun t ht => h t (by simp [ht])); rw [List.flatten_cons, List.length_append]; simp only [List.length_cons]; omega
  have h1 := key (l.take k) (fun s hs => hn.2 s (List.mem_of_mem_take hs))
  have h2 := hn.1
  have h3 : (l.take k).length ≤ l.length := by rw [List.length_take]; omega
  have h4 := Nat.mul_le_mul_right 1000 (Nat.le_trans h3 h2)
  omega
theorem letter_at {s : Bs} (h : letters s = true) {j : Nat} (hj : j < s.length) : 97 ≤ s[j].toNat ∧ s[j].toNat ≤ 122 := by
  unfold letters at h
  have := List.all_eq_true.1 h _ (List.getElem_mem hj)
  simpa [lett] using this
theorem sl_bytes {h : Hp} {a : Option Addr} {n c : Nat} {s : Bs} (hs : Sl h (.slice a n c) (s.map U)) (i : Nat) (hi : i < s.length) : ∃ p, a = some p ∧ hcell h (p.add i) = some (U s[i]) := by
  obtain ⟨a', c', hv, _, hx⟩ := hs
  cases hv
  exact hx i (U s[i]) (by simp [hi])

theorem S_inj : Function.Injective S := fun a b h => by simpa using h
theorem perm_S {a b : List Bs} (h : (a.map S).Perm (b.map S)) : a.Perm b := by
  let f : Value → Bs := fun v => match v with | .string ⟨⟨s⟩⟩ => s | _ => []
  have := h.map f
  rw [List.map_map, List.map_map] at this
  have e : f ∘ S = id := rfl
  rwa [e, List.map_id, List.map_id] at this

/-- What a valid list is. -/
theorem chk_ok {l : List Bs} (h : checkList l = 0) : l.length ≤ 30 ∧ (∀ s ∈ l, s.length ≤ 10 ∧ s ≠ [] ∧ letters s = true) ∧ inc l = true := by
  unfold checkList at h
  split at h
  · omega
  split at h
  · omega
  split at h
  · omega
  split at h
  · rename_i h1 h2 h3 h4
    refine ⟨by omega, fun s hs => ⟨?_, ?_, ?_⟩, h4⟩
    · have : ¬ s.length > 10 := fun e => h2 ⟨s, hs, e⟩
      omega
    · intro e
      exact h3 ⟨s, hs, by simp [badName, e]⟩
    · cases hl : letters s with
      | true => rfl
      | false => exact absurd ⟨s, hs, by simp [badName, hl]⟩ h3
  · omega
theorem small2_ok {l : List Bs} (h : checkList l = 0) : Small2 l := ⟨by have := (chk_ok h).1; omega, fun s hs => by have := ((chk_ok h).2.1 s hs).1; omega⟩
/-- The error of open. -/
def openErr (l ws : List Bs) : Int := if checkList l ≠ 0 then checkList l else wordsErr ws

/-! ### Near -/
def strip : Bs → Bs → Bs × Bs
  | a :: as', b :: bs' => if a = b then strip as' bs' else (a :: as', b :: bs')
  | as', bs' => (as', bs')
def nearS : Nat → Bs → Bs → Bool
  | 0, a, b => let p := strip a b; if p.1 = [] ∨ p.2 = [] then decide (p.1.length + p.2.length ≤ 0) else false
  | m + 1, a, b => let p := strip a b
    if p.1 = [] ∨ p.2 = [] then decide (p.1.length + p.2.length ≤ m + 1)
    else nearS m (p.1.drop 1) p.2 || nearS m p.1 (p.2.drop 1) || nearS m (p.1.drop 1) (p.2.drop 1)
theorem strip_step {a b : Bs} (ha : a ≠ []) (hb : b ≠ []) (h : ((a[0]?).getD 0) = ((b[0]?).getD 0)) : strip (a.drop 1) (b.drop 1) = strip a b := by
  cases a with
  | nil => exact absurd rfl ha
  | cons x a => cases b with
    | nil => exact absurd rfl hb
    | cons y b => simp only [List.getElem?_cons_zero, Option.getD_some] at h; simp [strip, h]
theorem strip_stop {a b : Bs} (h : a = [] ∨ b = [] ∨ ((a[0]?).getD 0) ≠ ((b[0]?).getD 0)) : strip a b = (a, b) := by
  cases a with
  | nil => rfl
  | cons x a => cases b with
    | nil => rfl
    | cons y b => simp only [List.getElem?_cons_zero, Option.getD_some, reduceCtorEq, false_or] at h; simp [strip, h]
theorem strip_len : ∀ (a b : Bs), (strip a b).1.length ≤ a.length ∧ (strip a b).2.length ≤ b.length
  | [], b => by simp [strip]
  | _ :: _, [] => by simp [strip]
  | x :: a, y :: b => by
    unfold strip
    split
    · have := strip_len a b; simp only [List.length_cons]; omega
    · simp

theorem nearS_end {m : Nat} {a b x y : Bs} (hP : strip x y = strip a b) (h : x = [] ∨ y = []) : decide ((x.length : Int) + (y.length : Int) ≤ (m : Int)) = nearS m a b := by
  have hs : strip x y = (x, y) := strip_stop (by rcases h with h | h; exact .inl h; exact .inr (.inl h))
  have he : strip a b = (x, y) := hP.symm.trans hs
  cases m <;> · unfold nearS; simp only [he, h, if_true]; rw [Bool.eq_iff_iff]; simp only [decide_eq_true_eq]; omega
theorem nearS_zero {m : Nat} {a b x y : Bs} (hm : m = 0) (hP : strip x y = strip a b) (hx : x ≠ []) (hy : y ≠ []) (hne : ((x[0]?).getD 0) ≠ ((y[0]?).getD 0)) : nearS m a b = false := by
  subst hm
  have he : strip a b = (x, y) := hP.symm.trans (strip_stop (.inr (.inr hne)))
  unfold nearS; simp only [he]; rw [if_neg (by simp [hx, hy])]
theorem nearS_rec {m : Nat} {a b x y : Bs} (hm : m ≠ 0) (hP : strip x y = strip a b) (hx : x ≠ []) (hy : y ≠ []) (hne : ((x[0]?).getD 0) ≠ ((y[0]?).getD 0)) :
    nearS m a b = (nearS (m - 1) (x.drop 1) y || nearS (m - 1) x (y.drop 1) || nearS (m - 1) (x.drop 1) (y.drop 1)) := by
  obtain ⟨k, rfl⟩ : ∃ k, m = k + 1 := ⟨m - 1, by omega⟩
  have he : strip a b = (x, y) := hP.symm.trans (strip_stop (.inr (.inr hne)))
  conv => lhs; unfold nearS
  simp only [he]; rw [if_neg (by simp [hx, hy])]; rfl

/-! ### The laws' own helpers -/
def great (l : List Bs) : Bool := decide (40 < l.length) || l.any fun s => decide (20 < s.length)
def fine (l : List Bs) : Bool := !great l && decide (checkList l = 0)
theorem great_f {l : List Bs} (h : great l = false) : l.length ≤ 40 ∧ ∀ s ∈ l, s.length ≤ 20 := by
  unfold great at h
  simp only [Bool.or_eq_false_iff, decide_eq_false_iff_not, List.any_eq_false, decide_eq_true_eq] at h
  exact ⟨by omega, fun s hs => by have := h.2 s hs; omega⟩
theorem small_great {l : List Bs} (h : great l = false) : Small l := ⟨by have := (great_f h).1; omega, fun s hs => by have := (great_f h).2 s hs; omega⟩
theorem great_n {l : List Bs} (h : 40 < l.length) : great l = true := by unfold great; simp [h]
theorem great_at {l : List Bs} {k : Nat} (hk : k < l.length) (h : 20 < l[k].length) : great l = true := by
  unfold great; rw [Bool.or_eq_true]; right; rw [List.any_eq_true]; exact ⟨_, List.getElem_mem hk, by simpa using h⟩
theorem great_no {l : List Bs} (h : ¬ 40 < l.length) (h2 : ∀ s ∈ l, ¬ 20 < s.length) : great l = false := by
  unfold great; rw [Bool.or_eq_false_iff]; exact ⟨by simpa using h, by rw [List.any_eq_false]; intro s hs; simpa using h2 s hs⟩

/-! ### Lists joined -/
def twoErr (a b : List Bs) : Int := if checkList a ≠ 0 then checkList a else checkList b
def joinL (a b : List Bs) : List Bs := Lib.compact ((a ++ b).mergeSort fun x y => decide (x ≤ y))
def joinS (a b : List Bs) : List Bs × Int := if twoErr a b ≠ 0 then ([], twoErr a b) else if 30 < (joinL a b).length then ([], 6) else (joinL a b, 0)

/-- The names that are near to a word. -/
def nearL (l : List Bs) (w : Bs) (most : Int) : List Bs × Int :=
  if openErr l [w] ≠ 0 then ([], openErr l [w]) else if 0 ≤ most ∧ most ≤ 2 then (l.filter fun s => nearS most.toNat s w, 0) else ([], 3)
theorem filter_take {p : Bs → Bool} {l : List Bs} {k : Nat} (hk : k < l.length) : (l.take (k + 1)).filter p = (l.take k).filter p ++ (if p l[k] = true then [l[k]] else []) := by
  rw [take_snoc hk, List.filter_append]; congr 1; simp [List.filter_cons]
end Go.Ix
