/-
  A part of the proofs of the laws of the index: what the functions of this program compute. Conditions: none beyond those that its theorems name.
-/
import Derived.Test.YtmfgiabmmdbmoaaGreatDoorGwIx2
/-
  THE INDEX, IN PLAIN LEAN (3): which words are the first ones; what the least automaton reads.
-/
namespace Go.Ix
open Go.Gw Go.Sort Go.Proofs

/-! ### Lists of words, strictly rising -/
theorem ltT {a b c : Bs} (h1 : a < b) (h2 : b < c) : a < c := List.lt_trans h1 h2
theorem ltI (a : Bs) : ¬ a < a := List.lt_irrefl a
theorem ltA {a b : Bs} (h1 : a < b) : ¬ b < a := List.lt_asymm h1
theorem ltE {a b : Bs} (h1 : ¬ a < b) (h2 : ¬ b < a) : a = b := List.le_antisymm (List.not_lt.1 h2) (List.not_lt.1 h1)
theorem lt_cons {a b : UInt8} {x y : Bs} : a :: x < b :: y ↔ a < b ∨ a = b ∧ x < y := List.cons_lt_cons_iff
theorem lt_app (w : Bs) {a b : Bs} : w ++ a < w ++ b ↔ a < b := by
  induction w with
  | nil => rfl
  | cons c w ih =>
    rw [List.cons_append, List.cons_append, lt_cons, ih]
    constructor
    · rintro (h | ⟨_, h⟩)
      · exact absurd h (by simp)
      · exact h
    · exact fun h => .inr ⟨rfl, h⟩
theorem sorted_nodup {l : List Bs} (h : l.Pairwise (· < ·)) : l.Nodup := h.imp (fun {a b} hab e => by subst e; exact ltI a hab)
theorem sorted_ext {a b : List Bs} (ha : a.Pairwise (· < ·)) (hb : b.Pairwise (· < ·)) (h : ∀ x, x ∈ a ↔ x ∈ b) : a = b :=
  List.Perm.eq_of_pairwise (le := (· < ·)) (fun _ _ _ _ h1 h2 => absurd h2 (ltA h1)) ha hb ((List.perm_ext_iff_of_nodup (sorted_nodup ha) (sorted_nodup hb)).2 h)
theorem inc_sorted : ∀ {l : List Bs}, inc l = true → l.Pairwise (· < ·)
  | [], _ => List.Pairwise.nil
  | [a], _ => List.pairwise_singleton _ _
  | a :: b :: r, h => by
    simp only [inc, Bool.and_eq_true, lt_dec, decide_eq_true_eq] at h
    have ih := inc_sorted h.2
    refine List.Pairwise.cons (fun x hx => ?_) ih
    rcases List.mem_cons.1 hx with rfl | hx
    · exact h.1
    · exact ltT h.1 ((List.pairwise_cons.1 ih).1 x hx)
theorem sorted_inc : ∀ {l : List Bs}, l.Pairwise (· < ·) → inc l = true
  | [], _ => rfl
  | [a], _ => rfl
  | a :: b :: r, h => by
    simp only [inc, Bool.and_eq_true, lt_dec, decide_eq_true_eq]
    have h' := List.pairwise_cons.1 h
    exact ⟨h'.1 b (by simp), sorted_inc h'.2⟩

/-! ### A valid list -/
structure Ok (l : List Bs) : Prop where
  few : l.length ≤ 30
  short : ∀ s ∈ l, s.length ≤ 10
  ne : ∀ s ∈ l, s ≠ []
  let' : ∀ s ∈ l, letters s = true
  sorted : l.Pairwise (· < ·)
theorem ok_of {l : List Bs} (h : checkList l = 0) : Ok l := by
  obtain ⟨h1, h2, h3⟩ := chk_ok h
  exact ⟨h1, fun s hs => (h2 s hs).1, fun s hs => (h2 s hs).2.1, fun s hs => (h2 s hs).2.2, inc_sorted h3⟩
theorem of_ok {l : List Bs} (h : Ok l) : checkList l = 0 := by
  refine chk0 (by have := h.few; omega) (fun s hs => by have := h.short s hs; omega) (fun s hs => ?_) ((inc_iff l).1 (sorted_inc h.sorted))
  unfold badName
  simp [h.ne s hs, h.let' s hs]
theorem Ok.small {l : List Bs} (h : Ok l) : Small2 l := small2_ok (of_ok h)

/-! ### Forms tell endings -/
theorem no_semi {s : Bs} (h : letters s = true) : (59 : UInt8) ∉ s := fun hm => by
  have := List.all_eq_true.1 h 59 hm
  simp [lett] at this
theorem app_sep {X Y : Bs} : ∀ {s t : Bs}, (59 : UInt8) ∉ s → (59 : UInt8) ∉ t → s ++ 59 :: X = t ++ 59 :: Y → s = t ∧ X = Y
  | [], [], _, _, h => by simpa using h
  | [], b :: t, _, ht, h => by simp at h; exact absurd h.1 (fun e => ht (by simp [e]))
  | a :: s, [], hs, _, h => by simp at h; exact absurd h.1 (fun e => hs (by simp [e]))
  | a :: s, b :: t, hs, ht, h => by
    simp only [List.cons_append, List.cons.injEq] at h
    obtain ⟨h1, h2⟩ := app_sep (s := s) (t := t) (fun hm => hs (by simp [hm])) (fun hm => ht (by simp [hm])) h.2
    exact ⟨by rw [h.1, h1], h2⟩
theorem semi_inj : ∀ {a b : List Bs}, (∀ s ∈ a, letters s = true) → (∀ s ∈ b, letters s = true) → semi a = semi b → a = b
  | [], [], _, _, _ => rfl
  | [], t :: b, _, _, h => by simp [semi] at h
  | s :: a, [], _, _, h => by simp [semi] at h
  | s :: a, t :: b, ha, hb, h => by
    have h' : s ++ 59 :: semi a = t ++ 59 :: semi b := by simpa [semi] using h
    obtain ⟨h1, h2⟩ := app_sep (no_semi (ha s (by simp))) (no_semi (hb t (by simp))) h'
    rw [h1, semi_inj (fun x hx => ha x (by simp [hx])) (fun x hx => hb x (by simp [hx])) h2]
theorem letters_app {a b : Bs} : letters (a ++ b) = (letters a && letters b) := by simp [letters]
theorem ending_letters {l : List Bs} (h : ∀ s ∈ l, letters s = true) {w e : Bs} (he : e ∈ endings l w) : letters e = true := by
  have := h _ (mem_endings.1 he)
  rw [letters_app, Bool.and_eq_true] at this
  exact this.2
theorem form_endings {l l' : List Bs} (h : ∀ s ∈ l, letters s = true) (h' : ∀ s ∈ l', letters s = true) {w w' : Bs} : form l w = form l' w' ↔ endings l w = endings l' w' :=
  ⟨fun e => semi_inj (fun _ hx => ending_letters h hx) (fun _ hx => ending_letters h' hx) e, fun e => by unfold form; rw [e]⟩
theorem form_nil {l : List Bs} {w : Bs} : form l w = [] ↔ endings l w = [] := by
  unfold form
  cases h : endings l w with
  | nil => simp [semi]
  | cons e r => simp [semi]
theorem mem_word {l : List Bs} {w : Bs} : w ∈ l ↔ [] ∈ endings l w := by rw [mem_endings, List.append_nil]
theorem formP_endings {l : List Bs} (h : ∀ s ∈ l, letters s = true) {w w' : Bs} : formP l w = formP l w' ↔ endings l w = endings l w' := by
  unfold formP
  rw [Prod.mk.injEq, form_endings h h]
  refine ⟨fun e => e.2, fun e => ⟨?_, e⟩⟩
  rw [Bool.eq_iff_iff, decide_eq_true_eq, decide_eq_true_eq, mem_word (l := l) (w := w), mem_word (l := l) (w := w'), e]

/-! ### What is kept -/
theorem getW_mem {a : Key} {v : Bs} : ∀ {M : List (Key × Bs)}, getW a M = some v → (a, v) ∈ M
  | [], h => by simp [getW] at h
  | (b, u) :: M, h => by
    simp only [getW] at h
    split at h
    · rename_i e; cases h; subst e; simp
    · exact List.mem_cons_of_mem _ (getW_mem h)
theorem mem_delW {a : Key} {p : Key × Bs} : ∀ {M : List (Key × Bs)}, p ∈ M → p.1 ≠ a → p ∈ delW a M
  | [], h, _ => by cases h
  | (b, u) :: M, h, hn => by
    simp only [delW]
    rcases List.mem_cons.1 h with rfl | h
    · rw [if_neg (fun e => hn (by simp [e]))]; simp
    · split
      · exact h
      · exact List.mem_cons_of_mem _ (mem_delW h hn)
theorem delW_ne {a : Key} {M : List (Key × Bs)} (hn : (M.map (·.1)).Nodup) {p : Key × Bs} (hp : p ∈ delW a M) : p.1 ≠ a := fun e => by
  have := getW_none.1 (getW_del (a := a) hn)
  exact this (List.mem_map.2 ⟨p, hp, e⟩)
structure KInv (l : List Bs) (T : List Bs) (M : List (Key × Bs)) : Prop where
  nd : (M.map (·.1)).Nodup
  is : ∀ p ∈ M, p.1 = formP l p.2 ∧ p.2 ∈ T ∧ ∀ w ∈ T, formP l w = p.1 → ¬ w < p.2
  all : ∀ w ∈ T, ∃ p ∈ M, p.1 = formP l w
theorem KInv.step {l T : List Bs} {M : List (Key × Bs)} (h : KInv l T M) (w : Bs) : KInv l (T ++ [w]) (keepW l M w) := by
  have hnd : ((keepW l M w).map (·.1)).Nodup := by
    unfold keepW
    split
    · rw [List.map_append]
      refine List.nodup_append.2 ⟨List.Nodup.sublist ((delW_sub _ M).map _) h.nd, by simp, fun a ha b hb => ?_⟩
      simp only [List.map_cons, List.map_nil, List.mem_singleton] at hb
      subst hb
      intro e
      subst e
      exact getW_none.1 (getW_del h.nd) ha
    · exact h.nd
  refine ⟨hnd, ?_, ?_⟩
  · intro p hp
    unfold keepW at hp
    split at hp
    · rename_i hc
      rcases List.mem_append.1 hp with hp | hp
      · have hne := delW_ne h.nd hp
        obtain ⟨h1, h2, h3⟩ := h.is p ((delW_sub _ M).subset hp)
        refine ⟨h1, List.mem_append_left _ h2, fun w' hw' he => ?_⟩
        rcases List.mem_append.1 hw' with hw' | hw'
        · exact h3 w' hw' he
        · simp only [List.mem_singleton] at hw'; subst hw'; exact absurd he.symm hne
      · simp only [List.mem_singleton] at hp
        subst hp
        refine ⟨rfl, by simp, fun w' hw' he => ?_⟩
        rcases List.mem_append.1 hw' with hw' | hw'
        · simp only [Bool.or_eq_true, Bool.not_eq_true'] at hc
          cases hg : getW (formP l w) M with
          | none =>
            obtain ⟨q, hq, hq2⟩ := h.all w' hw'
            exact absurd (List.mem_map.2 ⟨q, hq, by rw [hq2, he]⟩) (getW_none.1 hg)
          | some v =>
            rw [hg] at hc
            simp only [Option.isSome_some, Bool.true_eq_false, Option.getD_some, false_or, lt_dec, decide_eq_true_eq] at hc
            have := (h.is _ (getW_mem hg)).2.2 w' hw' he
            exact fun hlt => this (ltT hlt hc)
        · simp only [List.mem_singleton] at hw'; subst hw'; exact ltI _
    · rename_i hc
      obtain ⟨h1, h2, h3⟩ := h.is p hp
      refine ⟨h1, List.mem_append_left _ h2, fun w' hw' he => ?_⟩
      rcases List.mem_append.1 hw' with hw' | hw'
      · exact h3 w' hw' he
      · simp only [List.mem_singleton] at hw'
        subst hw'
        simp only [Bool.or_eq_true, Bool.not_eq_true', not_or, Bool.not_eq_false] at hc
        cases hg : getW (formP l w') M with
        | none => rw [hg] at hc; simp at hc
        | some v =>
          rw [hg] at hc
          simp only [Option.getD_some, lt_dec, decide_eq_true_eq] at hc
          have hk := getW_mem hg
          -- the keys are nodup: p = (key, v)
          have : p.2 = v := by
            have key : ∀ {M : List (Key × Bs)}, (M.map (·.1)).Nodup → ∀ {p q : Key × Bs}, p ∈ M → q ∈ M → p.1 = q.1 → p = q := by
              intro M
              induction M with
              | nil => intro _ p q hp; cases hp
              | cons x M ih =>
                intro hnd p q hp hq e
                rw [List.map_cons, List.nodup_cons] at hnd
                rcases List.mem_cons.1 hp with h1 | hp <;> rcases List.mem_cons.1 hq with h2 | hq
                · rw [h1, h2]
                · exact absurd (List.mem_map.2 ⟨q, hq, by rw [← e, h1]⟩) hnd.1
                · exact absurd (List.mem_map.2 ⟨p, hp, by rw [e, h2]⟩) hnd.1
                · exact ih hnd.2 hp hq e
            rw [key h.nd hp hk he.symm]
          rw [this]; exact hc.2
  · intro w' hw'
    rcases List.mem_append.1 hw' with hw' | hw'
    · obtain ⟨q, hq, hq2⟩ := h.all w' hw'
      unfold keepW
      split
      · by_cases e : q.1 = formP l w
        · exact ⟨(formP l w, w), by simp, by rw [← hq2, e]⟩
        · exact ⟨q, List.mem_append_left _ (mem_delW hq e), hq2⟩
      · exact ⟨q, hq, hq2⟩
    · simp only [List.mem_singleton] at hw'
      subst hw'
      unfold keepW
      split
      · exact ⟨(formP l w', w'), by simp, rfl⟩
      · rename_i hc
        simp only [Bool.or_eq_true, Bool.not_eq_true', not_or, Bool.not_eq_false] at hc
        obtain ⟨v, hv⟩ := Option.isSome_iff_exists.1 hc.1
        exact ⟨_, getW_mem hv, rfl⟩
theorem KInv.fold {l : List Bs} : ∀ (ws T : List Bs) (M : List (Key × Bs)), KInv l T M → KInv l (T ++ ws) (ws.foldl (keepW l) M)
  | [], T, M, h => by simpa using h
  | w :: ws, T, M, h => by
    have := KInv.fold ws (T ++ [w]) (keepW l M w) (h.step w)
    simpa using this
theorem keepAll_inv (l : List Bs) : KInv l (allW l) (keepAll l) := by
  have h0 : KInv l [] [] := ⟨List.nodup_nil, by simp, by simp⟩
  have := KInv.fold (l := l) (allW l) [] [] h0
  rwa [List.nil_append] at this

/-! ### The first words -/
theorem firsts_perm (l : List Bs) : (firsts l).Perm ((keepAll l).map (·.2)) := srt_perm _ _
theorem mem_firsts {l : List Bs} {v : Bs} : v ∈ firsts l ↔ v ∈ allW l ∧ ∀ w ∈ allW l, formP l w = formP l v → ¬ w < v := by
  have hI := keepAll_inv l
  rw [(firsts_perm l).mem_iff]
  constructor
  · intro h
    obtain ⟨p, hp, rfl⟩ := List.mem_map.1 h
    obtain ⟨h1, h2, h3⟩ := hI.is p hp
    exact ⟨h2, fun w hw he => h3 w hw (he.trans h1.symm)⟩
  · rintro ⟨h1, h2⟩
    obtain ⟨p, hp, hp2⟩ := hI.all v h1
    obtain ⟨h3, h4, h5⟩ := hI.is p hp
    have : p.2 = v := ltE (h2 p.2 h4 (h3.symm.trans hp2)) (h5 v h1 hp2.symm)
    exact List.mem_map.2 ⟨p, hp, this⟩
theorem firsts_nodup (l : List Bs) : (firsts l).Nodup := by
  rw [(firsts_perm l).nodup_iff]
  have hI := keepAll_inv l
  have h1 : ((keepAll l).map (·.1)) = ((keepAll l).map (·.2)).map (formP l) := by
    rw [List.map_map]
    exact List.map_congr_left fun p hp => (hI.is p hp).1
  have h2 := hI.nd
  rw [h1] at h2
  rw [List.Nodup, List.pairwise_map] at h2
  exact h2.imp (fun {a b} hab e => hab (by rw [e]))
theorem firsts_inj {l : List Bs} {v v' : Bs} (h : v ∈ firsts l) (h' : v' ∈ firsts l) (e : formP l v = formP l v') : v = v' :=
  ltE ((mem_firsts.1 h').2 v (mem_firsts.1 h).1 e) ((mem_firsts.1 h).2 v' (mem_firsts.1 h').1 e.symm)
theorem first_of {l : List Bs} {w : Bs} (h : w ∈ allW l) : ∃ v ∈ firsts l, formP l v = formP l w ∧ ¬ w < v := by
  have hI := keepAll_inv l
  obtain ⟨p, hp, hp2⟩ := hI.all w h
  obtain ⟨h3, h4, h5⟩ := hI.is p hp
  exact ⟨p.2, (firsts_perm l).mem_iff.2 (List.mem_map.2 ⟨p, hp, rfl⟩), h3.symm.trans hp2, h5 w h hp2.symm⟩
theorem firsts_sorted (l : List Bs) : (firsts l).Pairwise fun x y => longest l y < longest l x ∨ (longest l x = longest l y ∧ x < y) := by
  have h1 := srt_sorted (rank l) ((keepAll l).map (·.2))
  have h2 : (firsts l).Pairwise (· ≠ ·) := firsts_nodup l
  have h3 := h1.and h2
  refine List.Pairwise.imp (fun {x y} h => ?_) h3
  obtain ⟨h1, h2⟩ := h
  rw [ltOf_cfF] at h1
  rw [Bool.not_eq_true', decide_eq_false_iff_not] at h1
  simp only [not_or, not_and, rank] at h1
  rcases Nat.lt_trichotomy (longest l y) (longest l x) with h | h | h
  · exact .inl h
  · exact .inr ⟨h.symm, Classical.byContradiction fun hn => h2 (ltE hn (h1.2 (by omega)))⟩
  · exact absurd (by omega) h1.1
theorem mem_prefixesOf {s : Bs} {j : Nat} {w : Bs} (hj : j ≤ s.length) : w ∈ prefixesOf s j ↔ w ≠ [] ∧ w.length ≤ j ∧ w <+: s := by
  unfold prefixesOf
  simp only [List.mem_map, List.mem_range]
  constructor
  · rintro ⟨n, hn, rfl⟩
    refine ⟨?_, by simp; omega, List.take_prefix _ _⟩
    intro e
    have := congrArg List.length e
    rw [List.length_take, List.length_nil] at this
    omega
  · rintro ⟨h1, h2, h3⟩
    have := List.length_pos_iff.2 h1
    exact ⟨w.length - 1, by omega, by rw [show w.length - 1 + 1 = w.length by omega]; exact (List.prefix_iff_eq_take.1 h3).symm⟩
theorem mem_allW {l : List Bs} {w : Bs} : w ∈ allW l ↔ w = [] ∨ endings l w ≠ [] := by
  unfold allW
  rw [List.mem_cons, List.mem_flatMap]
  by_cases hw : w = []
  · simp [hw]
  · simp only [hw, false_or]
    constructor
    · rintro ⟨s, hs, h⟩
      obtain ⟨_, _, e, rfl⟩ := (mem_prefixesOf (Nat.le_refl _)).1 h
      intro hn
      have : e ∈ endings l w := mem_endings.2 hs
      rw [hn] at this; cases this
    · intro hn
      obtain ⟨e, he⟩ := List.exists_mem_of_ne_nil _ hn
      have := mem_endings.1 he
      exact ⟨w ++ e, this, (mem_prefixesOf (Nat.le_refl _)).2 ⟨hw, by simp, e, rfl⟩⟩

/-! ### How long endings are -/
theorem le_longOf {L : List Bs} {e : Bs} (h : e ∈ L) : e.length ≤ longOf L := by
  unfold longOf
  have key : ∀ (L : List Bs) (n : Nat), n ≤ L.foldl (fun n e => max n e.length) n ∧ ∀ e ∈ L, e.length ≤ L.foldl (fun n e => max n e.length) n := by
    intro L
    induction L with
    | nil => intro n; exact ⟨Nat.le_refl _, fun e h => by cases h⟩
    | cons x L ih =>
      intro n
      obtain ⟨h1, h2⟩ := ih (max n x.length)
      refine ⟨Nat.le_trans (Nat.le_max_left _ _) h1, fun e he => ?_⟩
      rcases List.mem_cons.1 he with rfl | he
      · exact Nat.le_trans (Nat.le_max_right _ _) h1
      · exact h2 e he
  exact (key L 0).2 e h
theorem longOf_is {L : List Bs} (h : L ≠ []) : ∃ e ∈ L, e.length = longOf L := by
  unfold longOf
  have key : ∀ (L : List Bs) (n : Nat), L.foldl (fun n e => max n e.length) n = n ∨ ∃ e ∈ L, e.length = L.foldl (fun n e => max n e.length) n := by
    intro L
    induction L with
    | nil => intro n; exact .inl rfl
    | cons x L ih =>
      intro n
      rcases ih (max n x.length) with h | ⟨e, he, h⟩
      · simp only [List.foldl_cons]
        rw [h]
        rcases Nat.le_total n x.length with h2 | h2
        · exact .inr ⟨x, by simp, by omega⟩
        · exact .inl (by omega)
      · exact .inr ⟨e, by simp [he], h⟩
  rcases key L 0 with h0 | h0
  · obtain ⟨e, he⟩ := List.exists_mem_of_ne_nil _ h
    have := le_longOf he
    unfold longOf at this
    exact ⟨e, he, by omega⟩
  · exact h0
theorem longest_cons {l : List Bs} {w : Bs} {c : UInt8} (h : endings l (w ++ [c]) ≠ []) : longest l (w ++ [c]) < longest l w := by
  obtain ⟨e, he, hl⟩ := longOf_is h
  have : c :: e ∈ endings l w := by
    rw [mem_endings] at he ⊢
    simpa using he
  have h2 := le_longOf this
  unfold longest
  rw [← hl]
  simp at h2
  omega
theorem longest_lt {l : List Bs} (hne : ∀ s ∈ l, s ≠ []) (hl : l ≠ []) {w : Bs} (hw : w ≠ []) : longest l w < longest l [] := by
  have hpos : 0 < longest l [] := by
    obtain ⟨s, hs⟩ := List.exists_mem_of_ne_nil _ hl
    have : s ∈ endings l [] := mem_endings.2 hs
    have h2 := le_longOf this
    have h3 := List.length_pos_iff.2 (hne s hs)
    unfold longest; omega
  by_cases hn : endings l w = []
  · unfold longest at *; rw [hn]; exact hpos
  · obtain ⟨e, he, h2⟩ := longOf_is hn
    have h3 : w ++ e ∈ endings l [] := mem_endings.2 (by rw [List.nil_append]; exact mem_endings.1 he)
    have h4 := le_longOf h3
    have h5 := List.length_pos_iff.2 hw
    unfold longest
    simp at h4; omega
theorem nil_mem_firsts {l : List Bs} : [] ∈ firsts l := mem_firsts.2 ⟨by simp [allW], fun w _ _ => List.not_lt_nil w⟩
theorem firsts_head {l : List Bs} (hne : ∀ s ∈ l, s ≠ []) : ∃ r, firsts l = [] :: r := by
  cases h : firsts l with
  | nil => have := nil_mem_firsts (l := l); rw [h] at this; cases this
  | cons v r =>
    refine ⟨r, ?_⟩
    have h1 := firsts_sorted l
    rw [h] at h1
    have h2 := List.pairwise_cons.1 h1
    have h3 := nil_mem_firsts (l := l)
    rw [h] at h3
    rcases List.mem_cons.1 h3 with h3 | h3
    · rw [← h3]
    · rcases h2.1 [] h3 with h4 | ⟨_, h4⟩
      · by_cases hl : l = []
        · subst hl
          have hv : v ∈ firsts ([] : List Bs) := by rw [h]; simp
          have := (mem_firsts.1 hv).1
          simp [allW] at this
          rw [this]
        · by_cases hv : v = []
          · rw [hv]
          · have := longest_lt hne hl hv
            omega
      · exact absurd h4 (List.not_lt_nil v)
theorem firsts_empty : firsts [] = [[]] := by
  have h1 : ∀ v ∈ firsts ([] : List Bs), v = [] := fun v hv => by have := (mem_firsts.1 hv).1; simpa [allW] using this
  obtain ⟨r, hr⟩ := firsts_head (l := []) (fun s hs => by cases hs)
  have h2 := firsts_nodup ([] : List Bs)
  rw [hr] at h1 h2 ⊢
  cases r with
  | nil => rfl
  | cons v r =>
    have := h1 v (by simp)
    subst this
    simp at h2

/-! ### The automaton -/
def outs (l : List Bs) (w : Bs) : Bs := alpha.filter fun c => decide (form l (w ++ [c]) ≠ [])
def ixOf (l : List Bs) (f : Bs) : Int := ix (fun v => decide (form l v = f)) (firsts l)
def stOf (l : List Bs) (w : Bs) : St := { ends := if w ∈ l then 1 else 0, letters := outs l w, next := (outs l w).map fun c => ixOf l (form l (w ++ [c])) }
/-- The least automaton, as the program says. -/
def statesL (l : List Bs) : List St := (firsts l).map (stOf l)

theorem endings_sorted {l : List Bs} (h : l.Pairwise (· < ·)) (w : Bs) : (endings l w).Pairwise (· < ·) := by
  unfold endings
  rw [List.pairwise_flatMap]
  refine ⟨fun s _ => by unfold ends1; split <;> simp, h.imp fun {s t} hst x hx y hy => ?_⟩
  unfold ends1 at hx hy
  split at hx
  · split at hy
    · rename_i h1 h2
      simp only [List.mem_singleton] at hx hy
      obtain ⟨a, rfl⟩ := List.isPrefixOf_iff_prefix.1 h1
      obtain ⟨b, rfl⟩ := List.isPrefixOf_iff_prefix.1 h2
      simp at hx hy
      subst hx hy
      exact (lt_app w).1 hst
    · cases hy
  · cases hx
theorem alpha_sorted : alpha.Pairwise (· < ·) := by decide
theorem mem_alpha {c : UInt8} : c ∈ alpha ↔ lett c = true := by rw [← alpha_lett, List.contains_iff_mem]
theorem mem_outs {l : List Bs} {w : Bs} {c : UInt8} : c ∈ outs l w ↔ lett c = true ∧ endings l (w ++ [c]) ≠ [] := by
  unfold outs
  rw [List.mem_filter, mem_alpha, decide_eq_true_eq, Ne, form_nil]
theorem outs_sorted (l : List Bs) (w : Bs) : (outs l w).Pairwise (· < ·) := alpha_sorted.filter _
/-- The endings, letter by letter. -/
theorem endings_outs {l : List Bs} (hs : l.Pairwise (· < ·)) (hl : ∀ s ∈ l, letters s = true) (w : Bs) :
    endings l w = (if w ∈ l then [[]] else []) ++ (outs l w).flatMap fun c => (endings l (w ++ [c])).map (c :: ·) := by
  refine sorted_ext (endings_sorted hs w) ?_ ?_
  · rw [List.pairwise_append]
    refine ⟨by split <;> simp, ?_, ?_⟩
    · rw [List.pairwise_flatMap]
      refine ⟨fun c _ => (endings_sorted hs _).map _ (fun a b hab => lt_cons.2 (.inr ⟨rfl, hab⟩)), (outs_sorted l w).imp fun {c d} hcd x hx y hy => ?_⟩
      obtain ⟨a, _, rfl⟩ := List.mem_map.1 hx
      obtain ⟨b, _, rfl⟩ := List.mem_map.1 hy
      exact lt_cons.2 (.inl hcd)
    · intro a ha b hb
      split at ha
      · simp only [List.mem_singleton] at ha
        subst ha
        obtain ⟨c, _, hb⟩ := List.mem_flatMap.1 hb
        obtain ⟨e, _, rfl⟩ := List.mem_map.1 hb
        exact List.nil_lt_cons _ _
      · cases ha
  · intro e
    rw [List.mem_append, List.mem_flatMap]
    cases e with
    | nil =>
      rw [← mem_word]
      constructor
      · intro h; left; rw [if_pos h]; simp
      · rintro (h | ⟨c, _, h⟩)
        · split at h
          · assumption
          · cases h
        · obtain ⟨_, _, he⟩ := List.mem_map.1 h; cases he
    | cons c e =>
      constructor
      · intro h
        right
        have h1 : e ∈ endings l (w ++ [c]) := by rw [mem_endings] at h ⊢; simpa using h
        refine ⟨c, mem_outs.2 ⟨?_, fun hn => by rw [hn] at h1; cases h1⟩, List.mem_map.2 ⟨e, h1, rfl⟩⟩
        have := ending_letters hl h
        simp [letters] at this
        exact this.1
      · rintro (h | ⟨d, _, h⟩)
        · split at h
          · simp at h
          · cases h
        · obtain ⟨e', he, h2⟩ := List.mem_map.1 h
          simp only [List.cons.injEq] at h2
          obtain ⟨rfl, rfl⟩ := h2
          rw [mem_endings] at he ⊢
          simpa using he
/-- Where a letter leads: a later state, with those endings. -/
theorem ix_next {l : List Bs} (hl : ∀ s ∈ l, letters s = true) {i : Nat} (hi : i < (firsts l).length) {c : UInt8} (hc : c ∈ outs l (firsts l)[i]) :
    ∃ j, ixOf l (form l ((firsts l)[i] ++ [c])) = ((j : Nat) : Int) ∧ i < j ∧ ∃ hj : j < (firsts l).length, endings l (firsts l)[j] = endings l ((firsts l)[i] ++ [c]) := by
  have hc' := (mem_outs.1 hc).2
  have hall : (firsts l)[i] ++ [c] ∈ allW l := mem_allW.2 (.inr hc')
  obtain ⟨v, hv, hf, _⟩ := first_of hall
  have hlt : (firsts l).findIdx (fun v => decide (form l v = form l ((firsts l)[i] ++ [c]))) < (firsts l).length := by
    rw [List.findIdx_lt_length]
    exact ⟨v, hv, by simpa using (Prod.mk.inj hf).2⟩
  have hp := List.findIdx_getElem (w := hlt)
  rw [decide_eq_true_eq] at hp
  have he := (form_endings hl hl).1 hp
  refine ⟨_, by unfold ixOf ix; rw [if_pos hlt], ?_, hlt, he⟩
  have hlong : longest l (firsts l)[(firsts l).findIdx (fun v => decide (form l v = form l ((firsts l)[i] ++ [c])))] < longest l (firsts l)[i] := by
    have := longest_cons hc'
    unfold longest at this ⊢
    rw [he]; exact this
  rcases Nat.lt_trichotomy i ((firsts l).findIdx (fun v => decide (form l v = form l ((firsts l)[i] ++ [c])))) with h | h | h
  · exact h
  · have e : (firsts l)[(firsts l).findIdx (fun v => decide (form l v = form l ((firsts l)[i] ++ [c])))] = (firsts l)[i] := by congr 1; exact h.symm
    rw [e] at hlong; omega
  · have := List.pairwise_iff_getElem.1 (firsts_sorted l) _ _ hlt hi h
    omega
/-- All words that a state reads, in order. -/
def wordsAt (s : List St) : Nat → Nat → List Bs
  | 0, _ => []
  | f + 1, k => match s[k]? with
    | none => []
    | some x => (if x.ends = 1 then [[]] else []) ++ (x.letters.zip x.next).flatMap fun p => (wordsAt s f p.2.toNat).map (p.1 :: ·)
theorem words_states {l : List Bs} (hs : l.Pairwise (· < ·)) (hl : ∀ s ∈ l, letters s = true) : ∀ (f i : Nat) (hi : i < (firsts l).length), (firsts l).length ≤ f + i → wordsAt (statesL l) f i = endings l (firsts l)[i]
  | 0, i, hi, hf => by omega
  | f + 1, i, hi, hf => by
    have hget : (statesL l)[i]? = some (stOf l (firsts l)[i]) := by unfold statesL; simp [hi]
    simp only [wordsAt, hget]
    rw [endings_outs hs hl (firsts l)[i]]
    congr 1
    · by_cases h : (firsts l)[i] ∈ l <;> simp [stOf, h]
    · simp only [stOf]
      have key : ∀ (cs : Bs), (∀ c ∈ cs, c ∈ outs l (firsts l)[i]) → (cs.zip (cs.map fun c => ixOf l (form l ((firsts l)[i] ++ [c])))).flatMap (fun p => (wordsAt (statesL l) f p.2.toNat).map (p.1 :: ·)) = cs.flatMap fun c => (endings l ((firsts l)[i] ++ [c])).map (c :: ·) := by
        intro cs
        induction cs with
        | nil => intro _; rfl
        | cons c cs ih =>
          intro h
          simp only [List.map_cons, List.zip_cons_cons, List.flatMap_cons]
          rw [ih (fun d hd => h d (by simp [hd]))]
          obtain ⟨j, h1, h2, hj, h3⟩ := ix_next hl hi (h c (by simp))
          rw [h1, Int.toNat_natCast, words_states hs hl f j hj (by omega), h3]
      exact key _ (fun _ h => h)
theorem words_root {l : List Bs} (h : Ok l) : wordsAt (statesL l) (statesL l).length 0 = l := by
  obtain ⟨r, hr⟩ := firsts_head h.ne
  have hlen : (statesL l).length = (firsts l).length := by simp [statesL]
  have h0 : 0 < (firsts l).length := by rw [hr]; simp
  rw [hlen, words_states h.sorted h.let' _ 0 h0 (by omega)]
  have e : (firsts l)[0] = [] := by simp [hr]
  rw [e]
  refine sorted_ext (endings_sorted h.sorted _) h.sorted (fun x => by rw [mem_endings]; rfl)
end Go.Ix

/-
  THE INDEX, IN PLAIN LEAN (4): valid automata; what they read.
-/
namespace Go.Ix
open Go.Gw Go.Sort Go.Proofs

structure GoodS (s : List St) : Prop where
  lo : 1 ≤ s.length
  hi : s.length ≤ 301
  ends : ∀ x ∈ s, x.ends = 0 ∨ x.ends = 1
  len : ∀ x ∈ s, x.letters.length = x.next.length
  lets : ∀ x ∈ s, letters x.letters = true
  ris : ∀ x ∈ s, rising x.letters = true
  next : ∀ i (hi : i < s.length), ∀ n ∈ s[i].next, (i : Int) < n ∧ n < s.length
/-- What a state reads. -/
def words (s : List St) (i : Nat) : List Bs := wordsAt s s.length i
def partW (s : List St) (x : St) (k : Nat) : List Bs := (if x.ends = 1 then [[]] else []) ++ ((x.letters.zip x.next).take k).flatMap fun p => (words s p.2.toNat).map (p.1 :: ·)

theorem wordsAt_fuel {s : List St} (g : GoodS s) : ∀ (f f' i : Nat), s.length ≤ f + i → s.length ≤ f' + i → wordsAt s f i = wordsAt s f' i := by
  have hnone : ∀ (f i : Nat), s.length ≤ i → wordsAt s f i = [] := by
    intro f i hi
    cases f with
    | zero => rfl
    | succ f => simp only [wordsAt, List.getElem?_eq_none hi]
  intro f
  induction f with
  | zero => intro f' i h1 _; rw [hnone f' i (by omega)]; rfl
  | succ f ih =>
    intro f' i h1 h2
    cases f' with
    | zero => rw [hnone _ i (by omega)]; rfl
    | succ f' =>
      rcases Nat.lt_or_ge i s.length with hi | hi
      · simp only [wordsAt, List.getElem?_eq_getElem hi]
        congr 1
        have key : ∀ (L : List (UInt8 × Int)), (∀ p ∈ L, p.2 ∈ s[i].next) → L.flatMap (fun p => (wordsAt s f p.2.toNat).map (p.1 :: ·)) = L.flatMap fun p => (wordsAt s f' p.2.toNat).map (p.1 :: ·) := by
          intro L
          induction L with
          | nil => intro _; rfl
          | cons p L ihL =>
            intro hp
            have hn := g.next i hi p.2 (hp p (by simp))
            simp only [List.flatMap_cons]
            rw [ihL (fun q hq => hp q (by simp [hq])), ih f' p.2.toNat (by omega) (by omega)]
        exact key _ (fun p hp => (List.of_mem_zip hp).2)
      · rw [hnone _ i hi, hnone _ i hi]
theorem words_part {s : List St} (g : GoodS s) {i : Nat} (hi : i < s.length) : words s i = partW s s[i] s[i].next.length := by
  unfold words partW
  obtain ⟨f, hf⟩ : ∃ f, s.length = f + 1 := ⟨s.length - 1, by omega⟩
  conv => lhs; rw [hf]
  simp only [wordsAt, List.getElem?_eq_getElem hi]
  congr 1
  rw [List.take_of_length_le (by rw [List.length_zip]; omega)]
  have key : ∀ (L : List (UInt8 × Int)), (∀ p ∈ L, p.2 ∈ s[i].next) → L.flatMap (fun p => (wordsAt s f p.2.toNat).map (p.1 :: ·)) = L.flatMap fun p => (words s p.2.toNat).map (p.1 :: ·) := by
    intro L
    induction L with
    | nil => intro _; rfl
    | cons p L ihL =>
      intro hp
      have hn := g.next i hi p.2 (hp p (by simp))
      simp only [List.flatMap_cons]
      rw [ihL (fun q hq => hp q (by simp [hq]))]
      unfold words
      rw [wordsAt_fuel g f s.length p.2.toNat (by omega) (by omega)]
  exact key _ (fun p hp => (List.of_mem_zip hp).2)
theorem partW_zero (s : List St) (x : St) : partW s x 0 = if x.ends = 1 then [[]] else [] := by simp [partW]
theorem partW_succ {s : List St} {x : St} (hx : x.letters.length = x.next.length) {k : Nat} (hk : k < x.next.length) (hk' : k < x.letters.length) : partW s x (k + 1) = partW s x k ++ (words s x.next[k].toNat).map (x.letters[k] :: ·) := by
  unfold partW
  rw [take_snoc (by rw [List.length_zip]; omega), List.flatMap_append, List.append_assoc]
  simp
theorem partW_le {s : List St} {x : St} (hx : x.letters.length = x.next.length) {k : Nat} (hk : k ≤ x.next.length) : (partW s x k).length ≤ (partW s x x.next.length).length := by
  have key : ∀ m, k + m ≤ x.next.length → (partW s x k).length ≤ (partW s x (k + m)).length := by
    intro m
    induction m with
    | zero => intro _; exact Nat.le_refl _
    | succ m ih =>
      intro h
      have := ih (by omega)
      rw [show k + (m + 1) = k + m + 1 by omega, partW_succ hx (by omega) (by omega), List.length_append]
      omega
  have := key (x.next.length - k) (by omega)
  rwa [show k + (x.next.length - k) = x.next.length by omega] at this
theorem partW_mem {s : List St} {x : St} (hx : x.letters.length = x.next.length) {k : Nat} (hk : k < x.next.length) (hk' : k < x.letters.length) {u : Bs} (hu : u ∈ words s x.next[k].toNat) : x.letters[k] :: u ∈ partW s x x.next.length := by
  unfold partW
  rw [List.mem_append, List.mem_flatMap]
  right
  refine ⟨(x.letters[k], x.next[k]), ?_, List.mem_map.2 ⟨u, hu, rfl⟩⟩
  rw [List.take_of_length_le (by rw [List.length_zip]; omega)]
  have : (x.letters.zip x.next)[k]'(by rw [List.length_zip]; omega) = (x.letters[k], x.next[k]) := List.getElem_zip
  rw [← this]
  exact List.getElem_mem _

/-! ### Rows that are filled from behind -/
def rowG (F : Nat → Int) (n j : Nat) (v : Int) : List Int := (List.range n).map fun i => if i + 1 < j then 0 else if i + 1 = j then v else F i
theorem rowG_len (F : Nat → Int) (n j : Nat) (v : Int) : (rowG F n j v).length = n := by simp [rowG]
theorem rowG_get {F : Nat → Int} {n j : Nat} {v : Int} {i : Nat} (hi : i < n) : (rowG F n j v)[i]? = some (if i + 1 < j then 0 else if i + 1 = j then v else F i) := by
  unfold rowG; rw [List.getElem?_map, List.getElem?_range hi]; rfl
theorem rowG_init (F : Nat → Int) (n : Nat) : List.replicate n (0 : Int) = rowG F n n 0 := by
  apply List.ext_getElem?
  intro i
  rcases Nat.lt_or_ge i n with h | h
  · rw [rowG_get h, List.getElem?_replicate, if_pos h]
    congr 1
    split
    · rfl
    · rw [if_pos (by omega)]
  · rw [List.getElem?_eq_none (by simpa using h), List.getElem?_eq_none (by rw [rowG_len]; exact h)]
theorem rowG_set {F : Nat → Int} {n j : Nat} {v w : Int} (hj : j < n) : (rowG F n (j + 1) v).set j w = rowG F n (j + 1) w := by
  apply List.ext_getElem?
  intro i
  rw [List.getElem?_set]
  rcases Nat.lt_or_ge i n with h | h
  · rw [rowG_get h, rowG_get h, rowG_len]
    by_cases e : j = i
    · subst e; simp [hj]
    · rw [if_neg e]
      by_cases e2 : i + 1 < j + 1
      · rw [if_pos e2, if_pos e2]
      · rw [if_neg e2, if_neg e2, if_neg (by omega), if_neg (by omega)]
  · rw [if_neg (by omega), List.getElem?_eq_none (by rw [rowG_len]; exact h), List.getElem?_eq_none (by rw [rowG_len]; exact h)]
theorem rowG_step {F : Nat → Int} {n j : Nat} : rowG F n (j + 1) (F j) = rowG F n j 0 := by
  unfold rowG
  refine List.map_congr_left fun i _ => ?_
  by_cases h1 : i + 1 < j
  · rw [if_pos (by omega), if_pos h1]
  · rw [if_neg h1]
    by_cases h2 : i + 1 = j
    · rw [if_pos (by omega), if_pos h2]
    · rw [if_neg h2]
      by_cases h3 : i = j
      · subst h3; rw [if_neg (by omega), if_pos rfl]
      · rw [if_neg (by omega), if_neg (by omega)]

/-! ### Which states are live; how many words, how long -/
def liveB (L : List Bs) : Int := if L = [] then 0 else 1
def cntB (L : List Bs) : Int := min 31 (L.length : Int)
def longI (L : List Bs) : Int := if L = [] then -1 else (longOf L : Int)
theorem liveB_app {A B : List Bs} {c : UInt8} : liveB (A ++ B.map (c :: ·)) = max (liveB A) (liveB B) := by
  unfold liveB
  cases A with
  | nil => cases B <;> simp <;> decide
  | cons a A => cases B <;> simp <;> decide
theorem cntB_app {A B : List Bs} {c : UInt8} : cntB (A ++ B.map (c :: ·)) = min 31 (cntB A + cntB B) := by
  unfold cntB
  simp only [List.length_append, List.length_map]
  omega
theorem longOf_app (A B : List Bs) : longOf (A ++ B) = max (longOf A) (longOf B) := by
  have h1 : longOf (A ++ B) ≤ max (longOf A) (longOf B) := by
    by_cases hn : A ++ B = []
    · rw [hn]; exact Nat.zero_le _
    · obtain ⟨e, he, hl⟩ := longOf_is hn
      rcases List.mem_append.1 he with he | he
      · have := le_longOf he; omega
      · have := le_longOf he; omega
  have h2 : ∀ C : List Bs, (∀ e ∈ C, e ∈ A ++ B) → longOf C ≤ longOf (A ++ B) := by
    intro C hC
    by_cases hn : C = []
    · rw [hn]; exact Nat.zero_le _
    · obtain ⟨e, he, hl⟩ := longOf_is hn
      have := le_longOf (hC e he); omega
  have h3 := h2 A (fun e he => List.mem_append_left _ he)
  have h4 := h2 B (fun e he => List.mem_append_right _ he)
  omega
theorem longOf_map (c : UInt8) {B : List Bs} (hB : B ≠ []) : longOf (B.map (c :: ·)) = longOf B + 1 := by
  have hn : B.map (c :: ·) ≠ [] := by simpa using hB
  obtain ⟨e, he, hl⟩ := longOf_is hn
  obtain ⟨u, hu, rfl⟩ := List.mem_map.1 he
  obtain ⟨v, hv, hl2⟩ := longOf_is hB
  have h1 := le_longOf hu
  have h2 := le_longOf (List.mem_map.2 ⟨v, hv, rfl⟩ : c :: v ∈ B.map (c :: ·))
  simp only [List.length_cons] at hl h2
  omega
theorem longI_app {A B : List Bs} {c : UInt8} : longI (A ++ B.map (c :: ·)) = if 0 ≤ longI B then max (longI A) (1 + longI B) else longI A := by
  by_cases hB : B = []
  · subst hB; simp [longI]
  · have h1 : A ++ B.map (c :: ·) ≠ [] := by simp [hB]
    have h2 := longOf_map c hB
    have h3 : longI B = (longOf B : Int) := by unfold longI; rw [if_neg hB]
    rw [h3, if_pos (by omega)]
    unfold longI
    rw [if_neg h1, longOf_app, h2]
    split
    · rename_i hA; subst hA; simp [longOf]; omega
    · omega
theorem longI_ge (L : List Bs) : -1 ≤ longI L := by unfold longI; split <;> omega
theorem longI_le {L : List Bs} {n : Nat} (h : ∀ e ∈ L, e.length ≤ n) : longI L ≤ n := by
  unfold longI
  split
  · omega
  · rename_i hn
    obtain ⟨e, he, hl⟩ := longOf_is hn
    have := h e he
    omega

/-! ### The least automaton of a valid list -/
theorem prefixesOf_len (s : Bs) (j : Nat) : (prefixesOf s j).length = j := by simp [prefixesOf]
theorem allW_len301 {l : List Bs} (h : Ok l) : (allW l).length ≤ 301 := by
  unfold allW
  rw [List.length_cons]
  have key : ∀ (l : List Bs), (∀ s ∈ l, s.length ≤ 10) → (l.flatMap fun s => prefixesOf s s.length).length ≤ l.length * 10 := by
    intro l
    induction l with
    | nil => intro _; simp
    | cons s l ih =>
      intro h
      have h1 := h s (by simp)
      have h2 := ih (fun t ht => h t (by simp [ht]))
      simp only [List.flatMap_cons, List.length_append, prefixesOf_len, List.length_cons]
      omega
  have h1 := key l h.short
  have h2 := h.few
  omega
theorem firsts_301 {l : List Bs} (h : Ok l) : (firsts l).length ≤ 301 := by
  rw [(firsts_perm l).length_eq, List.length_map]
  exact Nat.le_trans (kp_count l (allW l)) (allW_len301 h)
theorem good_states {l : List Bs} (h : Ok l) : GoodS (statesL l) := by
  have hlen : (statesL l).length = (firsts l).length := by simp [statesL]
  refine ⟨?_, by rw [hlen]; exact firsts_301 h, ?_, ?_, ?_, ?_, ?_⟩
  · rw [hlen]; obtain ⟨r, hr⟩ := firsts_head h.ne; rw [hr]; simp
  · intro x hx
    obtain ⟨w, _, rfl⟩ := List.mem_map.1 hx
    simp only [stOf]; split <;> simp
  · intro x hx
    obtain ⟨w, _, rfl⟩ := List.mem_map.1 hx
    simp [stOf]
  · intro x hx
    obtain ⟨w, _, rfl⟩ := List.mem_map.1 hx
    simp only [stOf, letters, List.all_eq_true]
    exact fun c hc => (mem_outs.1 hc).1
  · intro x hx
    obtain ⟨w, _, rfl⟩ := List.mem_map.1 hx
    refine rising_t (fun i hi => ?_)
    have := List.pairwise_iff_getElem.1 (outs_sorted l w) i (i + 1) (by simp only [stOf] at hi; omega) hi (by omega)
    exact UInt8.lt_iff_toNat_lt.1 this
  · intro i hi n hn
    have hi' : i < (firsts l).length := by rw [← hlen]; exact hi
    have e : (statesL l)[i] = stOf l (firsts l)[i] := by simp [statesL]
    rw [e] at hn
    simp only [stOf, List.mem_map] at hn
    obtain ⟨c, hc, rfl⟩ := hn
    obtain ⟨j, h1, h2, h3, _⟩ := ix_next h.let' hi' hc
    rw [h1, hlen]
    omega
structure Reads (s : List St) (l : List Bs) : Prop where
  good : GoodS s
  ok : Ok l
  is : words s 0 = l
theorem reads_states {l : List Bs} (h : Ok l) : Reads (statesL l) l := ⟨good_states h, h, words_root h⟩
end Go.Ix
