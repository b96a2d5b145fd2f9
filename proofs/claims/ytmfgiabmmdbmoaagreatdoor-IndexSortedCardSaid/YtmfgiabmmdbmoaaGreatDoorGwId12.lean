/-
  A part of the proofs of the laws of the index: what the functions of this program compute. Conditions: none beyond those that its theorems name.
-/
import Derived.Test.YtmfgiabmmdbmoaaGreatDoorGwId7
import Derived.Test.YtmfgiabmmdbmoaaGreatDoorGw9
import Derived.Test.YtmfgiabmmdbmoaaGreatDoorGwIx3
namespace Go.Proofs.YtmfgiabmmdbmoaaGreatDoor
open Go.Gw Go.Ix Go.Sort

theorem find_take {p : Bs → Bool} {l : List Bs} (h : l.findIdx p < l.length) : l.take (l.findIdx p) = (l.take (l.findIdx p + 1)).filter fun s => !p s := by
  rw [take_snoc h, List.filter_append, List.filter_eq_self.2]
  · have := List.findIdx_getElem (w := h)
    simp [this]
  · intro s hs
    rw [List.mem_take_iff_getElem] at hs
    obtain ⟨j, hj, rfl⟩ := hs
    have := List.not_of_lt_findIdx (p := p) (xs := l) (i := j) (by omega)
    simpa using this
theorem filter_none {p : Bs → Bool} {l : List Bs} (h : ix p l = -1) : l.filter (fun s => !p s) = l := by
  rw [List.filter_eq_self]
  intro s hs
  have h2 := ix_ge p l
  rw [h] at h2
  have h3 : l.any p = false := by rw [← h2]; decide
  rw [List.any_eq_false] at h3
  simpa using h3 s hs
theorem ix_some {p : Bs → Bool} {l : List Bs} (h : ix p l ≠ -1) : l.findIdx p < l.length ∧ ix p l = ((l.findIdx p : Nat) : Int) := by
  unfold ix at h ⊢
  split at h
  · rename_i hlt; rw [if_pos hlt]; exact ⟨hlt, rfl⟩
  · exact absurd rfl h
theorem slA_own {g cap j : Nat} : slA (some ⟨g, 0, none⟩) cap j 1 = some ⟨g, if cap = j then 0 else j, none⟩ := by
  unfold slA
  by_cases h : cap = j
  · simp [h]
  · simp [h, add_head, scl]
theorem clear_patch {row : List Value} {z : Value} {j n cap : Nat} (h : cap = j → n ≤ j) : patch row (if cap = j then 0 else j) (List.replicate (n - j) z) = patch row j (List.replicate (n - j) z) := by
  by_cases e : cap = j
  · rw [if_pos e, show n - j = 0 by have := h e; omega]; simp [patch]
  · rw [if_neg e]
theorem below_mid {l : List Bs} {s : Bs} (hs : l.Pairwise (· < ·)) {m : Nat} (hm : m < l.length) (hc : lt l[m] s = true) {b : Nat} (hb : b < l.length) (hlt : b < m + 1) : l[b] < s := by
  rw [lt_dec, decide_eq_true_eq] at hc
  by_cases e : b = m
  · subst e; exact hc
  · exact ltT (List.pairwise_iff_getElem.1 hs b m hb hm (by omega)) hc
theorem above_mid {l : List Bs} {s : Bs} (hs : l.Pairwise (· < ·)) {m : Nat} (hm : m < l.length) (hc : lt l[m] s = false) {b : Nat} (hb : b < l.length) (hge : m ≤ b) : ¬ l[b] < s := by
  rw [lt_dec, decide_eq_false_iff_not] at hc
  by_cases e : b = m
  · subst e; exact hc
  · exact fun h => hc (ltT (List.pairwise_iff_getElem.1 hs m b hm hb (by omega)) h)
theorem not_mem_mid {l : List Bs} {s : Bs} (hs : l.Pairwise (· < ·)) {j : Nat} (h1 : ∀ a (ha : a < l.length), a < j → l[a] < s) (h2 : ∀ a (ha : a < l.length), j ≤ a → ¬ l[a] < s) (h3 : l.length ≤ j ∨ ∀ hj : j < l.length, l[j] ≠ s) : s ∉ l := by
  intro hm
  obtain ⟨i, hi, e⟩ := List.getElem_of_mem hm
  rcases Nat.lt_trichotomy i j with h | h | h
  · have := h1 i hi h; rw [e] at this; exact ltI _ this
  · subst h
    rcases h3 with h3 | h3
    · omega
    · exact h3 hi e
  · rcases h3 with h3 | h3
    · omega
    · have hj : j < l.length := by omega
      have := List.pairwise_iff_getElem.1 hs j i hj hi h
      rw [e] at this
      exact h2 j hj (Nat.le_refl _) this
theorem patch_map {cs ys : List Bs} {j : Nat} : patch (cs.map S) j (ys.map S) = (cs.take j ++ (ys ++ cs.drop (j + ys.length))).map S := by
  unfold patch; simp [List.map_take, List.map_drop]


def bothS (a b : List Bs) : List Bs × Int := if twoErr a b ≠ 0 then ([], twoErr a b) else (a.filter fun s => decide (s ∈ b), 0)
/-- slices.DeleteFunc[[]string,string] -/
theorem ok45 : FnOk Tryz.prog 45 := fnok Tryz.func45 (by kernel_rfl) rfl
set_option maxRecDepth 10000 in
theorem w45 {h : Hp} {B n : Nat} {v : Value} {l : List Bs} (own : Own B h 9 1 v n (l.map S)) (hB : B ≤ h.size) (hn : n ≤ 1000000) (fid : Nat) (cp : Array Value) (p : Bs → Bool) (hf : ∀ x ∈ l, ∀ h', Bel B h h' → CallsH Tryz.prog fid (#[] ++ #[S x] ++ cp) h' (fun v h'' => v = .bool (p x) ∧ Ext h' h'')) : CallsH Tryz.prog 45 #[v, .func (.func fid) #[] cp] h (fun r h' => Strs h' r (l.filter fun s => !p s) ∧ Bel B h h') := by
  have hlen : l.length = n := by have := own.1; simpa using this
  have hs0 := own.strs
  refine enter ok45 Tryz.func45 rfl Tryz.ntmps45 (by simp) (fun w0 => ?_)
  repeat refine x_seq ?_
  refine goes rfl trivial ?_
  repeat refine x_seq ?_
  refine x_reg ?_
  refine go 2 rfl trivial ?_
  refine ops_call rfl rfl rfl (w67 (by rw [List.length_map]; omega) hs0 fid cp (strP p) (fun x hx h' he => by obtain ⟨s, hs, rfl⟩ := List.mem_map.1 hx; exact hf s hs h' (he.mono hB))) ?_
  rintro _ h2 ⟨rfl, he2⟩
  rw [ix_str]
  refine go 1000 rfl trivial (ops_nil ?_)
  repeat refine x_seq ?_
  refine goes rfl trivial ?_
  repeat refine x_seq ?_
  refine x_ifd rfl (fun c1 => ?_) (fun c1 => ?_)
  · repeat refine x_seq ?_
    refine goes rfl trivial ?_
    repeat refine x_seq ?_
    exact x_ret (at_ret rfl rfl rfl rfl ⟨by rw [filter_none c1]; exact hs0.ext he2, he2.mono hB⟩ (.inl rfl))
  · rcases own.2 with ⟨rfl, hn0⟩ | ⟨g, cap, cur, rfl, hBg, hg, hnc, hcm, hcs, _⟩
    · exact absurd (by have : l = [] := List.eq_nil_of_length_eq_zero (by omega); subst this; rfl) c1
    obtain ⟨hi, hix⟩ := ix_some c1
    rw [hix]
    repeat refine x_seq ?_
    refine x_skip ?_
    repeat refine x_seq ?_
    refine goes rfl ⟨by first | omega | (simp only [inK]; omega), trivial⟩ ?_
    repeat refine x_seq ?_
    refine x_block ?_
    repeat refine x_seq ?_
    refine x_loop (fun x : Nat × Nat × List Bs => [(0, .slice (some ⟨g, 0, none⟩) n cap), (1, .func (.func fid) #[] cp), (5, I x.2.1), (6, I x.1)]) (fun x h' => (Bel B h h' ∧ Own B h' 9 1 (.slice (some ⟨g, 0, none⟩) n cap) n (x.2.2.map S)) ∧ (x.2.1 < x.1 ∧ x.1 ≤ n) ∧ x.2.2.length = n ∧ x.2.2.take x.2.1 = (l.take x.1).filter (fun s => !p s) ∧ x.2.2.drop x.1 = l.drop x.1) (fun x => n - x.1) (l.findIdx p + 1, l.findIdx p, l) ⟨rfl, rfl, rfl, rfl, trivial⟩ ⟨⟨he2.mono hB, own.ext he2⟩, (by show l.findIdx p < l.findIdx p + 1 ∧ l.findIdx p + 1 ≤ n; omega), ⟨hlen, find_take hi, rfl⟩⟩ ?_
    rintro ⟨k, j, cs⟩ h3 ⟨⟨hbel, hown⟩, hk, hcl, htk, hdr⟩ K1 hK1
    dsimp only at hown hk hcl htk hdr ⊢
    repeat refine x_seq ?_
    refine goes rfl trivial ?_
    repeat refine x_seq ?_
    refine x_ifd rfl (fun c2 => ?_) (fun c2 => ?_)
    · repeat refine x_seq ?_
      refine x_skip ?_
      repeat refine x_seq ?_
      refine x_block ?_
      repeat refine x_seq ?_
      have hlt : k < n := by omega
      have hck : cs[k] = l[k] := by have := congrArg (fun z => z[0]?) hdr; simpa [hcl, hlen, hlt] using this
      refine x_reg ?_
      refine go 3 rfl ⟨by first | omega | (simp only [inK]; omega), trivial⟩ ?_
      refine ops_load tabOk rfl rfl rfl rfl (show hcell h3 ((⟨g, 0, none⟩ : Addr).add (scl (k : Int).toNat 1)) = some (S cs[k]) from Own.cells hown rfl k _ (by simp [hcl, hlt])) ?_
      refine go 1000 rfl trivial (ops_nil ?_)
      repeat refine x_seq ?_
      refine x_reg ?_
      refine go 2 rfl trivial ?_
      refine ops_call rfl rfl rfl (hf cs[k] (by rw [hck]; exact List.getElem_mem (by omega)) h3 hbel) ?_
      rintro _ h4 ⟨rfl, he4⟩
      have hown4 := hown.ext he4
      refine go 1000 rfl trivial (ops_nil ?_)
      repeat refine x_seq ?_
      refine x_if rfl (fun c3 => ?_) (fun c3 => ?_)
      · obtain ⟨row, hrow, hrl, _, hrB, _, hput⟩ := hown4.row
        have h9p : p l[k] = false := by rw [← hck]; simpa using c3
        repeat refine x_seq ?_
        refine x_reg ?_
        refine go 4 rfl ⟨by first | omega | (simp only [inK]; omega), trivial⟩ ?_
        refine ops_storeA (b := g) (o := j) (vs := [S cs[k]]) tabOk rfl rfl (add_head _ _) rfl rfl rfl rfl hrow (by simp; omega) rfl ?_
        intro h9 hp9
        refine ops_nil ?_
        repeat refine x_seq ?_
        refine goes rfl ⟨by first | omega | (simp only [inK]; omega), trivial⟩ ?_
        refine x_out ?_
        repeat refine x_seq ?_
        refine goes rfl ⟨by first | omega | (simp only [inK]; omega), trivial⟩ ?_
        refine x_next (k + 1, j + 1, cs.set j cs[k]) ⟨rfl, rfl, rfl, rfl, trivial⟩ ⟨⟨(hbel.ext (by have := hbel.size; omega) he4).trans (hp9.bel hrB), by show Own B _ 9 1 _ n ((cs.set j cs[k]).map S); rw [List.map_set, ← patch_set (by simp; omega)]; exact hput j [S cs[k]] _ (by simp; omega) hp9⟩, (by first | (show j + 1 < k + 1 ∧ k + 1 ≤ n; omega) | (show j < k + 1 ∧ k + 1 ≤ n; omega)), ⟨by show (cs.set j cs[k]).length = n; simpa using hcl, by show (cs.set j cs[k]).take (j + 1) = (l.take (k + 1)).filter _; rw [take_snoc (show k < l.length by omega), List.filter_append, ← htk, take_snoc (by simp; omega), List.take_set_of_le (Nat.le_refl _)]; simp [h9p, hck], by show (cs.set j cs[k]).drop (k + 1) = l.drop (k + 1); rw [List.drop_set_of_lt (by omega)]; have := congrArg (List.drop 1) hdr; simpa [List.drop_drop, Nat.add_comm] using this⟩⟩ (by show n - (k + 1) < n - k; omega)
      · have h9p : p l[k] = true := by rw [← hck]; simpa using c3
        repeat refine x_seq ?_
        refine x_skip ?_
        refine x_out ?_
        repeat refine x_seq ?_
        refine goes rfl ⟨by first | omega | (simp only [inK]; omega), trivial⟩ ?_
        refine x_next (k + 1, j, cs) ⟨rfl, rfl, rfl, rfl, trivial⟩ ⟨⟨hbel.ext (by have := hbel.size; omega) he4, hown4⟩, (by first | (show j + 1 < k + 1 ∧ k + 1 ≤ n; omega) | (show j < k + 1 ∧ k + 1 ≤ n; omega)), ⟨hcl, by show cs.take j = (l.take (k + 1)).filter _; rw [take_snoc (show k < l.length by omega), List.filter_append, ← htk]; simp [h9p], by show cs.drop (k + 1) = l.drop (k + 1); have := congrArg (List.drop 1) hdr; simpa [List.drop_drop, Nat.add_comm] using this⟩⟩ (by show n - (k + 1) < n - k; omega)
    · repeat refine x_seq ?_
      refine x_exit_loop hK1 rfl rfl ?_
      obtain ⟨row, hrow, hrl, hrn, hrB, _, hput⟩ := hown.row
      repeat refine x_seq ?_
      refine x_reg ?_
      refine go 3 rfl ⟨by first | omega | (simp only [inK]; omega), trivial⟩ ?_
      refine ops_clear (g := g) (o := if cap = j then 0 else j) (cs' := patch row j (List.replicate (n - j) (S []))) (z := S []) tabOk rfl rfl rfl rfl rfl (by show some (Value.slice (slA (some ⟨g, 0, none⟩) cap (j : Int).toNat 1) (n - (j : Int).toNat) (cap - (j : Int).toNat)) = _; rw [slA_own]; rfl) hrow (by rw [hrl]; show (if cap = j then 0 else j) + (n - j) ≤ cap; split <;> omega) (clear_patch (by omega)) rfl ?_
      intro h9 hp9
      refine ops_nil ?_
      repeat refine x_seq ?_
      have hres := ((hput j (List.replicate (n - j) (S [])) _ (by simp; omega) hp9).cut (j := j) (by omega)).sl
      have hkl : k = l.length := by omega
      rw [show (patch (cs.map S) j (List.replicate (n - j) (S []))).take j = (l.filter fun s => !p s).map S from by unfold patch; rw [List.take_left' (by rw [List.length_take, List.length_map]; omega), ← List.map_take, htk, List.take_of_length_le (by omega)]] at hres
      refine goes rfl ⟨by first | omega | (simp only [inK]; omega), trivial⟩ ?_
      repeat refine x_seq ?_
      exact x_ret (at_ret rfl rfl rfl rfl ⟨hres, hbel.trans (hp9.bel hrB)⟩ (.inl rfl))

/-- slices.BinarySearch[[]string,string] -/
theorem ok54 : FnOk Tryz.prog 54 := fnok Tryz.func54 (by kernel_rfl) rfl
set_option maxRecDepth 10000 in
theorem w54 {h : Hp} {v : Value} {l : List Bs} (s : Bs) (hn : l.length ≤ 1000000) (hs : l.Pairwise (· < ·)) (hl : Strs h v l) : CallsH Tryz.prog 54 #[v, S s] h (fun r h' => ∃ i : Nat, r = .tuple #[I i, .bool (decide (s ∈ l))] ∧ (s ∈ l → l[i]? = some s) ∧ h' = h) := by
  obtain ⟨a, cap, rfl, hcap, hl⟩ := hl.op
  refine enter ok54 Tryz.func54 rfl Tryz.ntmps54 (by simp) (fun w0 => ?_)
  repeat refine x_seq ?_
  refine goes rfl trivial ?_
  repeat refine x_seq ?_
  refine goes rfl trivial ?_
  repeat refine x_seq ?_
  refine goes rfl trivial ?_
  repeat refine x_seq ?_
  refine x_block ?_
  repeat refine x_seq ?_
  refine x_loop (fun x : Nat × Nat => [(0, .slice a l.length cap), (1, S s), (6, I l.length), (7, I x.1), (8, I x.2)]) (fun x h' => (h = h') ∧ (x.1 ≤ x.2 ∧ x.2 ≤ l.length) ∧ (∀ a (ha : a < l.length), a < x.1 → l[a] < s) ∧ (∀ a (ha : a < l.length), x.2 ≤ a → ¬ l[a] < s)) (fun x => x.2 - x.1) (0, l.length) ⟨rfl, rfl, rfl, rfl, rfl, trivial⟩ ⟨rfl, (by show 0 ≤ l.length ∧ l.length ≤ l.length; omega), ⟨fun _ _ h => absurd h (Nat.not_lt_zero _), fun _ h1 h2 => absurd h1 (Nat.not_lt.2 h2)⟩⟩ ?_
  rintro ⟨i, j⟩ _ ⟨rfl, hk, hP1, hP2⟩ K1 hK1
  dsimp only at hk hP1 hP2 ⊢
  repeat refine x_seq ?_
  refine goes rfl trivial ?_
  repeat refine x_seq ?_
  refine x_ifd rfl (fun c1 => ?_) (fun c1 => ?_)
  · repeat refine x_seq ?_
    refine x_skip ?_
    repeat refine x_seq ?_
    refine x_block ?_
    repeat refine x_seq ?_
    refine goes rfl ⟨by first | omega | (simp only [inK]; omega) | decide | (have e : (2 : Int) ^ (1 : Int).toNat = 2 := rfl; simp only [inK, e]; omega), by first | omega | (simp only [inK]; omega) | decide | (have e : (2 : Int) ^ (1 : Int).toNat = 2 := rfl; simp only [inK, e]; omega), by first | omega | (simp only [inK]; omega) | decide | (have e : (2 : Int) ^ (1 : Int).toNat = 2 := rfl; simp only [inK, e]; omega), by first | omega | (simp only [inK]; omega) | decide | (have e : (2 : Int) ^ (1 : Int).toNat = 2 := rfl; simp only [inK, e]; omega), trivial⟩ ?_
    repeat refine x_seq ?_
    have hij : i < j := by omega
    have hm : (i + j) / 2 < l.length := by omega
    rw [show (((i : Int) + (j : Int)) / 2 ^ (1 : Int).toNat) = (((i + j) / 2 : Nat) : Int) from by rw [show (2 : Int) ^ (1 : Int).toNat = 2 from rfl]; omega]
    obtain ⟨p, rfl, hp⟩ := hl _ hm
    refine x_reg ?_
    refine go 3 rfl ⟨by first | omega | (simp only [inK]; omega) | decide | (have e : (2 : Int) ^ (1 : Int).toNat = 2 := rfl; simp only [inK, e]; omega), trivial⟩ ?_
    refine ops_load tabOk rfl rfl rfl rfl (by assumption) ?_
    refine go 1 rfl trivial ?_
    refine ops_call rfl rfl rfl (w80 l[(i + j) / 2] s) ?_
    rintro _ _ ⟨rfl, rfl⟩
    refine ops_nil ?_
    repeat refine x_seq ?_
    refine x_if rfl (fun c2 => ?_) (fun c2 => ?_)
    · repeat refine x_seq ?_
      refine goes rfl ⟨by first | omega | (simp only [inK]; omega) | decide | (have e : (2 : Int) ^ (1 : Int).toNat = 2 := rfl; simp only [inK, e]; omega), trivial⟩ ?_
      refine x_out ?_
      refine x_next ((i + j) / 2 + 1, j) ⟨rfl, rfl, rfl, rfl, rfl, trivial⟩ ⟨rfl, (by first | (show (i + j) / 2 + 1 ≤ j ∧ j ≤ l.length; omega) | (show i ≤ (i + j) / 2 ∧ (i + j) / 2 ≤ l.length; omega)), ⟨fun b hb hlt => below_mid hs hm c2 hb (show b < (i + j) / 2 + 1 from hlt), hP2⟩⟩ (by first | (show j - ((i + j) / 2 + 1) < j - i; omega) | (show (i + j) / 2 - i < j - i; omega))
    · repeat refine x_seq ?_
      refine goes rfl trivial ?_
      refine x_out ?_
      refine x_next (i, (i + j) / 2) ⟨rfl, rfl, rfl, rfl, rfl, trivial⟩ ⟨rfl, (by first | (show (i + j) / 2 + 1 ≤ j ∧ j ≤ l.length; omega) | (show i ≤ (i + j) / 2 ∧ (i + j) / 2 ≤ l.length; omega)), ⟨hP1, fun b hb hge => above_mid hs hm c2 hb (show (i + j) / 2 ≤ b from hge)⟩⟩ (by first | (show j - ((i + j) / 2 + 1) < j - i; omega) | (show (i + j) / 2 - i < j - i; omega))
  · repeat refine x_seq ?_
    refine x_exit_loop hK1 rfl rfl ?_
    repeat refine x_seq ?_
    have hij : j = i := by omega
    subst hij
    refine x_reg ?_
    refine go 5 rfl trivial ?_
    refine ops_dec 35 rfl (fun c3 => ?_) (fun c3 => ?_)
    · refine ops_guard_yes rfl rfl rfl ?_
      obtain ⟨p, rfl, hp⟩ := hl j (by omega)
      refine go 1 rfl trivial ?_
      refine go 2 rfl ⟨by first | omega | (simp only [inK]; omega) | decide | (have e : (2 : Int) ^ (1 : Int).toNat = 2 := rfl; simp only [inK, e]; omega), trivial⟩ ?_
      refine ops_guard_yes rfl rfl rfl ?_
      refine ops_load tabOk rfl rfl rfl rfl (by assumption) ?_
      refine go 3 rfl trivial ?_
      refine ops_dec 42 rfl (fun c4 => ?_) (fun c4 => ?_)
      · refine go 1000 rfl trivial (ops_nil ?_)
        repeat refine x_seq ?_
        exact x_ret (at_ret rfl rfl rfl rfl ⟨j, by rw [decide_eq_true (by have h9 : l[j] = s := c4; rw [← h9]; exact List.getElem_mem _)]; rfl, fun _ => by have h9 : l[j] = s := c4; simp [← h9], rfl⟩ (.inl rfl))
      · refine go 3 rfl ⟨by first | omega | (simp only [inK]; omega) | decide | (have e : (2 : Int) ^ (1 : Int).toNat = 2 := rfl; simp only [inK, e]; omega), trivial⟩ ?_
        refine ops_guard_yes rfl rfl rfl ?_
        refine ops_load tabOk rfl rfl rfl rfl (by assumption) ?_
        refine ops_guard_yes rfl rfl rfl ?_
        refine ops_call rfl rfl rfl (w81 _) ?_
        rintro _ _ ⟨rfl, rfl⟩
        refine go 1000 rfl trivial (ops_nil ?_)
        repeat refine x_seq ?_
        exact x_ret (at_ret rfl rfl rfl rfl ⟨j, by rw [decide_eq_false (not_mem_mid hs hP1 hP2 (.inr (fun _ => c4)))]; rfl, fun hm => absurd hm (not_mem_mid hs hP1 hP2 (.inr (fun _ => c4))), rfl⟩ (.inl rfl))
    · refine go 1000 rfl trivial (ops_nil ?_)
      repeat refine x_seq ?_
      exact x_ret (at_ret rfl rfl rfl rfl ⟨j, by rw [decide_eq_false (not_mem_mid hs hP1 hP2 (.inl (by omega)))]; rfl, fun hm => absurd hm (not_mem_mid hs hP1 hP2 (.inl (by omega))), rfl⟩ (.inl rfl))

/-- burin/index.Both -/
theorem ok18 : FnOk Tryz.prog 18 := fnok Tryz.func18 (by kernel_rfl) rfl
set_option maxRecDepth 10000 in
theorem w18 {h : Hp} {v v' : Value} {a b : List Bs} (hn : Small a) (hn' : Small b) (hl : Strs h v a) (hl' : Strs h v' b) : CallsH Tryz.prog 18 #[v, v'] h (fun r h' => ∃ rv, r = .tuple #[rv, I (bothS a b).2] ∧ Strs h' rv (bothS a b).1 ∧ Ext h h') := by
  have hn1 := hn.1
  have hn2 := hn'.1
  have hl0 := hl'
  obtain ⟨ab, cb, rfl, -, -⟩ := hl'.op
  refine enter ok18 Tryz.func18 rfl Tryz.ntmps18 (by simp) (fun w0 => ?_)
  repeat refine x_seq ?_
  refine x_reg ?_
  refine ops_box rfl rfl rfl ?_
  intro h1 hn1b
  refine go 1000 rfl trivial (ops_nil ?_)
  repeat refine x_seq ?_
  refine x_reg ?_
  refine go 1 rfl trivial ?_
  refine ops_load tabOk rfl rfl rfl rfl (show hcell h1 ⟨h.size, 0, none⟩ = some (.slice ab b.length cb) by rw [hcell_block hn1b.get]; rfl) ?_
  refine ops_call rfl rfl rfl (w39 hn hn' (hl.ext hn1b.ext) (hl'.ext hn1b.ext)) ?_
  rintro _ h2 ⟨rfl, he2⟩
  rw [show (if checkList a ≠ 0 then checkList a else checkList b) = twoErr a b from rfl]
  refine go 1000 rfl trivial (ops_nil ?_)
  repeat refine x_seq ?_
  refine goes rfl trivial ?_
  repeat refine x_seq ?_
  refine x_ifd rfl (fun c1 => ?_) (fun c1 => ?_)
  · repeat refine x_seq ?_
    refine goes rfl trivial ?_
    repeat refine x_seq ?_
    exact x_ret (at_ret rfl rfl rfl rfl ⟨_, by unfold bothS; rw [if_pos (by omega)]; rfl, by unfold bothS; rw [if_pos (by omega)]; exact Sl.nil _, hn1b.ext.trans he2⟩ (.inl rfl))
  · repeat refine x_seq ?_
    refine x_skip ?_
    repeat refine x_seq ?_
    refine goes rfl trivial ?_
    repeat refine x_seq ?_
    refine x_reg ?_
    refine go 1 rfl trivial ?_
    refine ops_call rfl rfl rfl (w40 hn.1 ((hl.ext hn1b.ext).ext he2)) ?_
    rintro vc h3 ⟨he3, ho3⟩
    refine go 1 rfl trivial ?_
    refine ops_call rfl rfl rfl (w45 ho3 he3.size (by omega) 43 #[.pointer (some ⟨h.size, 0, none⟩)] (fun s => !decide (s ∈ b)) (fun x _ h' hb' => CallsH.mono (w43 (b1 := h.size) x hn2 ((hl'.ext (hn1b.ext.trans he2)).bel (Bel.trans he3 hb') (Nat.le_refl _)) ((Bel.trans he3 hb').get (he2.get hn1b.get) (by have := he2.size; have := hn1b.size; omega))) (by rintro _ _ ⟨rfl, rfl⟩; exact ⟨rfl, Ext.refl _⟩))) ?_
    rintro vr h4 ⟨hs4, hb4⟩
    refine go 1000 rfl trivial (ops_nil ?_)
    repeat refine x_seq ?_
    exact x_ret (at_ret rfl rfl rfl rfl ⟨vr, by unfold bothS; rw [if_neg (by omega)]; rfl, by unfold bothS; rw [if_neg (by omega)]; simpa using hs4, (hn1b.ext.trans he2).trans (Bel.trans he3 hb4)⟩ (.inl rfl))

end Go.Proofs.YtmfgiabmmdbmoaaGreatDoor

namespace Go.Proofs.YtmfgiabmmdbmoaaGreatDoor
open Go.Gw Go.Ix Go.Sort

/-- The endings of one word that do not make the other one into a name. -/
def tells1 (l : List Bs) (a b : Bs) : List Bs := (endings l a).filter fun e => !decide (b ++ e ∈ l)
def lenF (s : Bs) : Int := s.length
def apartL (l : List Bs) (a b : Bs) : List Bs := srt lenF (tells1 l a b ++ tells1 l b a)
def outK (l : List Bs) (one two : Bs) : Nat → List Bs
  | 0 => []
  | 1 => tells1 l one two
  | _ => tells1 l one two ++ tells1 l two one

/-- While endings are gathered: in block h.size + 1 is a slice of its own; some blocks keep what they hold. -/
structure ApI (h : Hp) (fb : List Nat) (keep : List (Nat × Obj)) (xs : List Bs) (vo : Value) (h' : Hp) : Prop where
  ext : Ext h h'
  size : h.size + 2 ≤ h'.size
  cell : h'[h.size + 1]? = some (.cells ⟨[vo]⟩ 22 (0, 0))
  own : Own (h.size + 2) h' 9 1 vo xs.length (xs.map S)
  kept : ∀ p ∈ keep, h'[p.1]? = some p.2 ∧ p.1 ≠ h.size + 1 ∧ h.size ≤ p.1 ∧ vo.ownBlock ≠ some p.1
  off : ∀ b ∈ fb, b < h'.size ∧ vo.ownBlock ≠ some b
theorem ApI.to {h h1 h2 : Hp} {fb : List Nat} {keep : List (Nat × Obj)} {xs : List Bs} {vo : Value} (s : ApI h fb keep xs vo h1) (e : Ext h1 h2) : ApI h fb keep xs vo h2 :=
  ⟨s.ext.trans e, Nat.le_trans s.size e.size, e.get s.cell, s.own.ext e, fun p hp => by obtain ⟨a, b, c, d⟩ := s.kept p hp; exact ⟨e.get a, b, c, d⟩, fun b hb => ⟨Nat.lt_of_lt_of_le (s.off b hb).1 e.size, (s.off b hb).2⟩⟩
theorem ApI.add {h h1 h2 : Hp} {fb : List Nat} {keep : List (Nat × Obj)} {xs : List Bs} {vo : Value} (s : ApI h fb keep xs vo h1) (e : Ext h1 h2) {b : Nat} {o : Obj} (hb : h2[b]? = some o) (hge : h1.size ≤ b) : ApI h fb ((b, o) :: keep) xs vo h2 := by
  refine { s.to e with kept := fun p hp => ?_ }
  rcases List.mem_cons.1 hp with rfl | hp
  · have := s.size
    exact ⟨hb, by simp only; omega, by simp only; omega, fun e2 => by have := (s.own.lt _ e2).2; simp only at this; omega⟩
  · exact (s.to e).kept p hp
theorem ApI.ban {h h1 h2 : Hp} {fb : List Nat} {keep : List (Nat × Obj)} {xs : List Bs} {vo : Value} (s : ApI h fb keep xs vo h1) (e : Ext h1 h2) {b : Nat} (hge : h1.size ≤ b) (hlt : b < h2.size) : ApI h (b :: fb) keep xs vo h2 := by
  refine { s.to e with off := fun p hp => ?_ }
  rcases List.mem_cons.1 hp with rfl | hp
  · exact ⟨hlt, fun e2 => by have := (s.own.lt _ e2).2; omega⟩
  · exact (s.to e).off p hp
theorem ApI.less {h h1 : Hp} {fb fb' : List Nat} {keep keep' : List (Nat × Obj)} {xs : List Bs} {vo : Value} (s : ApI h fb keep xs vo h1) (hk : ∀ p ∈ keep', p ∈ keep) (hf : ∀ b ∈ fb', b ∈ fb) : ApI h fb' keep' xs vo h1 :=
  { s with kept := fun p hp => s.kept p (hk p hp), off := fun b hb => s.off b (hf b hb) }
theorem ApI.st {h h1 h2 : Hp} {fb : List Nat} {keep : List (Nat × Obj)} {xs : List Bs} {vo : Value} {L : Nat} (s : ApI h fb keep xs vo h1) (hL : L ∈ fb) (hge : h.size + 2 ≤ L) (hn : ∀ p ∈ keep, p.1 ≠ L) (hs : h2.size = h1.size) (hk : ∀ k, k ≠ L → h2[k]? = h1[k]?) : ApI h fb keep xs vo h2 :=
  ⟨⟨by rw [hs]; exact s.ext.size, fun k hk' => (hk k (by omega)).trans (s.ext.old k hk')⟩, by rw [hs]; exact s.size, (hk _ (by omega)).trans s.cell,
   s.own.gr (row := some L) ⟨by omega, fun k _ hne => hk k (fun e => hne (by rw [e]))⟩ (.inr (s.off L hL).2), fun p hp => by obtain ⟨a, b, c, d⟩ := s.kept p hp; exact ⟨(hk _ (hn p hp)).trans a, b, c, d⟩, fun b hb => by rw [hs]; exact s.off b hb⟩
theorem ApI.app {h h1 h2 h3 : Hp} {fb : List Nat} {keep : List (Nat × Obj)} {xs : List Bs} {vo v' : Value} {e : Bs} (s : ApI h fb keep xs vo h1) (ho : Own (h.size + 2) h2 9 1 v' (xs.length + 1) (xs.map S ++ [S e])) (hg : Gr h1 h2 vo.ownBlock) (hb : v'.ownBlock = vo.ownBlock ∨ v'.ownBlock = some h1.size)
    (hp : Put h2 h3 (h.size + 1) (.cells ⟨[v']⟩ 22 (0, 0))) : ApI h fb keep (xs ++ [e]) v' h3 := by
  have hB : Bel (h.size + 2) h1 h2 := s.own.bel hg s.size
  have h0 : Bel h.size h h3 := Bel.trans (Bel.trans s.ext (hB.mono (by omega))) (hp.bel (by omega))
  refine ⟨h0, by rw [hp.size]; exact Nat.le_trans s.size hg.size, hp.get, ?_, fun p hpk => ?_, fun b hbf => ?_⟩
  · have := ho.put hp (by omega)
    simpa using this
  · obtain ⟨a, b, c, d⟩ := s.kept p hpk
    refine ⟨hp.keep (hg.keep a (fun e => d e.symm)) b, b, c, ?_⟩
    rcases hb with hb | hb
    · rw [hb]; exact d
    · rw [hb]; intro e; have := lt_of_get a; simp only [Option.some.injEq] at e; omega
  · obtain ⟨a, d⟩ := s.off b hbf
    refine ⟨by rw [hp.size]; have := hg.size; omega, ?_⟩
    rcases hb with hb | hb
    · rw [hb]; exact d
    · rw [hb]; intro e; simp only [Option.some.injEq] at e; omega
theorem ApI.get {h h1 : Hp} {fb : List Nat} {keep : List (Nat × Obj)} {xs : List Bs} {vo : Value} (s : ApI h fb keep xs vo h1) {b : Nat} {o : Obj} (hm : (b, o) ∈ keep) : h1[b]? = some o := (s.kept _ hm).1

theorem tells_take {l : List Bs} {a b : Bs} {i : Nat} (hi : i < (endings l a).length) : ((endings l a).take (i + 1)).filter (fun e => !decide (b ++ e ∈ l)) = ((endings l a).take i).filter (fun e => !decide (b ++ e ∈ l)) ++ (if b ++ (endings l a)[i] ∈ l then [] else [(endings l a)[i]]) := by
  rw [filter_take hi]
  by_cases h : b ++ (endings l a)[i] ∈ l <;> simp [h]
theorem tells_len {l : List Bs} (a b : Bs) (i : Nat) : (((endings l a).take i).filter (fun e => !decide (b ++ e ∈ l))).length ≤ l.length := by
  have h1 := List.length_filter_le (fun e => !decide (b ++ e ∈ l)) ((endings l a).take i)
  have h2 := endings_length l a
  rw [List.length_take] at h1
  omega
theorem outK_len {l : List Bs} (a b : Bs) (k : Nat) : (outK l a b k).length ≤ 2 * l.length := by
  have h1 := tells_len (l := l) a b (endings l a).length
  have h2 := tells_len (l := l) b a (endings l b).length
  rw [List.take_length] at h1 h2
  match k with
  | 0 => simp [outK]
  | 1 => simp only [outK, tells1]; omega
  | k + 2 => simp only [outK, tells1, List.length_append]; omega


def tellR : List Bs → Bs × Int
  | [] => ([], 5)
  | e :: _ => (e, 0)
theorem tellR_pos {x : List Bs} (h : 0 < x.length) : tellR x = (x[0], 0) := by
  cases x with
  | nil => cases h
  | cons a r => rfl
def tellL (l : List Bs) (one two : Bs) : Bs × Int :=
  if openErr l [one, two] ≠ 0 then ([], openErr l [one, two]) else tellR (apartL l one two)

/-- (*burin/index.shelf).apart -/
theorem ok35 : FnOk Tryz.prog 35 := fnok Tryz.func35 (by kernel_rfl) rfl
set_option maxRecDepth 10000 in
theorem w35 {h : Hp} {bs : Nat} {vl : Value} {l : List Bs} (one two : Bs) (hn : Small2 l) (h1l : one.length ≤ 1000) (h2l : two.length ≤ 1000) (hl : Strs h vl l) (hs : Sh0 bs vl h) : CallsH Tryz.prog 35 #[.pointer (some ⟨bs, 0, none⟩), S one, S two] h (fun r h' => Strs h' r (apartL l one two) ∧ Ext h h') := by
  refine enter ok35 Tryz.func35 rfl Tryz.ntmps35 (by simp) (fun w0 => ?_)
  have hnl := hn.1
  repeat refine x_seq ?_
  refine x_reg ?_
  refine ops_box rfl rfl rfl ?_
  intro h1 hn1
  refine go 1000 rfl trivial (ops_nil ?_)
  repeat refine x_seq ?_
  refine x_reg ?_
  refine ops_alloc tabOk rfl rfl rfl ?_
  intro h2 hn2
  refine ops_nil ?_
  repeat refine x_seq ?_
  refine x_reg ?_
  refine go 6 rfl trivial ?_
  refine ops_buildSlice (cs := [S one, S two, S two, S one]) tabOk rfl rfl rfl rfl rfl rfl rfl rfl rfl ?_
  intro h3 hn3
  refine go 1000 rfl trivial (ops_nil ?_)
  have s1 := hn1.size
  have s2 := hn2.size
  have s3 := hn3.size
  rw [s2, s1]
  have hA0 : ApI h [] [] [] (.slice none 0 0) h2 := ⟨hn1.ext.trans hn2.ext, by omega, by rw [← s1]; exact hn2.get, Own.nil _ _ _ _, by simp, by simp⟩
  have hA : ApI h [] [(h.size + 2, .cells ⟨[S one, S two, S two, S one]⟩ 83 (0, 0)), (h.size, .cells ⟨[.pointer (some ⟨bs, 0, none⟩)]⟩ 57 (0, 0))] [] (.slice none 0 0) h3 := by
    refine ⟨hA0.ext.trans hn3.ext, by omega, hn3.ext.get hA0.cell, Own.nil _ _ _ _, fun p hp => ?_, by simp⟩
    rcases List.mem_cons.1 hp with rfl | hp
    · exact ⟨by have := hn3.get; rwa [s2, s1] at this, by simp, by simp, by simp [Value.ownBlock]⟩
    · rw [List.mem_singleton] at hp; subst hp
      exact ⟨(hn2.ext.trans hn3.ext).get hn1.get, by simp, by simp, by simp [Value.ownBlock]⟩
  repeat refine x_seq ?_
  refine x_block ?_
  repeat refine x_seq ?_
  refine x_loopD (C := ⟨Tryz.prog, _, _, _, _⟩) (ι := Nat × List Nat) (fun x => [(3, .pointer (some ⟨h.size, 0, none⟩)), (7, .pointer (some ⟨h.size + 1, 0, none⟩)), (17, .slice (some ⟨h.size + 2, 0, none⟩) 2 2), (18, I 2), (19, I x.1)]) (fun x => x.2.map Gw.mark)
    (fun x h' => x.1 ≤ 2 ∧ x.2.Nodup ∧ (∀ d ∈ x.2, h.size + 3 ≤ d) ∧ ∃ vo, ApI h [] (x.2.map (fun d => (d, .deferred (some []))) ++ [(h.size + 2, .cells ⟨[S one, S two, S two, S one]⟩ 83 (0, 0)), (h.size, .cells ⟨[.pointer (some ⟨bs, 0, none⟩)]⟩ 57 (0, 0))]) (outK l one two x.1) vo h') (fun x => 2 - x.1) (0, []) rfl ⟨rfl, rfl, rfl, rfl, rfl, trivial⟩ ⟨by simp, by simp, by simp, _, hA⟩ ?_
  rintro ⟨k, ds⟩ h4 ⟨hk, hnd, hds, vo, hI⟩ K1 hK1
  dsimp only at hk hnd hds hI ⊢
  repeat refine x_seq ?_
  refine goes rfl trivial ?_
  repeat refine x_seq ?_
  refine x_ifd rfl (fun c1 => ?_) (fun c1 => ?_)
  · repeat refine x_seq ?_
    refine x_skip ?_
    repeat refine x_seq ?_
    refine x_block ?_
    repeat refine x_seq ?_
    -- which pair
    obtain ⟨a, b, hab, hout, hla, hlb⟩ : ∃ a b, Cells h4 ((⟨h.size + 2, 0, none⟩ : Addr).add (scl (k : Int).toNat 2)) [S a, S b] ∧ outK l one two (k + 1) = outK l one two k ++ tells1 l a b ∧ a.length ≤ 1000 ∧ b.length ≤ 1000 := by
      have hb := hI.get (b := h.size + 2) (o := .cells ⟨[S one, S two, S two, S one]⟩ 83 (0, 0)) (by simp)
      rcases (show k = 0 ∨ k = 1 by omega) with rfl | rfl
      · exact ⟨one, two, fun j u hj => by rw [add_head, add_at, hcell_block hb]; (match j with | 0 => exact hj | 1 => exact hj | j + 2 => cases hj), by simp [outK], h1l, h2l⟩
      · exact ⟨two, one, fun j u hj => by rw [add_head, add_at, hcell_block hb]; (match j with | 0 => exact hj | 1 => exact hj | j + 2 => cases hj), by simp [outK], h2l, h1l⟩
    refine x_reg ?_
    refine go 1 rfl ⟨by first | omega | (simp only [inK]; omega), trivial⟩ ?_
    refine ops_loads (vs := [S a, S b]) tabOk rfl rfl rfl rfl rfl hab ?_
    refine ops_alloc tabOk rfl rfl rfl ?_
    intro h5 hn5
    refine ops_store (vs := [S a, S b]) (cs' := [S a, S b]) tabOk rfl rfl rfl rfl rfl rfl hn5.get (by simp) rfl ?_
    intro h6 hp6
    refine ops_nil ?_
    have s5 := hn5.size
    have s6 := hp6.size
    have e46 : Ext h4 h6 := Bel.trans hn5.ext (hp6.bel (Nat.le_refl _))
    have hI6 := hI.add e46 hp6.get (Nat.le_refl _)
    have hc3 : hcell h6 ⟨h.size, 0, none⟩ = some (.pointer (some ⟨bs, 0, none⟩)) := by rw [hcell_block (hI6.get (b := h.size) (o := .cells ⟨[.pointer (some ⟨bs, 0, none⟩)]⟩ 57 (0, 0)) (by simp))]; rfl
    have hs6 : Sh0 bs vl h6 := hs.ext hI6.ext
    have hp9 : hcell h6 ((⟨h4.size, 0, none⟩ : Addr).add 0) = some (S a) := by rw [add_head, hcell_block hp6.get]; rfl
    repeat refine x_seq ?_
    refine x_draw [(0, true), (1, true), (2, true), (3, true), (4, true), (5, true)] [6] (Ext _) mixed (by kernel_rfl) rfl rfl (Ext.refl _) ?_
    refine seq_load tabOk rfl rfl rfl rfl (fun _ e => e.cell hc3) ?_
    refine sgo 2 rfl trivial ?_
    refine seq_loads (vs := [vl]) tabOk rfl rfl rfl rfl rfl (fun _ e j u hj => e.cell (hs6.cells j u hj)) ?_
    refine sgo 1 rfl ⟨by first | omega | (simp only [inK]; omega), trivial⟩ ?_
    refine seq_load tabOk rfl rfl rfl rfl (fun _ e => e.cell hp9) ?_
    refine seq_tail ?_
    refine ops_call rfl rfl rfl (w57 a) ?_
    rintro _ h7 ⟨rfl, e7, s7, hb1, hb2⟩
    refine ops_nil ?_
    have hI7 := ((hI6.to e7).less (keep' := _) (fun p hp => hp) (fun b hb => hb))
    have hI7' : ApI h [] ((h6.size + 1, .cells ⟨[S a]⟩ 9 (0, 0)) :: (h6.size, .cells ⟨[vl]⟩ 70 (0, 0)) :: (h4.size, .cells ⟨[S a, S b]⟩ 83 (0, 0)) :: (ds.map (fun d => (d, .deferred (some []))) ++ [(h.size + 2, .cells ⟨[S one, S two, S two, S one]⟩ 83 (0, 0)), (h.size, .cells ⟨[.pointer (some ⟨bs, 0, none⟩)]⟩ 57 (0, 0))])) (outK l one two k) vo h7 := by
      have g1 := hI6.add e7 hb1 (Nat.le_refl _)
      have g2 := hI6.add e7 hb2 (Nat.le_succ _)
      refine { g1 with kept := fun p hp => ?_ }
      rcases List.mem_cons.1 hp with rfl | hp
      · exact g2.kept _ (by simp)
      · exact g1.kept p hp
    repeat refine x_seq ?_
    refine x_block ?_
    repeat refine x_seq ?_
    refine x_rangeFunc (C := ⟨Tryz.prog, _, _, _, _⟩) rfl rfl ok88 rfl (it88 (bn := h6.size) (bw := h6.size + 1) (vl := vl) (w := a) hn (by omega))
      (fun i h' => ∃ vi, ApI h [h7.size + 1, h7.size] ((h6.size + 1, .cells ⟨[S a]⟩ 9 (0, 0)) :: (h6.size, .cells ⟨[vl]⟩ 70 (0, 0)) :: (h4.size, .cells ⟨[S a, S b]⟩ 83 (0, 0)) :: (ds.map (fun d => (d, .deferred (some []))) ++ [(h.size + 2, .cells ⟨[S one, S two, S two, S one]⟩ 83 (0, 0)), (h.size, .cells ⟨[.pointer (some ⟨bs, 0, none⟩)]⟩ 57 (0, 0))])) (outK l one two k ++ ((endings l a).take i).filter (fun e => !decide (b ++ e ∈ l))) vi h')
      (fun x => [(10, x), (3, .pointer (some ⟨h.size, 0, none⟩)), (7, .pointer (some ⟨h.size + 1, 0, none⟩)), (9, .pointer (some ⟨h4.size, 0, none⟩))]) ?_ ?_ ?_ ?_ ?_ ?_
    · intro h' he hsz
      refine ⟨vo, ?_⟩
      have := ((hI7'.ban he (b := h7.size) (Nat.le_refl _) (by omega)))
      have g2 := ((hI7'.ban he (b := h7.size + 1) (Nat.le_succ _) (by omega)))
      refine { this with own := by simpa using this.own, off := fun b hb => ?_ }
      rcases List.mem_cons.1 hb with rfl | hb
      · exact g2.off _ (by simp)
      · exact this.off b hb
    · rintro i h' ⟨vi, hi⟩
      exact ⟨hi.get (by simp), hi.get (by simp), hl.ext hi.ext⟩
    · rintro i h' h'' ⟨vi, hi⟩ hsz hk'
      have hsz7 := hI7'.size
      refine ⟨vi, hi.st (L := h7.size + 1) (by simp) (by omega) (fun p hp => ?_) hsz hk'⟩
      have := lt_of_get (hI7'.kept p hp).1
      omega
    · intro x h' w0
      exact goes rfl trivial (x_end fun a w hA hw => ⟨rfl, hA.sub (subs_sub ⟨rfl, rfl, rfl, rfl, trivial⟩), hw⟩)
    · rintro i x h8 hx ⟨vi, hi⟩ hsz w0 K hK
      simp only [List.getElem?_map, Option.map_eq_some_iff] at hx
      obtain ⟨e, hx, rfl⟩ := hx
      have hlt : i < (endings l a).length := (List.getElem?_eq_some_iff.1 hx).1
      have hee : (endings l a)[i] = e := (List.getElem?_eq_some_iff.1 hx).2
      have hle : e.length ≤ 1000 := ending_len hn (w := a) (by rw [← hee]; exact List.getElem_mem hlt)
      have hdc : hcell h8 ⟨h.size, 0, none⟩ = some (.pointer (some ⟨bs, 0, none⟩)) := by rw [hcell_block (hi.get (b := h.size) (o := .cells ⟨[.pointer (some ⟨bs, 0, none⟩)]⟩ 57 (0, 0)) (by simp))]; rfl
      have hsv : Sh0 bs vl h8 := hs.ext hi.ext
      have hdp : hcell h8 ((⟨h4.size, 0, none⟩ : Addr).add 1) = some (S b) := by rw [add_head, hcell_block (hi.get (b := h4.size) (o := .cells ⟨[S a, S b]⟩ 83 (0, 0)) (by simp))]; rfl
      have hsz8 := hi.size
      have hsz7 := hI7'.size
      repeat refine x_seq ?_
      refine x_block ?_
      repeat refine x_seq ?_
      refine x_draw [(0, true), (1, true), (2, true), (3, true), (4, true), (5, true), (6, true), (7, true), (8, true), (9, false), (10, true)] [] (· = _) mixed (by kernel_rfl) rfl rfl rfl ?_
      refine seq_load tabOk rfl rfl rfl rfl (by rintro _ rfl; exact hdc) ?_
      refine sgo 3 rfl trivial ?_
      refine seq_load tabOk rfl rfl rfl rfl (by rintro _ rfl; exact hsv.cell) ?_
      refine sgo 1 rfl ⟨by first | omega | (simp only [inK]; omega), trivial⟩ ?_
      refine seq_load tabOk rfl rfl rfl rfl (by rintro _ rfl; exact hdp) ?_
      refine sgo 2 rfl ⟨by omega, trivial⟩ ?_
      refine seq_act (ops_call rfl rfl rfl (w44 (b ++ e) (by omega) (hl.ext hi.ext)) ?_)
      rintro _ h8' ⟨rfl, e8⟩
      obtain rfl := e8.symm
      refine ops_nil ⟨rfl, ?_⟩
      refine sgo 1 rfl trivial (seq_tail ?_)
      refine ops_nil ?_
      repeat refine x_seq ?_
      refine x_if rfl (fun c2 => ?_) (fun c2 => ?_)
      · repeat refine x_seq ?_
        refine x_reg ?_
        refine ops_load tabOk rfl rfl rfl rfl (show hcell h8 ⟨h.size + 1, 0, none⟩ = some vi by rw [hcell_block hi.cell]; rfl) ?_
        refine go 1 rfl trivial ?_
        refine ops_buildSlice (cs := [S e]) tabOk rfl rfl rfl rfl rfl rfl rfl rfl rfl ?_
        intro h9 hn9
        have hi9 := hi.to hn9.ext
        have hx1 := outK_len (l := l) one two k
        have hx2 := tells_len (l := l) a b i
        refine ops_append tabOk rfl rfl rfl rfl rfl rfl rfl rfl hi9.own (Sl.of_new hn9 rfl (Nat.le_refl _)).app rfl (by rw [List.length_append, List.length_singleton]; exact ⟨by omega, show _ * 16 ≤ _ by omega⟩) hi9.size rfl ?_
        intro v10 h10 ho10 hg10 hb10
        refine ops_store (vs := [v10]) (cs' := [v10]) tabOk rfl rfl rfl ho10.one.1 rfl (by simp [ho10.one.2]) (hg10.keep hi9.cell (fun e2 => by have := (hi9.own.lt _ e2.symm).1; omega)) (by simp) rfl ?_
        intro h11 hp11
        refine ops_nil ?_
        have hi11 := hi9.app (e := e) ho10 hg10 hb10 hp11
        refine x_out ?_
        have hs9 := hn9.size
        have hs10 := hg10.size
        have hs11 := hp11.size
        refine x_end (at_endQ (C := ⟨Tryz.prog, _, _, _, _⟩) (hK h11 ⟨v10, ?_⟩ (by omega) ?_ ?_))
        · rw [tells_take hlt, hee, if_neg (by simpa using c2), ← List.append_assoc]
          exact hi11
        · rw [hp11.other _ (by omega), hg10.other _ (by omega) (fun e2 => (hi9.off h7.size (by simp)).2 e2.symm), hn9.old _ (by omega)]
        · rw [hp11.other _ (by omega), hg10.other _ (by omega) (fun e2 => (hi9.off (h7.size + 1) (by simp)).2 e2.symm), hn9.old _ (by omega)]
      · repeat refine x_seq ?_
        refine x_skip ?_
        refine x_out ?_
        refine x_end (at_endQ (C := ⟨Tryz.prog, _, _, _, _⟩) (hK _ ⟨vi, ?_⟩ (Nat.le_refl _) rfl rfl))
        rw [tells_take hlt, hee, if_pos (by simpa using c2), List.append_nil]
        exact hi
    · rintro h8 ⟨vi, hi⟩ hD hs8
      rw [List.length_map, List.take_of_length_le (Nat.le_refl _)] at hi
      have hlt7 : ∀ d ∈ ds, d < h7.size := fun d hd => lt_of_get (hI7'.kept (d, .deferred (some [])) (by simp [hd])).1
      refine x_out ?_
      refine x_out ?_
      repeat refine x_seq ?_
      refine goes rfl ⟨by first | omega | (simp only [inK]; omega), trivial⟩ ?_
      have hsz7 := hI7'.size
      have hsz4 := hI.size
      have hh2 := lt_of_get (hI.get (b := h.size + 2) (o := .cells ⟨[S one, S two, S two, S one]⟩ 83 (0, 0)) (by simp))
      have es7 := e7.size
      refine x_nextD (k + 1, h7.size :: ds) rfl ⟨rfl, rfl, rfl, rfl, rfl, trivial⟩ ⟨by show k + 1 ≤ 2; omega, List.nodup_cons.2 ⟨fun hm => by have := hlt7 _ hm; omega, hnd⟩, fun d hd => ?_, vi, ?_⟩ (by show 2 - (k + 1) < 2 - k; omega)
      · rcases List.mem_cons.1 hd with rfl | hd
        · omega
        · exact hds d hd
      · show ApI h [] _ (outK l one two (k + 1)) vi h8
        rw [hout]
        refine { hi with off := by simp, kept := fun p hp => ?_ }
        rcases List.mem_cons.1 hp with rfl | hp
        · exact ⟨hD, by simp only; omega, by simp only; omega, (hi.off h7.size (by simp)).2⟩
        · exact hi.kept p (by simp only [List.mem_cons]; exact .inr (.inr (.inr hp)))
  · repeat refine x_seq ?_
    refine x_exit_loopD hK1 rfl rfl ?_
    have hk2 : k = 2 := by omega
    subst hk2
    have hol : ∀ s ∈ outK l one two 2, s.length ≤ 1000 := fun s hs => by
      simp only [outK, tells1, List.mem_append, List.mem_filter] at hs
      rcases hs with ⟨hs, _⟩ | ⟨hs, _⟩ <;> exact ending_len hn hs
    have hol2 := outK_len (l := l) one two 2
    repeat refine x_seq ?_
    refine x_reg ?_
    refine ops_load tabOk rfl rfl rfl rfl (show hcell h4 ⟨h.size + 1, 0, none⟩ = some vo by rw [hcell_block hI.cell]; rfl) ?_
    refine ops_call rfl rfl rfl (w58 (cb := #[]) (cfF lenF) hI.own (by omega) hI.size hol ok59 (swoF _) (totF _) (fun x y hlx hly h' _ => w59 x y (by omega) (by omega))) ?_
    rintro _ h5 ⟨rfl, ho5, hg5⟩
    refine ops_nil ?_
    have hc5 := hg5.keep hI.cell (fun e2 => by have := (hI.own.lt _ e2.symm).1; omega)
    repeat refine x_seq ?_
    refine x_reg ?_
    refine ops_load tabOk rfl rfl rfl rfl (show hcell h5 ⟨h.size + 1, 0, none⟩ = some vo by rw [hcell_block hc5]; rfl) ?_
    refine go 1000 rfl trivial (ops_nil ?_)
    repeat refine x_seq ?_
    have hb5 : Bel (h.size + 2) h4 h5 := hI.own.bel hg5 hI.size
    refine x_ret (at_ret_marks ds rfl hnd (fun d hd => ?_) rfl rfl rfl (fun h' hs' hk' => ⟨?_, ?_⟩) (.inl rfl))
    · obtain ⟨a, b, c, d'⟩ := hI.kept (d, .deferred (some [])) (by simp [hd])
      exact hg5.keep a (fun e2 => d' e2.symm)
    · have hr := ho5.strs
      obtain ⟨ad, cap, hv, hc, hx⟩ := hr
      refine ⟨ad, cap, hv, hc, fun i x hi => ?_⟩
      obtain ⟨p, hp, hce⟩ := hx i x hi
      refine ⟨p, hp, ?_⟩
      subst hp
      have hv' : vo = .slice (some p) _ cap := hv
      have hvb : vo.ownBlock = some p.block := by rw [hv']; rfl
      have hnd' : p.block ∉ ds := fun hm => (hI.kept (p.block, .deferred (some [])) (by simp [hm])).2.2.2 hvb
      rw [← hce]; unfold hcell World.cell? mkW; simp only [add_block]; rw [hk' _ hnd']
    · refine ⟨by rw [hs']; exact Nat.le_trans hI.ext.size hg5.size, fun j hj => ?_⟩
      rw [hk' j (fun hm => by have := hds j hm; omega), hb5.old j (by omega)]
      exact hI.ext.old j hj

/-- burin/index.Tell -/
theorem ok12 : FnOk Tryz.prog 12 := fnok Tryz.func12 (by kernel_rfl) rfl
set_option maxRecDepth 10000 in
theorem w12 {h : Hp} {v : Value} {l : List Bs} (one two : Bs) (hn : Small l) (h1 : one.length ≤ 1000) (h2 : two.length ≤ 1000) (hl : Strs h v l) : CallsH Tryz.prog 12 #[v, S one, S two] h (fun r h' => r = .tuple #[S (tellL l one two).1, I (tellL l one two).2] ∧ Ext h h') := by
  refine enter ok12 Tryz.func12 rfl Tryz.ntmps12 (by simp) (fun w0 => ?_)
  repeat refine x_seq ?_
  refine goes rfl trivial ?_
  repeat refine x_seq ?_
  refine x_reg ?_
  refine go 3 rfl trivial ?_
  refine ops_buildSlice (cs := [S one, S two]) tabOk rfl rfl rfl rfl rfl rfl rfl rfl rfl ?_
  intro h1 hn1b
  refine ops_call rfl rfl rfl (w34' (ws := [one, two]) hn ⟨by simp, by simp; omega⟩ (hl.ext hn1b.ext) (Sl.of_new hn1b rfl (Nat.le_refl _))) ?_
  rintro _ h2 ⟨pv, rfl, he2, hsh⟩
  have he12 := hn1b.ext.trans he2
  refine go 1000 rfl trivial (ops_nil ?_)
  repeat refine x_seq ?_
  refine goes rfl trivial ?_
  repeat refine x_seq ?_
  refine x_ifd rfl (fun c1 => ?_) (fun c1 => ?_)
  · repeat refine x_seq ?_
    refine goes rfl trivial ?_
    repeat refine x_seq ?_
    exact x_ret (at_ret rfl rfl rfl rfl ⟨by unfold tellL; rw [if_pos (by omega)]; rfl, he12⟩ (.inl rfl))
  · repeat refine x_seq ?_
    refine x_skip ?_
    repeat refine x_seq ?_
    have h0 : openErr l [one, two] = 0 := by omega
    have hS2 : Small2 l := small2_ok (by unfold openErr at h0; split at h0 <;> omega)
    obtain ⟨bs, rfl, vf, hsw, _⟩ := hsh h0
    have hsv := hsw.sh0
    refine x_reg ?_
    refine go 3 rfl trivial ?_
    refine ops_call rfl rfl rfl (w35 one two hS2 (by omega) (by omega) (hl.ext he12) hsv) ?_
    rintro _ h3 ⟨hs3, he3⟩
    obtain ⟨a3, c3, rfl, -, hs3⟩ := hs3.op
    refine go 1000 rfl trivial (ops_nil ?_)
    repeat refine x_seq ?_
    refine goes rfl trivial ?_
    repeat refine x_seq ?_
    refine x_ifd rfl (fun c2 => ?_) (fun c2 => ?_)
    · repeat refine x_seq ?_
      refine goes rfl trivial ?_
      repeat refine x_seq ?_
      exact x_ret (at_ret rfl rfl rfl rfl ⟨by unfold tellL; rw [if_neg (by omega)]; rw [show apartL l one two = [] from List.eq_nil_of_length_eq_zero (by omega)]; rfl, he12.trans he3⟩ (.inl rfl))
    · repeat refine x_seq ?_
      refine x_skip ?_
      repeat refine x_seq ?_
      obtain ⟨p, rfl, hp⟩ := hs3 0 (by omega)
      refine x_reg ?_
      refine go 2 rfl ⟨by first | omega | (simp only [inK]; omega), trivial⟩ ?_
      refine ops_load tabOk rfl rfl rfl rfl hp ?_
      refine go 1000 rfl trivial (ops_nil ?_)
      repeat refine x_seq ?_
      exact x_ret (at_ret rfl rfl rfl rfl ⟨by unfold tellL; rw [if_neg (by omega), tellR_pos (by omega)]; rfl, he12.trans he3⟩ (.inl rfl))

end Go.Proofs.YtmfgiabmmdbmoaaGreatDoor
