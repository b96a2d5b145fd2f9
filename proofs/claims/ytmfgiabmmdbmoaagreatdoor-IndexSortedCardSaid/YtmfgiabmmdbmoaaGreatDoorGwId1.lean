/-
  A part of the proofs of the laws of the index: what the functions of this program compute. Conditions: none beyond those that its theorems name.
-/
import Derived.Test.YtmfgiabmmdbmoaaGreatDoorGwSeat
import Derived.Test.YtmfgiabmmdbmoaaGreatDoorGwIx
import Derived.Test.YtmfgiabmmdbmoaaGreatDoorGwLib1
namespace Go.Proofs.YtmfgiabmmdbmoaaGreatDoor
open Go.Gw Go.Ix
/-- burin/index.long -/
theorem ok70 : FnOk Tryz.prog 70 := fnok Tryz.func70 (by kernel_rfl) rfl
set_option maxRecDepth 10000 in
theorem w70 {h : Hp} (s : Bs) : CallsH Tryz.prog 70 #[S s] h (fun v h' => v = .bool (decide (10 < (s.length : Int))) ∧ h' = h) := by
  refine enter ok70 Tryz.func70 rfl Tryz.ntmps70 (by simp) (fun w0 => ?_)
  repeat refine x_seq ?_
  refine goes rfl trivial ?_
  repeat refine x_seq ?_
  refine goes rfl trivial ?_
  repeat refine x_seq ?_
  exact x_ret (at_ret rfl rfl rfl rfl ⟨rfl, rfl⟩ (.inl rfl))

/-- (burin/index.names).endings -/
theorem ok57 : FnOk Tryz.prog 57 := fnok Tryz.func57 (by kernel_rfl) rfl
set_option maxRecDepth 10000 in
theorem w57 {h : Hp} {vl : Value} (w : Bs) : CallsH Tryz.prog 57 #[.agg #[vl], S w] h (fun v h' => v = .func (.func 88) #[] #[.pointer (some ⟨h.size, 0, none⟩), .pointer (some ⟨h.size + 1, 0, none⟩)] ∧ Ext h h' ∧ h'.size = h.size + 2 ∧ h'[h.size]? = some (.cells ⟨[vl]⟩ 70 (0, 0)) ∧ h'[h.size + 1]? = some (.cells ⟨[S w]⟩ 9 (0, 0))) := by
  refine enter ok57 Tryz.func57 rfl Tryz.ntmps57 (by simp) (fun w0 => ?_)
  repeat refine x_seq ?_
  refine x_reg ?_
  refine ops_box rfl rfl rfl ?_
  intro h1 hn1
  refine ops_box rfl rfl rfl ?_
  intro h2 hn2
  refine go 1000 rfl trivial (ops_nil ?_)
  repeat refine x_seq ?_
  refine goes rfl trivial ?_
  repeat refine x_seq ?_
  exact x_ret (at_ret rfl rfl rfl rfl ⟨by rw [← hn1.size]; rfl, hn1.ext.trans hn2.ext, by rw [hn2.size, hn1.size], hn2.ext.get hn1.get, by rw [← hn1.size]; exact hn2.get⟩ (.inl rfl))

/-- What the closure of 'endings' reads. -/
def D88 (bn bw : Nat) (vl : Value) (l : List Bs) (w : Bs) (h : Hp) : Prop := h[bn]? = some (.cells ⟨[vl]⟩ 70 (0, 0)) ∧ h[bw]? = some (.cells ⟨[S w]⟩ 9 (0, 0)) ∧ Strs h vl l

/-- the yields of endings -/
theorem ok88 : FnOk Tryz.prog 88 := fnok Tryz.func88 (by kernel_rfl) rfl
set_option maxRecDepth 10000 in
theorem it88 {bn bw : Nat} {vl : Value} {l : List Bs} {w : Bs} (hn : Small2 l) (hw : w.length ≤ 1000000) : Iter Tryz.prog 88 #[.pointer (some ⟨bn, 0, none⟩), .pointer (some ⟨bw, 0, none⟩)] ((endings l w).map S) (D88 bn bw vl l w) := by
  intro lp J hD hy h hI0
  have hn1 := hn.1
  obtain ⟨a, cap, rfl, -, -⟩ := (hD _ _ hI0).2.2.op
  refine enter ok88 Tryz.func88 rfl Tryz.ntmps88 (by simp) (fun w0 => ?_)
  repeat refine x_seq ?_
  have hc0 : hcell h ⟨bn, 0, none⟩ = some (.slice a l.length cap) := by rw [hcell_block (hD _ _ hI0).1]; rfl
  refine x_reg ?_
  refine go 1 rfl trivial ?_
  refine ops_load tabOk rfl rfl rfl rfl hc0 ?_
  refine go 1000 rfl trivial (ops_nil ?_)
  repeat refine x_seq ?_
  refine x_block ?_
  repeat refine x_seq ?_
  refine x_loop (fun k : Nat => [(0, .func (.yield lp) #[] #[]), (2, .pointer (some ⟨bw, 0, none⟩)), (9, .slice a l.length cap), (10, I l.length), (11, I k)]) (fun k h' => (J ((endings (l.take k) w).length) h') ∧ (k ≤ l.length)) (fun k => l.length - k) 0 ⟨rfl, rfl, rfl, rfl, rfl, trivial⟩ ⟨hI0, by omega⟩ ?_
  rintro k h1 ⟨hI, hk⟩ K1 hK1
  repeat refine x_seq ?_
  refine goes rfl trivial ?_
  repeat refine x_seq ?_
  refine x_ifd rfl (fun c1 => ?_) (fun c1 => ?_)
  · repeat refine x_seq ?_
    refine x_skip ?_
    repeat refine x_seq ?_
    refine x_block ?_
    repeat refine x_seq ?_
    have hlt : k < l.length := by omega
    obtain ⟨hb1, hb2, hs⟩ := hD _ _ hI
    obtain ⟨a2, cap2, e2, -, hs⟩ := hs.op
    cases e2
    obtain ⟨p, rfl, hp⟩ := hs k hlt
    refine x_reg ?_
    refine go 1 rfl ⟨by first | omega | (simp only [inK]; omega), trivial⟩ ?_
    refine ops_load tabOk rfl rfl rfl rfl (by assumption) ?_
    refine go 1000 rfl trivial (ops_nil ?_)
    repeat refine x_seq ?_
    have hc1 : hcell h1 ⟨bw, 0, none⟩ = some (S w) := by rw [hcell_block hb2]; rfl
    refine x_reg ?_
    refine go 1 rfl trivial ?_
    refine ops_load tabOk rfl rfl rfl rfl hc1 ?_
    refine ops_call rfl rfl rfl (w89 _ _ (by have := hn.at hlt; omega) hw) ?_
    rintro _ _ ⟨rfl, rfl⟩
    refine go 1000 rfl trivial (ops_nil ?_)
    repeat refine x_seq ?_
    refine x_reg ?_
    refine go 2 rfl trivial ?_
    refine ops_bool 22 rfl (fun c2 => ?_) (fun c2 => ?_)
    · refine go 2 rfl trivial ?_
      refine ops_guard_yes rfl rfl rfl ?_
      refine ops_yield rfl rfl rfl (hy _ _ _ (show ((endings l w).map S)[(endings (l.take k) w).length]? = some (S (if w.isPrefixOf l[k] = true then l[k].drop w.length else l[k])) from by rw [if_pos c2]; exact endings_at hlt w c2) hI) ?_
      intro h2 hI2
      refine go 1000 rfl trivial (ops_nil ?_)
      repeat refine x_seq ?_
      refine x_false rfl ?_
      repeat refine x_seq ?_
      refine x_skip ?_
      refine x_out ?_
      repeat refine x_seq ?_
      refine goes rfl ⟨by first | omega | (simp only [inK]; omega), trivial⟩ ?_
      refine x_next (k + 1) ⟨rfl, rfl, rfl, rfl, rfl, trivial⟩ ⟨by rw [ends_len_t hlt w c2]; exact hI2, by omega⟩ (by omega)
    · refine go 1000 rfl trivial (ops_nil ?_)
      repeat refine x_seq ?_
      refine x_false rfl ?_
      repeat refine x_seq ?_
      refine x_skip ?_
      refine x_out ?_
      repeat refine x_seq ?_
      refine goes rfl ⟨by first | omega | (simp only [inK]; omega), trivial⟩ ?_
      refine x_next (k + 1) ⟨rfl, rfl, rfl, rfl, rfl, trivial⟩ ⟨by rw [ends_len_f hlt w c2]; exact hI, by omega⟩ (by omega)
  · repeat refine x_seq ?_
    refine x_exit_loop hK1 rfl rfl ?_
    exact x_end (at_ret rfl rfl rfl rfl (by rw [List.take_of_length_le (by omega)] at hI; simpa using hI) (.inr rfl))

/-- burin/index.within$1 -/
theorem ok63 : FnOk Tryz.prog 63 := fnok Tryz.func63 (by kernel_rfl) rfl
set_option maxRecDepth 10000 in
theorem w63 {h : Hp} {b1 b2 : Nat} {lo hi : Int} (n : Int) (h1 : h[b1]? = some (.cells ⟨[I lo]⟩ 3 (0, 0))) (h2 : h[b2]? = some (.cells ⟨[I hi]⟩ 3 (0, 0))) : CallsH Tryz.prog 63 #[I n, .pointer (some ⟨b1, 0, none⟩), .pointer (some ⟨b2, 0, none⟩)] h (fun v h' => v = .bool (decide (n < lo ∨ hi < n)) ∧ h' = h) := by
  refine enter ok63 Tryz.func63 rfl Tryz.ntmps63 (by simp) (fun w0 => ?_)
  repeat refine x_seq ?_
  refine goes rfl trivial ?_
  repeat refine x_seq ?_
  refine x_reg ?_
  refine go 1 rfl trivial ?_
  refine ops_load tabOk rfl rfl rfl rfl (by rw [hcell_block h1]; rfl) ?_
  refine go 2 rfl trivial ?_
  refine ops_dec 8 rfl (fun c1 => ?_) (fun c1 => ?_)
  · refine go 1000 rfl trivial (ops_nil ?_)
    repeat refine x_seq ?_
    exact x_ret (at_ret rfl rfl rfl rfl ⟨by rw [decide_eq_true (.inl c1)]; rfl, rfl⟩ (.inl rfl))
  · refine go 1 rfl trivial ?_
    refine ops_guard_yes rfl rfl rfl ?_
    refine ops_load tabOk rfl rfl rfl rfl (by rw [hcell_block h2]; rfl) ?_
    refine go 1000 rfl trivial (ops_nil ?_)
    repeat refine x_seq ?_
    exact x_ret (at_ret rfl rfl rfl rfl ⟨by show Value.bool (decide (hi < n)) = _; simp [c1], rfl⟩ (.inl rfl))

/-- burin/index.within -/
theorem ok37 : FnOk Tryz.prog 37 := fnok Tryz.func37 (by kernel_rfl) rfl
set_option maxRecDepth 10000 in
theorem w37 {h : Hp} {v : Value} {l : List Int} (lo hi : Int) (hn : l.length ≤ 1000000) (hl : Ints h v l) : CallsH Tryz.prog 37 #[I lo, I hi, v] h (fun v h' => v = .bool (decide (∀ n ∈ l, lo ≤ n ∧ n ≤ hi)) ∧ Ext h h') := by
  refine enter ok37 Tryz.func37 rfl Tryz.ntmps37 (by simp) (fun w0 => ?_)
  repeat refine x_seq ?_
  refine x_reg ?_
  refine ops_box rfl rfl rfl ?_
  intro h1 hn1
  refine ops_box rfl rfl rfl ?_
  intro h2 hn2
  refine go 1000 rfl trivial (ops_nil ?_)
  repeat refine x_seq ?_
  refine x_reg ?_
  refine go 2 rfl trivial ?_
  refine ops_call rfl rfl rfl (w62 (by simpa using hn) (hl.ext (hn1.ext.trans hn2.ext)) 63 _ (outP lo hi) (fun x hx h' he => by obtain ⟨n, -, rfl⟩ := List.mem_map.1 hx; exact CallsH.mono (w63 n (he.get (hn2.ext.get hn1.get)) (he.get hn2.get)) (by rintro _ _ ⟨rfl, rfl⟩; exact ⟨rfl, Ext.refl _⟩))) ?_
  rintro _ h3 ⟨rfl, he3⟩
  refine go 1000 rfl trivial (ops_nil ?_)
  repeat refine x_seq ?_
  exact x_ret (at_ret rfl rfl rfl rfl ⟨by rw [← within_any]; rfl, (hn1.ext.trans hn2.ext).trans he3⟩ (.inl rfl))

end Go.Proofs.YtmfgiabmmdbmoaaGreatDoor
