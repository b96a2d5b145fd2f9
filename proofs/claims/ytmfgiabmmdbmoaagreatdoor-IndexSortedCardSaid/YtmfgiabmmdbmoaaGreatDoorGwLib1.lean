/-
  A part of the proofs of the laws of the index: what the functions of this program compute. Conditions: none beyond those that its theorems name.
-/
import Derived.Test.YtmfgiabmmdbmoaaGreatDoorGwSeat
import Derived.Test.YtmfgiabmmdbmoaaGreatDoorGwIx
namespace Go.Proofs.YtmfgiabmmdbmoaaGreatDoor
open Go.Gw Go.Ix
/-- slices.IndexFunc[[]string,string] -/
theorem ok67 : FnOk Tryz.prog 67 := fnok Tryz.func67 (by kernel_rfl) rfl
set_option maxRecDepth 10000 in
theorem w67 {h : Hp} {v : Value} {xs : List Value} (hn : xs.length ≤ 1000000) (hl : Sl h v xs) (fid : Nat) (cp : Array Value) (p : Value → Bool) (hf : ∀ x ∈ xs, ∀ h', Ext h h' → CallsH Tryz.prog fid (#[] ++ #[x] ++ cp) h' (fun v h'' => v = .bool (p x) ∧ Ext h' h'')) : CallsH Tryz.prog 67 #[v, .func (.func fid) #[] cp] h (fun v h' => v = I (ix p xs) ∧ Ext h h') := by
  obtain ⟨a, cap, rfl, hcap, hl⟩ := hl.op
  refine enter ok67 Tryz.func67 rfl Tryz.ntmps67 (by simp) (fun w0 => ?_)
  repeat refine x_seq ?_
  refine goes rfl trivial ?_
  repeat refine x_seq ?_
  refine goes rfl trivial ?_
  repeat refine x_seq ?_
  refine x_block ?_
  repeat refine x_seq ?_
  refine x_loop (fun k : Nat => [(0, .slice a xs.length cap), (1, .func (.func fid) #[] cp), (7, I xs.length), (8, I k)]) (fun k h' => (Ext h h') ∧ (k ≤ xs.length) ∧ ∀ x ∈ xs.take k, p x = false) (fun k => xs.length - k) 0 ⟨rfl, rfl, rfl, rfl, trivial⟩ ⟨Ext.refl h, by omega, by simp⟩ ?_
  rintro k h1 ⟨he, hk, hP⟩ K1 hK1
  repeat refine x_seq ?_
  refine goes rfl trivial ?_
  repeat refine x_seq ?_
  refine x_ifd rfl (fun c1 => ?_) (fun c1 => ?_)
  · repeat refine x_seq ?_
    refine x_skip ?_
    repeat refine x_seq ?_
    refine x_block ?_
    repeat refine x_seq ?_
    refine goes rfl trivial ?_
    repeat refine x_seq ?_
    have hlt : k < xs.length := by omega
    obtain ⟨q, rfl, hq⟩ := hl k hlt
    have hq := he.cell hq
    refine x_reg ?_
    refine go 4 rfl ⟨by first | omega | (simp only [inK]; omega), trivial⟩ ?_
    refine ops_load tabOk rfl rfl rfl rfl (by assumption) ?_
    refine ops_call rfl rfl rfl (hf _ (List.getElem_mem hlt) h1 he) ?_
    rintro _ h2 ⟨rfl, he2⟩
    refine ops_nil ?_
    repeat refine x_seq ?_
    refine x_if rfl (fun c2 => ?_) (fun c2 => ?_)
    · repeat refine x_seq ?_
      refine goes rfl trivial ?_
      repeat refine x_seq ?_
      exact x_ret (at_ret_loop hK1 (at_ret rfl rfl rfl rfl ⟨by rw [ix_at hlt hP c2]; rfl, he.trans he2⟩ (.inl rfl)))
    · repeat refine x_seq ?_
      refine x_skip ?_
      refine x_out ?_
      repeat refine x_seq ?_
      refine goes rfl ⟨by first | omega | (simp only [inK]; omega), trivial⟩ ?_
      refine x_next (k + 1) ⟨rfl, rfl, rfl, rfl, trivial⟩ ⟨he.trans he2, by omega, all_take hlt hP (by simpa using c2)⟩ (by omega)
  · repeat refine x_seq ?_
    refine x_exit_loop hK1 rfl rfl ?_
    repeat refine x_seq ?_
    refine goes rfl trivial ?_
    repeat refine x_seq ?_
    exact x_ret (at_ret rfl rfl rfl rfl ⟨by rw [ix_none (by omega) hP]; rfl, he⟩ (.inl rfl))

/-- slices.IndexFunc[[]int,int] -/
theorem ok92 : FnOk Tryz.prog 92 := fnok Tryz.func92 (by kernel_rfl) rfl
set_option maxRecDepth 10000 in
theorem w92 {h : Hp} {v : Value} {xs : List Value} (hn : xs.length ≤ 1000000) (hl : Sl h v xs) (fid : Nat) (cp : Array Value) (p : Value → Bool) (hf : ∀ x ∈ xs, ∀ h', Ext h h' → CallsH Tryz.prog fid (#[] ++ #[x] ++ cp) h' (fun v h'' => v = .bool (p x) ∧ Ext h' h'')) : CallsH Tryz.prog 92 #[v, .func (.func fid) #[] cp] h (fun v h' => v = I (ix p xs) ∧ Ext h h') := by
  obtain ⟨a, cap, rfl, hcap, hl⟩ := hl.op
  refine enter ok92 Tryz.func92 rfl Tryz.ntmps92 (by simp) (fun w0 => ?_)
  repeat refine x_seq ?_
  refine goes rfl trivial ?_
  repeat refine x_seq ?_
  refine goes rfl trivial ?_
  repeat refine x_seq ?_
  refine x_block ?_
  repeat refine x_seq ?_
  refine x_loop (fun k : Nat => [(0, .slice a xs.length cap), (1, .func (.func fid) #[] cp), (7, I xs.length), (8, I k)]) (fun k h' => (Ext h h') ∧ (k ≤ xs.length) ∧ ∀ x ∈ xs.take k, p x = false) (fun k => xs.length - k) 0 ⟨rfl, rfl, rfl, rfl, trivial⟩ ⟨Ext.refl h, by omega, by simp⟩ ?_
  rintro k h1 ⟨he, hk, hP⟩ K1 hK1
  repeat refine x_seq ?_
  refine goes rfl trivial ?_
  repeat refine x_seq ?_
  refine x_ifd rfl (fun c1 => ?_) (fun c1 => ?_)
  · repeat refine x_seq ?_
    refine x_skip ?_
    repeat refine x_seq ?_
    refine x_block ?_
    repeat refine x_seq ?_
    refine goes rfl trivial ?_
    repeat refine x_seq ?_
    have hlt : k < xs.length := by omega
    obtain ⟨q, rfl, hq⟩ := hl k hlt
    have hq := he.cell hq
    refine x_reg ?_
    refine go 4 rfl ⟨by first | omega | (simp only [inK]; omega), trivial⟩ ?_
    refine ops_load tabOk rfl rfl rfl rfl (by assumption) ?_
    refine ops_call rfl rfl rfl (hf _ (List.getElem_mem hlt) h1 he) ?_
    rintro _ h2 ⟨rfl, he2⟩
    refine ops_nil ?_
    repeat refine x_seq ?_
    refine x_if rfl (fun c2 => ?_) (fun c2 => ?_)
    · repeat refine x_seq ?_
      refine goes rfl trivial ?_
      repeat refine x_seq ?_
      exact x_ret (at_ret_loop hK1 (at_ret rfl rfl rfl rfl ⟨by rw [ix_at hlt hP c2]; rfl, he.trans he2⟩ (.inl rfl)))
    · repeat refine x_seq ?_
      refine x_skip ?_
      refine x_out ?_
      repeat refine x_seq ?_
      refine goes rfl ⟨by first | omega | (simp only [inK]; omega), trivial⟩ ?_
      refine x_next (k + 1) ⟨rfl, rfl, rfl, rfl, trivial⟩ ⟨he.trans he2, by omega, all_take hlt hP (by simpa using c2)⟩ (by omega)
  · repeat refine x_seq ?_
    refine x_exit_loop hK1 rfl rfl ?_
    repeat refine x_seq ?_
    refine goes rfl trivial ?_
    repeat refine x_seq ?_
    exact x_ret (at_ret rfl rfl rfl rfl ⟨by rw [ix_none (by omega) hP]; rfl, he⟩ (.inl rfl))

/-- slices.ContainsFunc[[]int,int] -/
theorem ok62 : FnOk Tryz.prog 62 := fnok Tryz.func62 (by kernel_rfl) rfl
set_option maxRecDepth 10000 in
theorem w62 {h : Hp} {v : Value} {xs : List Value} (hn : xs.length ≤ 1000000) (hl : Sl h v xs) (fid : Nat) (cp : Array Value) (p : Value → Bool) (hf : ∀ x ∈ xs, ∀ h', Ext h h' → CallsH Tryz.prog fid (#[] ++ #[x] ++ cp) h' (fun v h'' => v = .bool (p x) ∧ Ext h' h'')) : CallsH Tryz.prog 62 #[v, .func (.func fid) #[] cp] h (fun v h' => v = .bool (xs.any p) ∧ Ext h h') := by
  refine enter ok62 Tryz.func62 rfl Tryz.ntmps62 (by simp) (fun w0 => ?_)
  repeat refine x_seq ?_
  refine goes rfl trivial ?_
  repeat refine x_seq ?_
  refine x_reg ?_
  refine go 2 rfl trivial ?_
  refine ops_call rfl rfl rfl (w92 hn hl fid cp p hf) ?_
  rintro _ h2 ⟨rfl, he2⟩
  refine go 1000 rfl trivial (ops_nil ?_)
  repeat refine x_seq ?_
  exact x_ret (at_ret rfl rfl rfl rfl ⟨by rw [← ix_ge]; rfl, he2⟩ (.inl rfl))

/-- slices.ContainsFunc[[]string,string] -/
theorem ok83 : FnOk Tryz.prog 83 := fnok Tryz.func83 (by kernel_rfl) rfl
set_option maxRecDepth 10000 in
theorem w83 {h : Hp} {v : Value} {xs : List Value} (hn : xs.length ≤ 1000000) (hl : Sl h v xs) (fid : Nat) (cp : Array Value) (p : Value → Bool) (hf : ∀ x ∈ xs, ∀ h', Ext h h' → CallsH Tryz.prog fid (#[] ++ #[x] ++ cp) h' (fun v h'' => v = .bool (p x) ∧ Ext h' h'')) : CallsH Tryz.prog 83 #[v, .func (.func fid) #[] cp] h (fun v h' => v = .bool (xs.any p) ∧ Ext h h') := by
  refine enter ok83 Tryz.func83 rfl Tryz.ntmps83 (by simp) (fun w0 => ?_)
  repeat refine x_seq ?_
  refine goes rfl trivial ?_
  repeat refine x_seq ?_
  refine x_reg ?_
  refine go 2 rfl trivial ?_
  refine ops_call rfl rfl rfl (w67 hn hl fid cp p hf) ?_
  rintro _ h2 ⟨rfl, he2⟩
  refine go 1000 rfl trivial (ops_nil ?_)
  repeat refine x_seq ?_
  exact x_ret (at_ret rfl rfl rfl rfl ⟨by rw [← ix_ge]; rfl, he2⟩ (.inl rfl))

/-- slices.Index[[]string,string] -/
theorem ok66 : FnOk Tryz.prog 66 := fnok Tryz.func66 (by kernel_rfl) rfl
set_option maxRecDepth 10000 in
theorem w66 {h : Hp} {v : Value} {l : List Bs} (s : Bs) (hn : l.length ≤ 1000000) (hl : Strs h v l) : CallsH Tryz.prog 66 #[v, S s] h (fun v h' => v = I (ix (fun x => decide (s = x)) l) ∧ h' = h) := by
  obtain ⟨a, cap, rfl, hcap, hl⟩ := hl.op
  refine enter ok66 Tryz.func66 rfl Tryz.ntmps66 (by simp) (fun w0 => ?_)
  repeat refine x_seq ?_
  refine goes rfl trivial ?_
  repeat refine x_seq ?_
  refine goes rfl trivial ?_
  repeat refine x_seq ?_
  refine x_block ?_
  repeat refine x_seq ?_
  refine x_loop (fun k : Nat => [(0, .slice a l.length cap), (1, S s), (7, I l.length), (8, I k)]) (fun k h' => (h = h') ∧ (k ≤ l.length) ∧ ∀ x ∈ l.take k, decide (s = x) = false) (fun k => l.length - k) 0 ⟨rfl, rfl, rfl, rfl, trivial⟩ ⟨rfl, by omega, by simp⟩ ?_
  rintro k _ ⟨rfl, hk, hP⟩ K1 hK1
  repeat refine x_seq ?_
  refine goes rfl trivial ?_
  repeat refine x_seq ?_
  refine x_ifd rfl (fun c1 => ?_) (fun c1 => ?_)
  · repeat refine x_seq ?_
    refine x_skip ?_
    repeat refine x_seq ?_
    refine x_block ?_
    repeat refine x_seq ?_
    refine goes rfl trivial ?_
    repeat refine x_seq ?_
    have hlt : k < l.length := by omega
    obtain ⟨p, rfl, hp⟩ := hl k hlt
    refine x_reg ?_
    refine go 4 rfl ⟨by first | omega | (simp only [inK]; omega), trivial⟩ ?_
    refine ops_load tabOk rfl rfl rfl rfl (by assumption) ?_
    refine go 1000 rfl trivial (ops_nil ?_)
    repeat refine x_seq ?_
    refine x_ifd rfl (fun c2 => ?_) (fun c2 => ?_)
    · repeat refine x_seq ?_
      refine goes rfl trivial ?_
      repeat refine x_seq ?_
      exact x_ret (at_ret_loop hK1 (at_ret rfl rfl rfl rfl ⟨by rw [ix_at hlt hP (by simpa using c2)]; rfl, rfl⟩ (.inl rfl)))
    · repeat refine x_seq ?_
      refine x_skip ?_
      refine x_out ?_
      repeat refine x_seq ?_
      refine goes rfl ⟨by first | omega | (simp only [inK]; omega), trivial⟩ ?_
      refine x_next (k + 1) ⟨rfl, rfl, rfl, rfl, trivial⟩ ⟨rfl, by omega, all_take hlt hP (by simpa using c2)⟩ (by omega)
  · repeat refine x_seq ?_
    refine x_exit_loop hK1 rfl rfl ?_
    repeat refine x_seq ?_
    refine goes rfl trivial ?_
    repeat refine x_seq ?_
    exact x_ret (at_ret rfl rfl rfl rfl ⟨by rw [ix_none (by omega) hP]; rfl, rfl⟩ (.inl rfl))

/-- slices.Contains[[]string,string] -/
theorem ok44 : FnOk Tryz.prog 44 := fnok Tryz.func44 (by kernel_rfl) rfl
set_option maxRecDepth 10000 in
theorem w44 {h : Hp} {v : Value} {l : List Bs} (s : Bs) (hn : l.length ≤ 1000000) (hl : Strs h v l) : CallsH Tryz.prog 44 #[v, S s] h (fun v h' => v = .bool (decide (s ∈ l)) ∧ h' = h) := by
  refine enter ok44 Tryz.func44 rfl Tryz.ntmps44 (by simp) (fun w0 => ?_)
  repeat refine x_seq ?_
  refine goes rfl trivial ?_
  repeat refine x_seq ?_
  refine x_reg ?_
  refine go 2 rfl trivial ?_
  refine ops_call rfl rfl rfl (w66 s hn hl) ?_
  rintro _ _ ⟨rfl, rfl⟩
  refine go 1000 rfl trivial (ops_nil ?_)
  repeat refine x_seq ?_
  exact x_ret (at_ret rfl rfl rfl rfl ⟨by have := ix_ge (fun x => decide (s = x)) l; rw [show decide (s ∈ l) = l.any (fun x => decide (s = x)) from by rw [Bool.eq_iff_iff]; simp, ← this]; rfl, rfl⟩ (.inl rfl))

/-- cmp.Or[int] -/
theorem ok60 : FnOk Tryz.prog 60 := fnok Tryz.func60 (by kernel_rfl) rfl
set_option maxRecDepth 10000 in
theorem w60 {h : Hp} {v : Value} {l : List Int} (hn : l.length ≤ 1000000) (hl : Ints h v l) : CallsH Tryz.prog 60 #[v] h (fun v h' => v = I (orI l) ∧ h' = h) := by
  obtain ⟨a, cap, rfl, hcap, hl⟩ := hl.op
  refine enter ok60 Tryz.func60 rfl Tryz.ntmps60 (by simp) (fun w0 => ?_)
  repeat refine x_seq ?_
  refine goes rfl trivial ?_
  repeat refine x_seq ?_
  refine goes rfl trivial ?_
  repeat refine x_seq ?_
  refine goes rfl trivial ?_
  repeat refine x_seq ?_
  refine x_block ?_
  repeat refine x_seq ?_
  refine x_loop (fun k : Nat => [(3, I 0), (6, .slice a l.length cap), (7, I l.length), (8, I k)]) (fun k h' => (h = h') ∧ (k ≤ l.length) ∧ ∀ x ∈ l.take k, x = 0) (fun k => l.length - k) 0 ⟨rfl, rfl, rfl, rfl, trivial⟩ ⟨rfl, by omega, by simp⟩ ?_
  rintro k _ ⟨rfl, hk, hP⟩ K1 hK1
  repeat refine x_seq ?_
  refine goes rfl trivial ?_
  repeat refine x_seq ?_
  refine x_ifd rfl (fun c1 => ?_) (fun c1 => ?_)
  · repeat refine x_seq ?_
    refine x_skip ?_
    repeat refine x_seq ?_
    refine x_block ?_
    repeat refine x_seq ?_
    have hlt : k < l.length := by omega
    obtain ⟨p, rfl, hp⟩ := hl k hlt
    refine x_reg ?_
    refine go 1 rfl ⟨by first | omega | (simp only [inK]; omega), trivial⟩ ?_
    refine ops_load tabOk rfl rfl rfl rfl (by assumption) ?_
    refine go 1000 rfl trivial (ops_nil ?_)
    repeat refine x_seq ?_
    refine goes rfl trivial ?_
    repeat refine x_seq ?_
    refine x_ifd rfl (fun c2 => ?_) (fun c2 => ?_)
    · repeat refine x_seq ?_
      refine goes rfl trivial ?_
      repeat refine x_seq ?_
      exact x_ret (at_ret_loop hK1 (at_ret rfl rfl rfl rfl ⟨by rw [orI_at hlt hP c2]; rfl, rfl⟩ (.inl rfl)))
    · repeat refine x_seq ?_
      refine x_skip ?_
      refine x_out ?_
      repeat refine x_seq ?_
      refine goes rfl ⟨by first | omega | (simp only [inK]; omega), trivial⟩ ?_
      refine x_next (k + 1) ⟨rfl, rfl, rfl, rfl, trivial⟩ ⟨rfl, by omega, all_take hlt hP (by omega)⟩ (by omega)
  · repeat refine x_seq ?_
    refine x_exit_loop hK1 rfl rfl ?_
    repeat refine x_seq ?_
    refine goes rfl trivial ?_
    repeat refine x_seq ?_
    exact x_ret (at_ret rfl rfl rfl rfl ⟨by rw [orI_none (all_end (by omega) hP)]; rfl, rfl⟩ (.inl rfl))

/-- cmp.isNaN[string] -/
theorem ok105 : FnOk Tryz.prog 105 := fnok Tryz.func105 (by kernel_rfl) rfl
set_option maxRecDepth 10000 in
theorem w105 {h : Hp} (x : Bs) : CallsH Tryz.prog 105 #[S x] h (fun v h' => v = .bool false ∧ h' = h) := by
  refine enter ok105 Tryz.func105 rfl Tryz.ntmps105 (by simp) (fun w0 => ?_)
  repeat refine x_seq ?_
  refine goes rfl trivial ?_
  repeat refine x_seq ?_
  refine goes rfl trivial ?_
  repeat refine x_seq ?_
  exact x_ret (at_ret rfl rfl rfl rfl ⟨by simp [resultOf], rfl⟩ (.inl rfl))

/-- slices.isNaN[string] -/
theorem ok81 : FnOk Tryz.prog 81 := fnok Tryz.func81 (by kernel_rfl) rfl
set_option maxRecDepth 10000 in
theorem w81 {h : Hp} (x : Bs) : CallsH Tryz.prog 81 #[S x] h (fun v h' => v = .bool false ∧ h' = h) := by
  refine enter ok81 Tryz.func81 rfl Tryz.ntmps81 (by simp) (fun w0 => ?_)
  repeat refine x_seq ?_
  refine goes rfl trivial ?_
  repeat refine x_seq ?_
  refine goes rfl trivial ?_
  repeat refine x_seq ?_
  exact x_ret (at_ret rfl rfl rfl rfl ⟨by simp [resultOf], rfl⟩ (.inl rfl))

/-- cmp.Less[string] -/
theorem ok80 : FnOk Tryz.prog 80 := fnok Tryz.func80 (by kernel_rfl) rfl
set_option maxRecDepth 10000 in
theorem w80 {h : Hp} (x y : Bs) : CallsH Tryz.prog 80 #[S x, S y] h (fun v h' => v = .bool (lt x y) ∧ h' = h) := by
  refine enter ok80 Tryz.func80 rfl Tryz.ntmps80 (by simp) (fun w0 => ?_)
  repeat refine x_seq ?_
  refine goes rfl trivial ?_
  repeat refine x_seq ?_
  refine x_reg ?_
  refine go 1 rfl trivial ?_
  refine ops_call rfl rfl rfl (w105 _) ?_
  rintro _ _ ⟨rfl, rfl⟩
  refine go 1000 rfl trivial (ops_nil ?_)
  repeat refine x_seq ?_
  exact x_ret (at_ret rfl rfl rfl rfl ⟨rfl, rfl⟩ (.inl rfl))

/-- internal/stringslite.HasPrefix -/
theorem ok128 : FnOk Tryz.prog 128 := fnok Tryz.func128 (by kernel_rfl) rfl
set_option maxRecDepth 10000 in
theorem w128 {h : Hp} (s p : Bs) (_ : s.length ≤ 1000000) (hp : p.length ≤ 1000000) : CallsH Tryz.prog 128 #[S s, S p] h (fun v h' => v = .bool (p.isPrefixOf s) ∧ h' = h) := by
  refine enter ok128 Tryz.func128 rfl Tryz.ntmps128 (by simp) (fun w0 => ?_)
  repeat refine x_seq ?_
  refine goes rfl trivial ?_
  repeat refine x_seq ?_
  refine x_reg ?_
  refine go 6 rfl trivial ?_
  refine ops_dec 10 rfl (fun c1 => ?_) (fun c1 => ?_)
  · refine go 1000 rfl ⟨by first | omega | (simp only [inK]; omega), trivial⟩ (ops_nil ?_)
    repeat refine x_seq ?_
    exact x_ret (at_ret rfl rfl rfl rfl ⟨by show Value.bool (decide (s.take p.length = p)) = _; rw [pre_t], rfl⟩ (.inl rfl))
  · refine go 1000 rfl trivial (ops_nil ?_)
    repeat refine x_seq ?_
    exact x_ret (at_ret rfl rfl rfl rfl ⟨by rw [pre_f (by omega)]; rfl, rfl⟩ (.inl rfl))

/-- internal/stringslite.CutPrefix -/
theorem ok106 : FnOk Tryz.prog 106 := fnok Tryz.func106 (by kernel_rfl) rfl
set_option maxRecDepth 10000 in
theorem w106 {h : Hp} (s p : Bs) (hs : s.length ≤ 1000000) (hp : p.length ≤ 1000000) : CallsH Tryz.prog 106 #[S s, S p] h (fun v h' => v = (if p.isPrefixOf s = true then .tuple #[S (s.drop p.length), .bool true] else .tuple #[S s, .bool false]) ∧ h' = h) := by
  refine enter ok106 Tryz.func106 rfl Tryz.ntmps106 (by simp) (fun w0 => ?_)
  repeat refine x_seq ?_
  refine goes rfl trivial ?_
  repeat refine x_seq ?_
  refine x_reg ?_
  refine go 2 rfl trivial ?_
  refine ops_call rfl rfl rfl (w128 s p hs hp) ?_
  rintro _ _ ⟨rfl, rfl⟩
  refine go 1000 rfl trivial (ops_nil ?_)
  repeat refine x_seq ?_
  refine x_if rfl (fun c1 => ?_) (fun c1 => ?_)
  · repeat refine x_seq ?_
    refine goes rfl trivial ?_
    repeat refine x_seq ?_
    exact x_ret (at_ret rfl rfl rfl rfl ⟨by rw [Bool.not_eq_true'] at c1; rw [if_neg (by rw [c1]; simp)]; rfl, rfl⟩ (.inl rfl))
  · repeat refine x_seq ?_
    refine x_skip ?_
    repeat refine x_seq ?_
    refine goes rfl ⟨by have := List.IsPrefix.length_le (List.isPrefixOf_iff_prefix.1 (show p.isPrefixOf s = true by simpa only [Bool.not_eq_false'] using c1)); omega, trivial⟩ ?_
    repeat refine x_seq ?_
    exact x_ret (at_ret rfl rfl rfl rfl ⟨by rw [if_pos (by simpa only [Bool.not_eq_false'] using c1)]; rfl, rfl⟩ (.inl rfl))

/-- strings.CutPrefix -/
theorem ok89 : FnOk Tryz.prog 89 := fnok Tryz.func89 (by kernel_rfl) rfl
set_option maxRecDepth 10000 in
theorem w89 {h : Hp} (s p : Bs) (hs : s.length ≤ 1000000) (hp : p.length ≤ 1000000) : CallsH Tryz.prog 89 #[S s, S p] h (fun v h' => v = .tuple #[S (if p.isPrefixOf s = true then s.drop p.length else s), .bool (p.isPrefixOf s)] ∧ h' = h) := by
  refine enter ok89 Tryz.func89 rfl Tryz.ntmps89 (by simp) (fun w0 => ?_)
  repeat refine x_seq ?_
  refine goes rfl trivial ?_
  repeat refine x_seq ?_
  refine x_reg ?_
  refine go 2 rfl trivial ?_
  refine ops_call rfl rfl rfl (CallsH.mono (w106 s p hs hp) (R' := fun v h' => v = .tuple #[S (if p.isPrefixOf s = true then s.drop p.length else s), .bool (p.isPrefixOf s)] ∧ h' = _) (by rintro _ _ ⟨rfl, rfl⟩; refine ⟨?_, rfl⟩; cases p.isPrefixOf s <;> rfl)) ?_
  rintro _ _ ⟨rfl, rfl⟩
  refine go 1000 rfl trivial (ops_nil ?_)
  repeat refine x_seq ?_
  exact x_ret (at_ret rfl rfl rfl rfl ⟨rfl, rfl⟩ (.inl rfl))

end Go.Proofs.YtmfgiabmmdbmoaaGreatDoor

namespace Go.Proofs.YtmfgiabmmdbmoaaGreatDoor
open Go.Gw Go.Ix
/-- slices.IndexFunc[[]burin/api.IndexState,burin/api.IndexState] -/
theorem ok104 : FnOk Tryz.prog 104 := fnok Tryz.func104 (by kernel_rfl) rfl
set_option maxRecDepth 10000 in
theorem w104 {h : Hp} {v : Value} {l : List St} (hn : l.length ≤ 1000000) (hl : Sts h v l) (fid : Nat) (cp : Array Value) (p : St → Bool) (hf : ∀ x ∈ l, ∀ h' nv, Ext h h' → Ints h' nv x.next → CallsH Tryz.prog fid (#[] ++ #[.agg #[I x.ends, S x.letters, nv]] ++ cp) h' (fun v h'' => v = .bool (p x) ∧ Ext h' h'')) : CallsH Tryz.prog 104 #[v, .func (.func fid) #[] cp] h (fun v h' => v = I (ix p l) ∧ Ext h h') := by
  obtain ⟨a, cap, rfl, hcap, hl⟩ := hl
  refine enter ok104 Tryz.func104 rfl Tryz.ntmps104 (by simp) (fun w0 => ?_)
  repeat refine x_seq ?_
  refine goes rfl trivial ?_
  repeat refine x_seq ?_
  refine goes rfl trivial ?_
  repeat refine x_seq ?_
  refine x_block ?_
  repeat refine x_seq ?_
  refine x_loop (fun k : Nat => [(0, .slice a l.length cap), (1, .func (.func fid) #[] cp), (7, I l.length), (8, I k)]) (fun k h' => (Ext h h') ∧ (k ≤ l.length) ∧ ∀ x ∈ l.take k, p x = false) (fun k => l.length - k) 0 ⟨rfl, rfl, rfl, rfl, trivial⟩ ⟨Ext.refl h, by omega, by simp⟩ ?_
  rintro k h1 ⟨he, hk, hP⟩ K1 hK1
  repeat refine x_seq ?_
  refine goes rfl trivial ?_
  repeat refine x_seq ?_
  refine x_ifd rfl (fun c1 => ?_) (fun c1 => ?_)
  · repeat refine x_seq ?_
    refine x_skip ?_
    repeat refine x_seq ?_
    refine x_block ?_
    repeat refine x_seq ?_
    refine goes rfl trivial ?_
    repeat refine x_seq ?_
    have hlt : k < l.length := by omega
    obtain ⟨q, rfl, nv, hc, hi⟩ := hl k hlt
    refine x_reg ?_
    refine go 4 rfl ⟨by first | omega | (simp only [inK]; omega), trivial⟩ ?_
    refine ops_loads tabOk rfl rfl rfl rfl rfl (fun j u hj => he.cell (hc j u hj)) ?_
    refine ops_call rfl rfl rfl (hf _ (List.getElem_mem hlt) h1 nv he (hi.ext he)) ?_
    rintro _ h2 ⟨rfl, he2⟩
    refine ops_nil ?_
    repeat refine x_seq ?_
    refine x_if rfl (fun c2 => ?_) (fun c2 => ?_)
    · repeat refine x_seq ?_
      refine goes rfl trivial ?_
      repeat refine x_seq ?_
      exact x_ret (at_ret_loop hK1 (at_ret rfl rfl rfl rfl ⟨by rw [ix_at hlt hP c2]; rfl, he.trans he2⟩ (.inl rfl)))
    · repeat refine x_seq ?_
      refine x_skip ?_
      refine x_out ?_
      repeat refine x_seq ?_
      refine goes rfl ⟨by first | omega | (simp only [inK]; omega), trivial⟩ ?_
      refine x_next (k + 1) ⟨rfl, rfl, rfl, rfl, trivial⟩ ⟨he.trans he2, by omega, all_take hlt hP (by simpa using c2)⟩ (by omega)
  · repeat refine x_seq ?_
    refine x_exit_loop hK1 rfl rfl ?_
    repeat refine x_seq ?_
    refine goes rfl trivial ?_
    repeat refine x_seq ?_
    exact x_ret (at_ret rfl rfl rfl rfl ⟨by rw [ix_none (by omega) hP]; rfl, he⟩ (.inl rfl))

/-- slices.ContainsFunc[[]burin/api.IndexState,burin/api.IndexState] -/
theorem ok78 : FnOk Tryz.prog 78 := fnok Tryz.func78 (by kernel_rfl) rfl
set_option maxRecDepth 10000 in
theorem w78 {h : Hp} {v : Value} {l : List St} (hn : l.length ≤ 1000000) (hl : Sts h v l) (fid : Nat) (cp : Array Value) (p : St → Bool) (hf : ∀ x ∈ l, ∀ h' nv, Ext h h' → Ints h' nv x.next → CallsH Tryz.prog fid (#[] ++ #[.agg #[I x.ends, S x.letters, nv]] ++ cp) h' (fun v h'' => v = .bool (p x) ∧ Ext h' h'')) : CallsH Tryz.prog 78 #[v, .func (.func fid) #[] cp] h (fun v h' => v = .bool (l.any p) ∧ Ext h h') := by
  refine enter ok78 Tryz.func78 rfl Tryz.ntmps78 (by simp) (fun w0 => ?_)
  repeat refine x_seq ?_
  refine goes rfl trivial ?_
  repeat refine x_seq ?_
  refine x_reg ?_
  refine go 2 rfl trivial ?_
  refine ops_call rfl rfl rfl (w104 hn hl fid cp p hf) ?_
  rintro _ h2 ⟨rfl, he2⟩
  refine go 1000 rfl trivial (ops_nil ?_)
  repeat refine x_seq ?_
  exact x_ret (at_ret rfl rfl rfl rfl ⟨by rw [← ix_ge]; rfl, he2⟩ (.inl rfl))

/-- slices.Clone[[]string,string] -/
theorem ok40 : FnOk Tryz.prog 40 := fnok Tryz.func40 (by kernel_rfl) rfl
set_option maxRecDepth 10000 in
theorem w40 {h : Hp} {v : Value} {l : List Bs} (hn : l.length ≤ 1000000) (hl : Strs h v l) : CallsH Tryz.prog 40 #[v] h (fun v h' => Ext h h' ∧ Own h.size h' 9 1 v l.length (l.map S)) := by
  have hl0 := hl
  obtain ⟨a, cap, rfl, hcap, hl⟩ := hl.op
  refine enter ok40 Tryz.func40 rfl Tryz.ntmps40 (by simp) (fun w0 => ?_)
  repeat refine x_seq ?_
  refine goes rfl trivial ?_
  repeat refine x_seq ?_
  refine goes rfl trivial ?_
  repeat refine x_seq ?_
  refine x_if rfl (fun c1 => ?_) (fun c1 => ?_)
  · repeat refine x_seq ?_
    refine goes rfl trivial ?_
    repeat refine x_seq ?_
    exact x_ret (at_ret rfl rfl rfl rfl ⟨Ext.refl h, by cases a with | none => have := hl0.none_nil; simp at this; subst this; exact Own.nil _ _ _ _ | some p => cases c1⟩ (.inl rfl))
  · repeat refine x_seq ?_
    refine x_skip ?_
    repeat refine x_seq ?_
    refine x_reg ?_
    refine ops_buildSlice tabOk rfl rfl rfl rfl rfl rfl rfl rfl rfl ?_
    intro h1 hn1
    refine go 1 rfl trivial ?_
    have ho0 : Own h.size h1 9 1 (.slice (some ⟨h.size, 0, none⟩) 0 0) 0 [] := Own.of_new hn1 (Nat.le_refl _) rfl (Nat.le_refl _) (by omega)
    refine ops_append tabOk rfl rfl rfl rfl rfl rfl rfl rfl ho0 (by have := (hl0.ext hn1.ext).app; simpa only [List.length_map] using this) (all_one_S l) (by constructor <;> simp <;> omega) hn1.ext.size rfl ?_
    intro v2 h2 ho hg _
    refine go 1000 rfl trivial (ops_nil ?_)
    repeat refine x_seq ?_
    exact x_ret (at_ret rfl rfl rfl rfl ⟨Bel.trans hn1.ext (ho0.bel hg hn1.ext.size), by show Own _ _ _ _ v2 _ _; simpa using ho⟩ (.inl rfl))

end Go.Proofs.YtmfgiabmmdbmoaaGreatDoor
