/-
  A part of the proofs of the laws of the index: what the functions of this program compute. Conditions: none beyond those that its theorems name.
-/
import Derived.Test.YtmfgiabmmdbmoaaGreatDoorGwId6
namespace Go.Proofs.YtmfgiabmmdbmoaaGreatDoor
open Go.Gw Go.Ix Go.Sort

/-- A shelf in block bs, ready. -/
def Shelf (bs : Nat) (v : Value) (l : List Bs) (h : Hp) : Prop := ∃ vf, ShW bs v l.flatten.length vf h ∧ Strs h vf (firsts l)
theorem Shelf.ext {bs : Nat} {v : Value} {l : List Bs} {h h' : Hp} (s : Shelf bs v l h) (e : Ext h h') : Shelf bs v l h' := by
  obtain ⟨vf, s1, s2⟩ := s
  have : bs < h.size := s1.sh0.lt
  exact ⟨vf, s1.of (e.old _ this), s2.ext e⟩

/-- burin/index.open -/
theorem ok34 : FnOk Tryz.prog 34 := fnok Tryz.func34 (by kernel_rfl) rfl
set_option maxRecDepth 10000 in
theorem w34 {h : Hp} {v v' : Value} {l ws : List Bs} (hn : Small l) (hn' : Small ws) (hl : Strs h v l) (hl' : Strs h v' ws) : CallsH Tryz.prog 34 #[v, v'] h (fun r h' => Ext h h' ∧ ((openErr l ws ≠ 0 ∧ r = .tuple #[.pointer none, I (openErr l ws)]) ∨ (openErr l ws = 0 ∧ ∃ bs, r = .tuple #[.pointer (some ⟨bs, 0, none⟩), I 0] ∧ Shelf bs v l h'))) := by
  refine enter ok34 Tryz.func34 rfl Tryz.ntmps34 (by simp) (fun w0 => ?_)
  repeat refine x_seq ?_
  refine goes rfl trivial ?_
  repeat refine x_seq ?_
  refine x_reg ?_
  refine go 1 rfl trivial ?_
  refine ops_call rfl rfl rfl (w55 hn hl) ?_
  rintro _ h2 ⟨rfl, he2⟩
  refine go 1000 rfl trivial (ops_nil ?_)
  repeat refine x_seq ?_
  refine goes rfl trivial ?_
  repeat refine x_seq ?_
  refine x_ifd rfl (fun c1 => ?_) (fun c1 => ?_)
  · repeat refine x_seq ?_
    refine goes rfl trivial ?_
    repeat refine x_seq ?_
    exact x_ret (at_ret rfl rfl rfl rfl ⟨he2, .inl ⟨by unfold openErr; rw [if_pos (by omega)]; omega, by unfold openErr; rw [if_pos (by omega)]; rfl⟩⟩ (.inl rfl))
  · repeat refine x_seq ?_
    refine x_skip ?_
    repeat refine x_seq ?_
    refine x_reg ?_
    refine go 1 rfl trivial ?_
    refine ops_call rfl rfl rfl (w49 hn' (hl'.ext he2)) ?_
    rintro _ h3 ⟨rfl, he3⟩
    refine go 1000 rfl trivial (ops_nil ?_)
    repeat refine x_seq ?_
    refine goes rfl trivial ?_
    repeat refine x_seq ?_
    refine x_ifd rfl (fun c2 => ?_) (fun c2 => ?_)
    · repeat refine x_seq ?_
      refine goes rfl trivial ?_
      repeat refine x_seq ?_
      exact x_ret (at_ret rfl rfl rfl rfl ⟨he2.trans he3, .inl ⟨by unfold openErr; rw [if_neg (by omega)]; omega, by unfold openErr; rw [if_neg (by omega)]; rfl⟩⟩ (.inl rfl))
    · repeat refine x_seq ?_
      refine x_skip ?_
      repeat refine x_seq ?_
      refine x_reg ?_
      refine go 1 rfl trivial ?_
      refine ops_call rfl rfl rfl (w56 (small2_ok (by omega)) (fun s hs => ((chk_ok (by omega)).2.1 s hs).2.2) (hl.ext (he2.trans he3))) ?_
      rintro _ h4 ⟨rfl, he4, hsh⟩
      refine go 1000 rfl trivial (ops_nil ?_)
      repeat refine x_seq ?_
      exact x_ret (at_ret rfl rfl rfl rfl ⟨(he2.trans he3).trans he4, .inr ⟨by unfold openErr; rw [if_neg (by omega)]; omega, _, rfl, hsh⟩⟩ (.inl rfl))

/-- burin/index.first[string] -/
theorem ok72 : FnOk Tryz.prog 72 := fnok Tryz.func72 (by kernel_rfl) rfl
set_option maxRecDepth 10000 in
theorem w72 {h : Hp} {v : Value} {l : List Bs} (hn : l.length ≤ 2000000) (hl : Strs h v l) (fid : Nat) (cp : Array Value) (p : Bs → Bool) (hf : ∀ x ∈ l, ∀ h', Ext h h' → CallsH Tryz.prog fid (#[] ++ #[S x] ++ cp) h' (fun v h'' => v = .bool (p x) ∧ Ext h' h'')) : CallsH Tryz.prog 72 #[v, .func (.func fid) #[] cp] h (fun v h' => v = I (ix p l) ∧ Ext h h') := by
  obtain ⟨a, cap, rfl, hcap, hl⟩ := hl.op
  refine enter ok72 Tryz.func72 rfl Tryz.ntmps72 (by simp) (fun w0 => ?_)
  repeat refine x_seq ?_
  refine goes rfl trivial ?_
  repeat refine x_seq ?_
  refine goes rfl trivial ?_
  repeat refine x_seq ?_
  refine x_block ?_
  repeat refine x_seq ?_
  refine x_loop (fun k : Nat => [(1, .func (.func fid) #[] cp), (7, .slice a l.length cap), (8, I l.length), (9, I k)]) (fun k h' => (Ext h h') ∧ (k ≤ l.length) ∧ ∀ x ∈ l.take k, p x = false) (fun k => l.length - k) 0 ⟨rfl, rfl, rfl, rfl, trivial⟩ ⟨Ext.refl h, by omega, by simp⟩ ?_
  rintro k h1 ⟨he, hk, hP⟩ K1 hK1
  repeat refine x_seq ?_
  refine goes rfl trivial ?_
  repeat refine x_seq ?_
  refine x_ifd rfl (fun c1 => ?_) (fun c1 => ?_)
  · repeat refine x_seq ?_
    refine x_skip ?_
    repeat refine x_seq ?_
    refine x_block ?_
    repeat refine x_seq ?_
    have hlt : k < l.length := by omega
    obtain ⟨q, rfl, hq⟩ := hl k hlt
    have hq := he.cell hq
    refine x_reg ?_
    refine go 2 rfl ⟨by first | omega | (simp only [inK]; omega), trivial⟩ ?_
    refine ops_load tabOk rfl rfl rfl rfl (by assumption) ?_
    refine go 1000 rfl trivial (ops_nil ?_)
    repeat refine x_seq ?_
    refine x_reg ?_
    refine go 2 rfl trivial ?_
    refine ops_call rfl rfl rfl (hf _ (List.getElem_mem hlt) h1 he) ?_
    rintro _ h2 ⟨rfl, he2⟩
    refine ops_nil ?_
    repeat refine x_seq ?_
    refine x_if rfl (fun c2 => ?_) (fun c2 => ?_)
    · repeat refine x_seq ?_
      refine goes rfl trivial ?_
      repeat refine x_seq ?_
      exact x_ret (at_ret_loop hK1 (at_ret rfl rfl rfl rfl ⟨by rw [ix_at hlt hP c2]; rfl, he.trans he2⟩ (.inl rfl)))
    · repeat refine x_seq ?_
      refine x_skip ?_
      refine x_out ?_
      repeat refine x_seq ?_
      refine goes rfl ⟨by first | omega | (simp only [inK]; omega), trivial⟩ ?_
      refine x_next (k + 1) ⟨rfl, rfl, rfl, rfl, trivial⟩ ⟨he.trans he2, by omega, all_take hlt hP (by simpa using c2)⟩ (by omega)
  · repeat refine x_seq ?_
    refine x_exit_loop hK1 rfl rfl ?_
    repeat refine x_seq ?_
    refine goes rfl trivial ?_
    repeat refine x_seq ?_
    exact x_ret (at_ret rfl rfl rfl rfl ⟨by rw [ix_none (by omega) hP]; rfl, he⟩ (.inl rfl))


/-- 'open', its answer in one form. -/
theorem w34' {h : Hp} {v v' : Value} {l ws : List Bs} (hn : Small l) (hn' : Small ws) (hl : Strs h v l) (hl' : Strs h v' ws) : CallsH Tryz.prog 34 #[v, v'] h (fun r h' => ∃ pv, r = .tuple #[pv, I (openErr l ws)] ∧ Ext h h' ∧ (openErr l ws = 0 → ∃ bs, pv = .pointer (some ⟨bs, 0, none⟩) ∧ Shelf bs v l h')) :=
  (w34 hn hn' hl hl').mono (by
    rintro r h' ⟨he, ⟨h0, rfl⟩ | ⟨h0, bs, rfl, hs⟩⟩
    · exact ⟨_, rfl, he, fun e => absurd e h0⟩
    · exact ⟨_, by rw [h0], he, fun _ => ⟨bs, rfl, hs⟩⟩)

end Go.Proofs.YtmfgiabmmdbmoaaGreatDoor

namespace Go.Proofs.YtmfgiabmmdbmoaaGreatDoor
open Go.Gw Go.Ix Go.Sort

/-- burin/index.near -/
theorem ok38 : FnOk Tryz.prog 38 := fnok Tryz.func38 (by kernel_rfl) rfl
set_option maxRecDepth 10000 in
theorem w38 : ∀ (m : Nat) (h : Hp) (a b : Bs) (_ : a.length ≤ 1000) (_ : b.length ≤ 1000) (_ : m ≤ 1000), CallsH Tryz.prog 38 #[S a, S b, I m] h (fun v h' => v = .bool (nearS m a b) ∧ h' = h) := by
  intro m
  refine Nat.strongRecOn m ?_
  intro m ih h a b ha hb hm
  refine enter ok38 Tryz.func38 rfl Tryz.ntmps38 (by simp) (fun w0 => ?_)
  repeat refine x_seq ?_
  refine goes rfl trivial ?_
  repeat refine x_seq ?_
  refine x_block ?_
  repeat refine x_seq ?_
  refine x_loop (fun x : Bs × Bs => [(0, S x.1), (1, S x.2), (2, I m)]) (fun x h' => (h = h') ∧ (x.1.length ≤ 1000 ∧ x.2.length ≤ 1000) ∧ strip x.1 x.2 = strip a b) (fun x => x.1.length) (a, b) ⟨rfl, rfl, rfl, trivial⟩ ⟨rfl, ⟨ha, hb⟩, rfl⟩ ?_
  rintro ⟨x, y⟩ _ ⟨rfl, ⟨hx, hy⟩, hP⟩ K1 hK1
  dsimp only at hx hy hP ⊢
  repeat refine x_seq ?_
  refine x_draw [(0, true), (1, true), (2, true), (3, true), (4, true), (5, true), (6, true), (7, true), (8, true), (9, true), (10, true), (11, true), (12, true)] [] (· = _) mixed (by kernel_rfl) rfl rfl rfl ?_
  refine sgo 3 rfl trivial ?_
  refine seq_dec 9 rfl (fun c1 => ?_) (fun c1 => ?_)
  · refine sgo 4 rfl trivial ?_
    refine seq_dec 13 rfl (fun c2 => ?_) (fun c2 => ?_)
    · refine sgo 1000 rfl ⟨by first | omega | (simp only [inK]; omega) | (have p1 := List.length_pos_iff.2 c1; have p2 := List.length_pos_iff.2 c2; omega), by first | omega | (simp only [inK]; omega) | (have p1 := List.length_pos_iff.2 c1; have p2 := List.length_pos_iff.2 c2; omega), trivial⟩ (seq_tail ?_)
      refine ops_nil ?_
      repeat refine x_seq ?_
      refine x_ifd rfl (fun c3 => ?_) (fun c3 => ?_)
      · repeat refine x_seq ?_
        refine x_skip ?_
        repeat refine x_seq ?_
        refine x_block ?_
        repeat refine x_seq ?_
        refine x_draw [(0, true), (1, true), (2, true), (3, true), (4, true), (5, true)] [] (· = _) mixed (by kernel_rfl) rfl rfl rfl ?_
        refine sgo 1000 rfl ⟨by first | omega | (simp only [inK]; omega) | (have p1 := List.length_pos_iff.2 c1; have p2 := List.length_pos_iff.2 c2; omega), by first | omega | (simp only [inK]; omega) | (have p1 := List.length_pos_iff.2 c1; have p2 := List.length_pos_iff.2 c2; omega), trivial⟩ (seq_tail ?_)
        refine ops_nil ?_
        refine x_out ?_
        refine x_next (x.drop 1, y.drop 1) ⟨rfl, rfl, rfl, trivial⟩ ⟨rfl, ⟨by show (x.drop 1).length ≤ 1000; simp; omega, by show (y.drop 1).length ≤ 1000; simp; omega⟩, (strip_step c1 c2 (by have h3 : ((x[0]?.getD 0).toNat : Int) = ((y[0]?.getD 0).toNat : Int) := c3; exact UInt8.toNat_inj.1 (by omega))).trans hP⟩ (by have := List.length_pos_iff.2 c1; show (x.drop 1).length < x.length; rw [List.length_drop]; omega)
      · repeat refine x_seq ?_
        refine x_exit_loop hK1 rfl rfl ?_
        first | have hne : ((x[0]?).getD 0) ≠ ((y[0]?).getD 0) := fun e => c3 (show ((x[0]?.getD 0).toNat : Int) = ((y[0]?.getD 0).toNat : Int) by rw [e]) | skip
        repeat refine x_seq ?_
        refine x_block ?_
        repeat refine x_seq ?_
        refine x_reg ?_
        refine go 3 rfl trivial ?_
        refine ops_dec 27 rfl (fun c4 => ?_) (fun c4 => ?_)
        · refine go 1000 rfl trivial (ops_nil ?_)
          repeat refine x_seq ?_
          refine x_true rfl ?_
          repeat refine x_seq ?_
          refine goes rfl ⟨by first | omega | (simp only [inK]; omega) | (have p1 := List.length_pos_iff.2 c1; have p2 := List.length_pos_iff.2 c2; omega), trivial⟩ ?_
          repeat refine x_seq ?_
          exact x_ret (at_ret rfl rfl rfl rfl ⟨by rw [← nearS_end (m := m) hP (by simp_all)]; rfl, rfl⟩ (.inl rfl))
        · refine go 1000 rfl trivial (ops_nil ?_)
          repeat refine x_seq ?_
          refine x_ifd rfl (fun c5 => ?_) (fun c5 => ?_)
          · repeat refine x_seq ?_
            refine goes rfl ⟨by first | omega | (simp only [inK]; omega) | (have p1 := List.length_pos_iff.2 c1; have p2 := List.length_pos_iff.2 c2; omega), trivial⟩ ?_
            repeat refine x_seq ?_
            exact x_ret (at_ret rfl rfl rfl rfl ⟨by rw [← nearS_end (m := m) hP (by simp_all)]; rfl, rfl⟩ (.inl rfl))
          · repeat refine x_seq ?_
            refine goes rfl trivial ?_
            repeat refine x_seq ?_
            refine x_ifd rfl (fun c6 => ?_) (fun c6 => ?_)
            · repeat refine x_seq ?_
              refine goes rfl trivial ?_
              repeat refine x_seq ?_
              exact x_ret (at_ret rfl rfl rfl rfl ⟨by rw [nearS_zero (m := m) (by omega) hP c4 c5 hne]; rfl, rfl⟩ (.inl rfl))
            · repeat refine x_seq ?_
              refine x_skip ?_
              refine x_out ?_
              repeat refine x_seq ?_
              refine x_draw [(0, true), (1, true), (2, true), (3, true), (4, true), (5, false), (6, true), (7, true), (8, true), (9, true), (10, true), (11, true), (12, false), (13, true), (14, true), (15, true), (16, true), (17, true), (18, true), (19, true), (20, true), (21, false), (22, true), (23, true)] [] (· = _) mixed (by kernel_rfl) rfl rfl rfl ?_
              refine sgo 5 rfl ⟨by first | omega | (simp only [inK]; omega) | (have p1 := List.length_pos_iff.2 c1; have p2 := List.length_pos_iff.2 c2; omega), by first | omega | (simp only [inK]; omega) | (have p1 := List.length_pos_iff.2 c1; have p2 := List.length_pos_iff.2 c2; omega), trivial⟩ ?_
              refine seq_act (ops_call rfl rfl rfl (show CallsH Tryz.prog 38 #[S (x.drop 1), S y, I ((m : Int) - 1)] h _ from by have h9 := ih (m - 1) (by omega) h (x.drop 1) y (by first | omega | (simp; omega)) (by first | omega | (simp; omega)) (by omega); rw [show (((m - 1 : Nat) : Int)) = (m : Int) - 1 from by omega] at h9; exact h9) ?_)
              rintro _ hq ⟨rfl, hqe⟩
              obtain rfl := hqe.symm
              refine ops_nil ⟨rfl, ?_⟩
              refine sgo 1 rfl trivial ?_
              refine seq_bool 47 rfl (fun c7 => ?_) (fun c7 => ?_)
              · refine sgo 5 rfl trivial ?_
                refine seq_act (go 1 rfl trivial (ops_nil ⟨rfl, ?_⟩))
                refine sgo 8 rfl trivial ?_
                refine seq_act (go 1 rfl trivial (ops_nil ⟨rfl, ?_⟩))
                refine sgo 1000 rfl trivial (seq_tail ?_)
                refine ops_nil ?_
                repeat refine x_seq ?_
                exact x_ret (at_ret rfl rfl rfl rfl ⟨by rw [nearS_rec (m := m) (by omega) hP c4 c5 hne]; rw [c7]; rfl, rfl⟩ (.inl rfl))
              · refine sgo 5 rfl ⟨by first | omega | (simp only [inK]; omega) | (have p1 := List.length_pos_iff.2 c1; have p2 := List.length_pos_iff.2 c2; omega), by first | omega | (simp only [inK]; omega) | (have p1 := List.length_pos_iff.2 c1; have p2 := List.length_pos_iff.2 c2; omega), trivial⟩ ?_
                refine seq_act (ops_guard_yes rfl rfl rfl (ops_call rfl rfl rfl (show CallsH Tryz.prog 38 #[S x, S (y.drop 1), I ((m : Int) - 1)] h _ from by have h9 := ih (m - 1) (by omega) h x (y.drop 1) (by first | omega | (simp; omega)) (by first | omega | (simp; omega)) (by omega); rw [show (((m - 1 : Nat) : Int)) = (m : Int) - 1 from by omega] at h9; exact h9) ?_))
                rintro _ hq ⟨rfl, hqe⟩
                obtain rfl := hqe.symm
                refine ops_nil ⟨rfl, ?_⟩
                refine sgo 2 rfl trivial ?_
                refine seq_bool 55 rfl (fun c8 => ?_) (fun c8 => ?_)
                · refine sgo 6 rfl trivial ?_
                  refine seq_act (go 1 rfl trivial (ops_nil ⟨rfl, ?_⟩))
                  refine sgo 1000 rfl trivial (seq_tail ?_)
                  refine ops_nil ?_
                  repeat refine x_seq ?_
                  exact x_ret (at_ret rfl rfl rfl rfl ⟨by rw [nearS_rec (m := m) (by omega) hP c4 c5 hne]; rw [c7, c8]; rfl, rfl⟩ (.inl rfl))
                · refine sgo 6 rfl ⟨by first | omega | (simp only [inK]; omega) | (have p1 := List.length_pos_iff.2 c1; have p2 := List.length_pos_iff.2 c2; omega), by first | omega | (simp only [inK]; omega) | (have p1 := List.length_pos_iff.2 c1; have p2 := List.length_pos_iff.2 c2; omega), by first | omega | (simp only [inK]; omega) | (have p1 := List.length_pos_iff.2 c1; have p2 := List.length_pos_iff.2 c2; omega), trivial⟩ ?_
                  refine seq_act (ops_guard_yes rfl rfl rfl (ops_call rfl rfl rfl (show CallsH Tryz.prog 38 #[S (x.drop 1), S (y.drop 1), I ((m : Int) - 1)] h _ from by have h9 := ih (m - 1) (by omega) h (x.drop 1) (y.drop 1) (by first | omega | (simp; omega)) (by first | omega | (simp; omega)) (by omega); rw [show (((m - 1 : Nat) : Int)) = (m : Int) - 1 from by omega] at h9; exact h9) ?_))
                  rintro _ hq ⟨rfl, hqe⟩
                  obtain rfl := hqe.symm
                  refine ops_nil ⟨rfl, ?_⟩
                  refine sgo 1000 rfl trivial (seq_tail ?_)
                  refine ops_nil ?_
                  repeat refine x_seq ?_
                  exact x_ret (at_ret rfl rfl rfl rfl ⟨by rw [nearS_rec (m := m) (by omega) hP c4 c5 hne]; rw [c7, c8]; rfl, rfl⟩ (.inl rfl))
    · refine sgo 1000 rfl trivial (seq_tail ?_)
      refine ops_nil ?_
      repeat refine x_seq ?_
      refine x_false rfl ?_
      repeat refine x_seq ?_
      refine x_exit_loop hK1 rfl rfl ?_
      first | have hne : ((x[0]?).getD 0) ≠ ((y[0]?).getD 0) := fun e => c3 (show ((x[0]?.getD 0).toNat : Int) = ((y[0]?.getD 0).toNat : Int) by rw [e]) | skip
      repeat refine x_seq ?_
      refine x_block ?_
      repeat refine x_seq ?_
      refine x_reg ?_
      refine go 3 rfl trivial ?_
      refine ops_dec 27 rfl (fun c9 => ?_) (fun c9 => ?_)
      · refine go 1000 rfl trivial (ops_nil ?_)
        repeat refine x_seq ?_
        refine x_true rfl ?_
        repeat refine x_seq ?_
        refine goes rfl ⟨by first | omega | (simp only [inK]; omega) | (have p1 := List.length_pos_iff.2 c1; have p2 := List.length_pos_iff.2 c2; omega), trivial⟩ ?_
        repeat refine x_seq ?_
        exact x_ret (at_ret rfl rfl rfl rfl ⟨by rw [← nearS_end (m := m) hP (by simp_all)]; rfl, rfl⟩ (.inl rfl))
      · refine go 1000 rfl trivial (ops_nil ?_)
        repeat refine x_seq ?_
        refine x_ifd rfl (fun c10 => ?_) (fun c10 => ?_)
        · repeat refine x_seq ?_
          refine goes rfl ⟨by first | omega | (simp only [inK]; omega) | (have p1 := List.length_pos_iff.2 c1; have p2 := List.length_pos_iff.2 c2; omega), trivial⟩ ?_
          repeat refine x_seq ?_
          exact x_ret (at_ret rfl rfl rfl rfl ⟨by rw [← nearS_end (m := m) hP (by simp_all)]; rfl, rfl⟩ (.inl rfl))
        · exact absurd (Decidable.not_not.1 c2) c10 --done
  · refine sgo 1000 rfl trivial (seq_tail ?_)
    refine ops_nil ?_
    repeat refine x_seq ?_
    refine x_false rfl ?_
    repeat refine x_seq ?_
    refine x_exit_loop hK1 rfl rfl ?_
    first | have hne : ((x[0]?).getD 0) ≠ ((y[0]?).getD 0) := fun e => c3 (show ((x[0]?.getD 0).toNat : Int) = ((y[0]?.getD 0).toNat : Int) by rw [e]) | skip
    repeat refine x_seq ?_
    refine x_block ?_
    repeat refine x_seq ?_
    refine x_reg ?_
    refine go 3 rfl trivial ?_
    refine ops_dec 27 rfl (fun c11 => ?_) (fun c11 => ?_)
    · refine go 1000 rfl trivial (ops_nil ?_)
      repeat refine x_seq ?_
      refine x_true rfl ?_
      repeat refine x_seq ?_
      refine goes rfl ⟨by first | omega | (simp only [inK]; omega) | (have p1 := List.length_pos_iff.2 c1; have p2 := List.length_pos_iff.2 c2; omega), trivial⟩ ?_
      repeat refine x_seq ?_
      exact x_ret (at_ret rfl rfl rfl rfl ⟨by rw [← nearS_end (m := m) hP (by simp_all)]; rfl, rfl⟩ (.inl rfl))
    · refine go 1000 rfl trivial (ops_nil ?_)
      repeat refine x_seq ?_
      refine x_ifd rfl (fun c12 => ?_) (fun c12 => ?_)
      · exact absurd (Decidable.not_not.1 c1) c11 --done
      · exact absurd (Decidable.not_not.1 c1) c11 --done

end Go.Proofs.YtmfgiabmmdbmoaaGreatDoor

namespace Go.Proofs.YtmfgiabmmdbmoaaGreatDoor
open Go.Gw Go.Ix Go.Sort

/-- burin/index.Both$1 -/
theorem ok43 : FnOk Tryz.prog 43 := fnok Tryz.func43 (by kernel_rfl) rfl
set_option maxRecDepth 10000 in
theorem w43 {h : Hp} {b1 : Nat} {vb : Value} {lb : List Bs} (s : Bs) (hn : lb.length ≤ 1000000) (hl : Strs h vb lb) (h1 : h[b1]? = some (.cells ⟨[vb]⟩ 22 (0, 0))) : CallsH Tryz.prog 43 #[S s, .pointer (some ⟨b1, 0, none⟩)] h (fun v h' => v = .bool (!decide (s ∈ lb)) ∧ h' = h) := by
  refine enter ok43 Tryz.func43 rfl Tryz.ntmps43 (by simp) (fun w0 => ?_)
  repeat refine x_seq ?_
  refine goes rfl trivial ?_
  repeat refine x_seq ?_
  refine x_reg ?_
  refine ops_load tabOk rfl rfl rfl rfl (show hcell h ⟨b1, 0, none⟩ = some vb by rw [hcell_block h1]; rfl) ?_
  refine go 1 rfl trivial ?_
  refine ops_call rfl rfl rfl (w44 s hn hl) ?_
  rintro _ _ ⟨rfl, rfl⟩
  refine go 1000 rfl trivial (ops_nil ?_)
  repeat refine x_seq ?_
  exact x_ret (at_ret rfl rfl rfl rfl ⟨rfl, rfl⟩ (.inl rfl))

/-- burin/index.CheckStates$1 -/
theorem ok74 : FnOk Tryz.prog 74 := fnok Tryz.func74 (by kernel_rfl) rfl
set_option maxRecDepth 10000 in
theorem w74 {h : Hp} {nv : Value} {x : St} (_ : Ints h nv x.next) : CallsH Tryz.prog 74 #[.agg #[I x.ends, S x.letters, nv]] h (fun v h' => v = .bool (!decide (0 ≤ x.ends ∧ x.ends ≤ 1)) ∧ Ext h h') := by
  refine enter ok74 Tryz.func74 rfl Tryz.ntmps74 (by simp) (fun w0 => ?_)
  repeat refine x_seq ?_
  refine x_reg ?_
  refine ops_box rfl rfl rfl ?_
  intro h1 hn1
  refine go 1000 rfl trivial (ops_nil ?_)
  repeat refine x_seq ?_
  refine x_reg ?_
  refine go 1 rfl trivial ?_
  refine ops_load tabOk rfl rfl rfl rfl (show hcell h1 ((⟨h.size, 0, none⟩ : Addr).add 0) = some (I x.ends) by rw [add_head, hcell_block hn1.get]; rfl) ?_
  refine ops_buildSlice (cs := [I x.ends]) tabOk rfl rfl rfl rfl rfl rfl rfl rfl rfl ?_
  intro h2 hn2
  refine ops_call rfl rfl rfl (w37 (l := [x.ends]) 0 1 (by simp) (Sl.of_new hn2 rfl (Nat.le_refl _))) ?_
  rintro _ h3 ⟨rfl, he3⟩
  refine go 1000 rfl trivial (ops_nil ?_)
  repeat refine x_seq ?_
  exact x_ret (at_ret rfl rfl rfl rfl ⟨by simp [resultOf], (hn1.ext.trans hn2.ext).trans he3⟩ (.inl rfl))

/-- burin/index.CheckStates$2 -/
theorem ok75 : FnOk Tryz.prog 75 := fnok Tryz.func75 (by kernel_rfl) rfl
set_option maxRecDepth 10000 in
theorem w75 {h : Hp} {nv : Value} {x : St} (hl : Ints h nv x.next) : CallsH Tryz.prog 75 #[.agg #[I x.ends, S x.letters, nv]] h (fun v h' => v = .bool (decide ((x.letters.length : Int) ≠ x.next.length)) ∧ Ext h h') := by
  obtain ⟨a, cap, rfl, hcap, hl⟩ := hl.op
  refine enter ok75 Tryz.func75 rfl Tryz.ntmps75 (by simp) (fun w0 => ?_)
  repeat refine x_seq ?_
  refine x_reg ?_
  refine ops_box rfl rfl rfl ?_
  intro h1 hn1
  refine go 1000 rfl trivial (ops_nil ?_)
  repeat refine x_seq ?_
  refine x_reg ?_
  refine go 1 rfl trivial ?_
  refine ops_load tabOk rfl rfl rfl rfl (show hcell h1 ((⟨h.size, 0, none⟩ : Addr).add 1) = some (S x.letters) by rw [add_head, hcell_block hn1.get]; rfl) ?_
  refine go 2 rfl trivial ?_
  refine ops_load tabOk rfl rfl rfl rfl (show hcell h1 ((⟨h.size, 0, none⟩ : Addr).add 2) = some (.slice a x.next.length cap) by rw [add_head, hcell_block hn1.get]; rfl) ?_
  refine go 1000 rfl trivial (ops_nil ?_)
  repeat refine x_seq ?_
  exact x_ret (at_ret rfl rfl rfl rfl ⟨rfl, hn1.ext⟩ (.inl rfl))

/-- burin/index.CheckStates$3 -/
theorem ok76 : FnOk Tryz.prog 76 := fnok Tryz.func76 (by kernel_rfl) rfl
set_option maxRecDepth 10000 in
theorem w76 {h : Hp} {nv : Value} {x : St} (hx : x.letters.length ≤ 1000000) : CallsH Tryz.prog 76 #[.agg #[I x.ends, S x.letters, nv]] h (fun v h' => v = .bool (!letters x.letters || !rising x.letters) ∧ Ext h h') := by
  refine enter ok76 Tryz.func76 rfl Tryz.ntmps76 (by simp) (fun w0 => ?_)
  repeat refine x_seq ?_
  refine x_reg ?_
  refine ops_box rfl rfl rfl ?_
  intro h1 hn1
  have hc1 : hcell h1 ((⟨h.size, 0, none⟩ : Addr).add 1) = some (S x.letters) := by rw [add_head, hcell_block hn1.get]; rfl
  refine go 1000 rfl trivial (ops_nil ?_)
  repeat refine x_seq ?_
  refine x_reg ?_
  refine go 1 rfl trivial ?_
  refine ops_load tabOk rfl rfl rfl rfl hc1 ?_
  refine ops_call rfl rfl rfl (w71 _ hx) ?_
  rintro _ h2 ⟨rfl, he2⟩
  refine go 1 rfl trivial ?_
  refine ops_bool 6 rfl (fun c1 => ?_) (fun c1 => ?_)
  · refine go 1000 rfl trivial (ops_nil ?_)
    repeat refine x_seq ?_
    exact x_ret (at_ret rfl rfl rfl rfl ⟨by rw [c1]; rfl, hn1.ext.trans he2⟩ (.inl rfl))
  · refine go 1 rfl trivial ?_
    refine ops_guard_yes rfl rfl rfl ?_
    refine ops_load tabOk rfl rfl rfl rfl (he2.cell hc1) ?_
    refine ops_guard_yes rfl rfl rfl ?_
    refine ops_call rfl rfl rfl (w77 _ hx) ?_
    rintro _ _ ⟨rfl, rfl⟩
    refine go 1000 rfl trivial (ops_nil ?_)
    repeat refine x_seq ?_
    exact x_ret (at_ret rfl rfl rfl rfl ⟨by rw [c1]; rfl, hn1.ext.trans he2⟩ (.inl rfl))

end Go.Proofs.YtmfgiabmmdbmoaaGreatDoor

namespace Go.Proofs.YtmfgiabmmdbmoaaGreatDoor
open Go.Gw Go.Ix Go.Sort

/-- burin/index.Join -/
theorem ok17 : FnOk Tryz.prog 17 := fnok Tryz.func17 (by kernel_rfl) rfl
set_option maxRecDepth 10000 in
theorem w17 {h : Hp} {v v' : Value} {a b : List Bs} (hn : Small a) (hn' : Small b) (hl : Strs h v a) (hl' : Strs h v' b) : CallsH Tryz.prog 17 #[v, v'] h (fun r h' => ∃ rv, r = .tuple #[rv, I (joinS a b).2] ∧ Strs h' rv (joinS a b).1 ∧ Ext h h') := by
  have hn1 := hn.1
  have hn2 := hn'.1
  refine enter ok17 Tryz.func17 rfl Tryz.ntmps17 (by simp) (fun w0 => ?_)
  repeat refine x_seq ?_
  refine goes rfl trivial ?_
  repeat refine x_seq ?_
  refine x_reg ?_
  refine go 2 rfl trivial ?_
  refine ops_call rfl rfl rfl (w39 hn hn' hl hl') ?_
  rintro _ h2 ⟨rfl, he2⟩
  rw [show (if checkList a ≠ 0 then checkList a else checkList b) = twoErr a b from rfl]
  refine go 1000 rfl trivial (ops_nil ?_)
  repeat refine x_seq ?_
  refine goes rfl trivial ?_
  repeat refine x_seq ?_
  refine x_ifd rfl (fun c1 => ?_) (fun c1 => ?_)
  · repeat refine x_seq ?_
    refine goes rfl trivial ?_
    repeat refine x_seq ?_
    exact x_ret (at_ret rfl rfl rfl rfl ⟨_, by unfold joinS; rw [if_pos (by omega)]; rfl, by unfold joinS; rw [if_pos (by omega)]; exact Sl.nil _, he2⟩ (.inl rfl))
  · repeat refine x_seq ?_
    refine x_skip ?_
    repeat refine x_seq ?_
    refine x_reg ?_
    refine go 1 rfl trivial ?_
    refine ops_call rfl rfl rfl (w40 hn.1 (hl.ext he2)) ?_
    rintro vc h3 ⟨he3, ho3⟩
    refine go 1 rfl trivial ?_
    refine ops_append tabOk rfl rfl rfl rfl rfl rfl rfl rfl ho3 (by have := (hl'.ext (he2.trans he3)).app; simpa only [List.length_map] using this) (all_one_S b) ⟨by omega, show (a.length + b.length) * 16 ≤ _ from by omega⟩ he3.size rfl ?_
    intro vd h4 ho4 hg4 _
    rw [← List.map_append] at ho4
    have hb4 : Bel h2.size h3 h4 := ho3.bel hg4 he3.size
    refine go 1000 rfl trivial (ops_nil ?_)
    repeat refine x_seq ?_
    refine x_reg ?_
    refine go 1 rfl trivial ?_
    refine ops_call rfl rfl rfl (w41 ho4 (by omega)) ?_
    rintro _ h5 ⟨rfl, ho5, hg5⟩
    have hb5 : Bel h2.size h4 h5 := ho4.bel hg5 (by have := hg4.size; have := he3.size; omega)
    refine ops_nil ?_
    repeat refine x_seq ?_
    refine x_reg ?_
    refine go 1 rfl trivial ?_
    refine ops_call rfl rfl rfl (w42 ho5 (by omega)) ?_
    rintro vr h6 ⟨hs6, hg6⟩
    have hb6 : Bel h2.size h5 h6 := ho5.bel hg6 (by have := hg5.size; have := hg4.size; have := he3.size; omega)
    have he6 : Ext h h6 := Bel.trans (Bel.trans (Bel.trans (he2.trans he3) (hb4.mono he2.size)) (hb5.mono he2.size)) (hb6.mono he2.size)
    obtain ⟨ar, cr, rfl, -, -⟩ := hs6.op
    refine go 1000 rfl trivial (ops_nil ?_)
    repeat refine x_seq ?_
    refine goes rfl trivial ?_
    repeat refine x_seq ?_
    refine x_ifd rfl (fun c2 => ?_) (fun c2 => ?_)
    · repeat refine x_seq ?_
      refine goes rfl trivial ?_
      repeat refine x_seq ?_
      exact x_ret (at_ret rfl rfl rfl rfl ⟨_, by unfold joinS; rw [if_neg (by omega), if_pos (by unfold joinL; omega)]; rfl, by unfold joinS; rw [if_neg (by omega), if_pos (by unfold joinL; omega)]; exact Sl.nil _, he6⟩ (.inl rfl))
    · repeat refine x_seq ?_
      refine x_skip ?_
      repeat refine x_seq ?_
      refine goes rfl trivial ?_
      repeat refine x_seq ?_
      exact x_ret (at_ret rfl rfl rfl rfl ⟨_, by unfold joinS; rw [if_neg (by omega), if_neg (by unfold joinL; omega)]; rfl, by unfold joinS; rw [if_neg (by omega), if_neg (by unfold joinL; omega)]; exact hs6, he6⟩ (.inl rfl))

end Go.Proofs.YtmfgiabmmdbmoaaGreatDoor

namespace Go.Proofs.YtmfgiabmmdbmoaaGreatDoor
open Go.Gw Go.Ix Go.Sort

theorem cut_sl {h : Hp} {a : Option Addr} {n c : Nat} {xs : List Value} (s : Sl h (.slice a n c) xs) : Sl h (.slice a n n) xs := by
  obtain ⟨a', c', hv, hc, hx⟩ := s
  cases hv
  exact ⟨_, _, rfl, Nat.le_refl _, hx⟩

/-- burin/index.Near -/
theorem ok15 : FnOk Tryz.prog 15 := fnok Tryz.func15 (by kernel_rfl) rfl
set_option maxRecDepth 10000 in
theorem w15 {h : Hp} {v : Value} {l : List Bs} (w : Bs) (most : Int) (hn : Small l) (hw : w.length ≤ 1000) (hl : Strs h v l) : CallsH Tryz.prog 15 #[v, S w, I most] h (fun r h' => ∃ rv, r = .tuple #[rv, I (nearL l w most).2] ∧ Strs h' rv (nearL l w most).1 ∧ Ext h h') := by
  have hl0 := hl
  obtain ⟨a, cap, rfl, hcap, hl⟩ := hl.op
  have hn1 := hn.1
  refine enter ok15 Tryz.func15 rfl Tryz.ntmps15 (by simp) (fun w0 => ?_)
  repeat refine x_seq ?_
  refine goes rfl trivial ?_
  repeat refine x_seq ?_
  refine x_reg ?_
  refine go 2 rfl trivial ?_
  refine ops_buildSlice (cs := [S w]) tabOk rfl rfl rfl rfl rfl rfl rfl rfl rfl ?_
  intro h1 hn1b
  refine ops_call rfl rfl rfl (w34' (ws := [w]) hn ⟨by simp, by simp; omega⟩ (hl0.ext hn1b.ext) (Sl.of_new hn1b rfl (Nat.le_refl _))) ?_
  rintro _ h2 ⟨pv, rfl, he2, hsh⟩
  have he12 := hn1b.ext.trans he2
  refine go 1000 rfl trivial (ops_nil ?_)
  repeat refine x_seq ?_
  refine x_block ?_
  repeat refine x_seq ?_
  refine goes rfl trivial ?_
  repeat refine x_seq ?_
  refine x_ifd rfl (fun c1 => ?_) (fun c1 => ?_)
  · repeat refine x_seq ?_
    refine goes rfl trivial ?_
    repeat refine x_seq ?_
    exact x_ret (at_ret rfl rfl rfl rfl ⟨_, by unfold nearL; rw [if_pos (by omega)]; rfl, by unfold nearL; rw [if_pos (by omega)]; exact Sl.nil _, he12⟩ (.inl rfl))
  · repeat refine x_seq ?_
    refine x_reg ?_
    refine go 1 rfl trivial ?_
    refine ops_buildSlice (cs := [I most]) tabOk rfl rfl rfl rfl rfl rfl rfl rfl rfl ?_
    intro h3 hn3
    refine ops_call rfl rfl rfl (w37 (l := [most]) 0 2 (by simp) (Sl.of_new hn3 rfl (Nat.le_refl _))) ?_
    rintro _ h4 ⟨rfl, he4⟩
    have he14 := (he12.trans hn3.ext).trans he4
    refine go 1000 rfl trivial (ops_nil ?_)
    repeat refine x_seq ?_
    refine x_if rfl (fun c2 => ?_) (fun c2 => ?_)
    · repeat refine x_seq ?_
      refine goes rfl trivial ?_
      repeat refine x_seq ?_
      exact x_ret (at_ret rfl rfl rfl rfl ⟨_, by unfold nearL; rw [if_neg (by omega), if_neg (by simp at c2; omega)]; rfl, by unfold nearL; rw [if_neg (by omega), if_neg (by simp at c2; omega)]; exact Sl.nil _, he14⟩ (.inl rfl))
    · repeat refine x_seq ?_
      refine x_skip ?_
      refine x_out ?_
      repeat refine x_seq ?_
      have hm : 0 ≤ most ∧ most ≤ 2 := by simp at c2; omega
      have h0 : openErr l [w] = 0 := by omega
      have hS2 : Small2 l := small2_ok (by unfold openErr at h0; split at h0 <;> omega)
      refine goes rfl trivial ?_
      repeat refine x_seq ?_
      refine goes rfl trivial ?_
      repeat refine x_seq ?_
      refine x_block ?_
      repeat refine x_seq ?_
      refine x_loop (fun x : Nat × Value => [(1, S w), (2, I most), (10, x.2), (29, .slice a l.length cap), (30, I l.length), (31, I x.1)]) (fun x h' => (Ext h h' ∧ Strs h' x.2 ((l.take x.1).filter fun s => nearS most.toNat s w)) ∧ (x.1 ≤ l.length)) (fun x => l.length - x.1) (0, .slice none 0 0) ⟨rfl, rfl, rfl, rfl, rfl, rfl, trivial⟩ ⟨⟨he14, Sl.nil _⟩, by omega⟩ ?_
      rintro ⟨k, vo⟩ h5 ⟨⟨he5, hs5⟩, hk⟩ K1 hK1
      dsimp only at hs5 hk ⊢
      repeat refine x_seq ?_
      refine goes rfl trivial ?_
      repeat refine x_seq ?_
      refine x_ifd rfl (fun c3 => ?_) (fun c3 => ?_)
      · repeat refine x_seq ?_
        refine x_skip ?_
        repeat refine x_seq ?_
        refine x_block ?_
        repeat refine x_seq ?_
        have hlt : k < l.length := by omega
        obtain ⟨q, rfl, hq⟩ := hl k hlt
        have hq := he5.cell hq
        refine x_reg ?_
        refine go 1 rfl ⟨by first | omega | (simp only [inK]; omega), trivial⟩ ?_
        refine ops_load tabOk rfl rfl rfl rfl (by assumption) ?_
        refine go 1000 rfl trivial (ops_nil ?_)
        repeat refine x_seq ?_
        refine x_reg ?_
        refine go 3 rfl trivial ?_
        refine ops_call rfl rfl rfl (show CallsH Tryz.prog 38 #[S l[k], S w, I most] h5 (fun v h' => v = .bool (nearS most.toNat l[k] w) ∧ h' = h5) from by have h9 := w38 most.toNat h5 l[k] w (hS2.at hlt) hw (by omega); rw [show ((most.toNat : Nat) : Int) = most from by omega] at h9; exact h9) ?_
        rintro _ hq2 ⟨rfl, e9⟩
        obtain rfl := e9.symm
        refine ops_nil ?_
        repeat refine x_seq ?_
        refine x_if rfl (fun c4 => ?_) (fun c4 => ?_)
        · repeat refine x_seq ?_
          obtain ⟨ao, co, rfl, hco, -⟩ := hs5.op
          have hfl := List.length_filter_le (fun s => nearS most.toNat s w) (l.take k)
          have htk : (l.take k).length ≤ l.length := by rw [List.length_take]; omega
          refine x_reg ?_
          refine go 7 rfl ⟨by first | omega | (simp only [inK]; omega), trivial⟩ ?_
          refine ops_buildSlice (cs := [S l[k]]) tabOk rfl rfl rfl rfl rfl rfl rfl rfl rfl ?_
          intro h7 hn7
          refine ops_append_cut (m := 0) tabOk rfl rfl rfl rfl rfl rfl (cut_sl (hs5.ext hn7.ext)) (Sl.of_new hn7 rfl (Nat.le_refl _)) rfl ⟨by omega, show _ * 16 ≤ _ from by omega⟩ rfl ?_
          intro v8 h8 he8 hs8
          refine go 1000 rfl trivial (ops_nil ?_)
          refine x_out ?_
          repeat refine x_seq ?_
          refine goes rfl ⟨by first | omega | (simp only [inK]; omega), trivial⟩ ?_
          refine x_next (k + 1, v8) ⟨rfl, rfl, rfl, rfl, rfl, rfl, trivial⟩ ⟨⟨(he5.trans hn7.ext).trans he8, by show Strs _ v8 ((l.take (k + 1)).filter _); rw [filter_take hlt, if_pos c4]; unfold Strs; rw [List.map_append]; exact hs8⟩, by show k + 1 ≤ _; omega⟩ (by show l.length - (k + 1) < l.length - k; omega)
        · repeat refine x_seq ?_
          refine x_skip ?_
          refine x_out ?_
          repeat refine x_seq ?_
          refine goes rfl ⟨by first | omega | (simp only [inK]; omega), trivial⟩ ?_
          refine x_next (k + 1, vo) ⟨rfl, rfl, rfl, rfl, rfl, rfl, trivial⟩ ⟨⟨he5, by show Strs _ vo ((l.take (k + 1)).filter _); rw [filter_take hlt, if_neg (by simpa using c4), List.append_nil]; exact hs5⟩, by show k + 1 ≤ _; omega⟩ (by show l.length - (k + 1) < l.length - k; omega)
      · repeat refine x_seq ?_
        refine x_exit_loop hK1 rfl rfl ?_
        repeat refine x_seq ?_
        refine goes rfl trivial ?_
        repeat refine x_seq ?_
        exact x_ret (at_ret rfl rfl rfl rfl ⟨vo, by unfold nearL; rw [if_neg (by omega), if_pos hm]; rfl, by unfold nearL; rw [if_neg (by omega), if_pos hm]; rw [List.take_of_length_le (by omega)] at hs5; exact hs5, he5⟩ (.inl rfl))

end Go.Proofs.YtmfgiabmmdbmoaaGreatDoor
