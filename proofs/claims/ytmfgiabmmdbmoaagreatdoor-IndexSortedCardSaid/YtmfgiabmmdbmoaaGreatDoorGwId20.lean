/-
  A part of the proofs of the laws of the index: what the functions of this program compute. Conditions: none beyond those that its theorems name.
-/
import Derived.Test.YtmfgiabmmdbmoaaGreatDoorGwId17
import Derived.Test.YtmfgiabmmdbmoaaGreatDoorGwRef1
import Derived.Test.YtmfgiabmmdbmoaaGreatDoorGw9
namespace Go.Proofs.YtmfgiabmmdbmoaaGreatDoor
open Go.Gw Go.Ix Go.Sort

/-- burin/burinref11.CheckStates -/
theorem ok47 : FnOk Tryz.prog 47 := fnok Tryz.func47 (by kernel_rfl) rfl
set_option maxRecDepth 10000 in
theorem w47 {h : Hp} {v : Value} {s : List St} (g : GoodS s) (hl : Sts h v s) : CallsH Tryz.prog 47 #[v] h (fun r h' => r = I 0 ∧ h' = h) := by
  have g1 := g.lo
  have g2 := g.hi
  obtain ⟨a, cap, rfl, hcap, hl⟩ := hl
  obtain ⟨q, rfl, -⟩ := hl 0 g1
  refine enter ok47 Tryz.func47 rfl Tryz.ntmps47 (by simp) (fun w0 => ?_)
  repeat refine x_seq ?_
  refine goes rfl trivial ?_
  repeat refine x_seq ?_
  refine x_reg ?_
  refine go 4 rfl trivial ?_
  refine ops_dec 12 rfl (fun c1 => ?_) (fun c1 => ?_)
  · refine go 1000 rfl trivial (ops_nil ?_)
    repeat refine x_seq ?_
    refine x_true rfl ?_
    repeat refine x_seq ?_
    refine goes rfl trivial ?_
    repeat refine x_seq ?_
    exact absurd c1 (by omega)
  · refine go 1000 rfl trivial (ops_nil ?_)
    repeat refine x_seq ?_
    refine x_ifd rfl (fun c2 => ?_) (fun c2 => ?_)
    · repeat refine x_seq ?_
      refine goes rfl trivial ?_
      repeat refine x_seq ?_
      exact absurd c2 (by omega)
    · repeat refine x_seq ?_
      refine x_skip ?_
      repeat refine x_seq ?_
      refine goes rfl trivial ?_
      repeat refine x_seq ?_
      refine x_block ?_
      repeat refine x_seq ?_
      refine x_loop (fun k : Nat => [(0, .slice (some q) s.length cap), (3, I k)]) (fun k h' => (h = h') ∧ (k ≤ s.length)) (fun k => s.length - k) 0 ⟨rfl, rfl, trivial⟩ ⟨rfl, by omega⟩ ?_
      rintro k _ ⟨rfl, hk⟩ K1 hK1
      repeat refine x_seq ?_
      refine goes rfl trivial ?_
      repeat refine x_seq ?_
      refine x_ifd rfl (fun c3 => ?_) (fun c3 => ?_)
      · repeat refine x_seq ?_
        refine x_skip ?_
        repeat refine x_seq ?_
        refine x_block ?_
        repeat refine x_seq ?_
        have hlt : k < s.length := by omega
        obtain ⟨q', hq', nv, hc, hi⟩ := hl k hlt
        cases hq'
        obtain ⟨an, cn, rfl, -, hnx⟩ := hi.op
        have hxm : s[k] ∈ s := List.getElem_mem hlt
        have hxl := g.len _ hxm
        have hnl := good_next g hxm
        refine x_reg ?_
        refine go 4 rfl ⟨by first | omega | (simp only [inK]; omega), trivial⟩ ?_
        refine ops_load tabOk rfl rfl rfl rfl (hc 0 _ rfl) ?_
        refine go 2 rfl trivial ?_
        refine ops_dec 29 rfl (fun c4 => ?_) (fun c4 => ?_)
        · refine go 4 rfl ⟨by first | omega | (simp only [inK]; omega), trivial⟩ ?_
          refine ops_guard_yes rfl rfl rfl ?_
          refine ops_load tabOk rfl rfl rfl rfl (hc 0 _ rfl) ?_
          refine go 1000 rfl trivial (ops_nil ?_)
          repeat refine x_seq ?_
          refine x_ifd rfl (fun c5 => ?_) (fun c5 => ?_)
          · repeat refine x_seq ?_
            refine goes rfl trivial ?_
            repeat refine x_seq ?_
            exfalso; rcases g.ends _ hxm with h9 | h9 <;> omega
          · repeat refine x_seq ?_
            refine x_skip ?_
            refine x_out ?_
            repeat refine x_seq ?_
            refine goes rfl ⟨by first | omega | (simp only [inK]; omega), trivial⟩ ?_
            refine x_next (k + 1) ⟨rfl, rfl, trivial⟩ ⟨rfl, by omega⟩ (by omega)
        · refine go 1000 rfl trivial (ops_nil ?_)
          repeat refine x_seq ?_
          refine x_false rfl ?_
          repeat refine x_seq ?_
          refine x_skip ?_
          refine x_out ?_
          repeat refine x_seq ?_
          refine goes rfl ⟨by first | omega | (simp only [inK]; omega), trivial⟩ ?_
          refine x_next (k + 1) ⟨rfl, rfl, trivial⟩ ⟨rfl, by omega⟩ (by omega)
      · repeat refine x_seq ?_
        refine x_exit_loop hK1 rfl rfl ?_
        repeat refine x_seq ?_
        refine goes rfl trivial ?_
        repeat refine x_seq ?_
        refine x_block ?_
        repeat refine x_seq ?_
        refine x_loop (fun k : Nat => [(0, .slice (some q) s.length cap), (4, I k)]) (fun k h' => (h = h') ∧ (k ≤ s.length)) (fun k => s.length - k) 0 ⟨rfl, rfl, trivial⟩ ⟨rfl, by omega⟩ ?_
        rintro k _ ⟨rfl, hk⟩ K2 hK2
        repeat refine x_seq ?_
        refine goes rfl trivial ?_
        repeat refine x_seq ?_
        refine x_ifd rfl (fun c6 => ?_) (fun c6 => ?_)
        · repeat refine x_seq ?_
          refine x_skip ?_
          repeat refine x_seq ?_
          refine x_block ?_
          repeat refine x_seq ?_
          have hlt : k < s.length := by omega
          obtain ⟨q', hq', nv, hc, hi⟩ := hl k hlt
          cases hq'
          obtain ⟨an, cn, rfl, -, hnx⟩ := hi.op
          have hxm : s[k] ∈ s := List.getElem_mem hlt
          have hxl := g.len _ hxm
          have hnl := good_next g hxm
          refine x_draw [(0, true), (1, true), (2, true), (3, true), (4, true), (5, true), (6, true), (7, true), (8, true), (9, true), (10, true), (11, true), (12, true)] [] (· = _) mixed (by kernel_rfl) rfl rfl rfl ?_
          refine sgo 4 rfl ⟨by first | omega | (simp only [inK]; omega), trivial⟩ ?_
          refine seq_load tabOk rfl rfl rfl rfl (by rintro _ rfl; exact (hc 1 _ rfl)) ?_
          refine sgo 5 rfl ⟨by first | omega | (simp only [inK]; omega), trivial⟩ ?_
          refine seq_load tabOk rfl rfl rfl rfl (by rintro _ rfl; exact (hc 2 _ rfl)) ?_
          refine sgo 1000 rfl trivial (seq_tail ?_)
          refine ops_nil ?_
          repeat refine x_seq ?_
          refine x_ifd rfl (fun c7 => ?_) (fun c7 => ?_)
          · repeat refine x_seq ?_
            refine goes rfl trivial ?_
            repeat refine x_seq ?_
            exact absurd c7 (by omega)
          · repeat refine x_seq ?_
            refine x_skip ?_
            refine x_out ?_
            repeat refine x_seq ?_
            refine goes rfl ⟨by first | omega | (simp only [inK]; omega), trivial⟩ ?_
            refine x_next (k + 1) ⟨rfl, rfl, trivial⟩ ⟨rfl, by omega⟩ (by omega)
        · repeat refine x_seq ?_
          refine x_exit_loop hK2 rfl rfl ?_
          repeat refine x_seq ?_
          refine goes rfl trivial ?_
          repeat refine x_seq ?_
          refine x_block ?_
          repeat refine x_seq ?_
          refine x_loop (fun k : Nat => [(0, .slice (some q) s.length cap), (5, I k)]) (fun k h' => (h = h') ∧ (k ≤ s.length)) (fun k => s.length - k) 0 ⟨rfl, rfl, trivial⟩ ⟨rfl, by omega⟩ ?_
          rintro k _ ⟨rfl, hk⟩ K3 hK3
          repeat refine x_seq ?_
          refine goes rfl trivial ?_
          repeat refine x_seq ?_
          refine x_ifd rfl (fun c8 => ?_) (fun c8 => ?_)
          · repeat refine x_seq ?_
            refine x_skip ?_
            repeat refine x_seq ?_
            refine x_block ?_
            repeat refine x_seq ?_
            have hlt : k < s.length := by omega
            obtain ⟨q', hq', nv, hc, hi⟩ := hl k hlt
            cases hq'
            obtain ⟨an, cn, rfl, -, hnx⟩ := hi.op
            have hxm : s[k] ∈ s := List.getElem_mem hlt
            have hxl := g.len _ hxm
            have hnl := good_next g hxm
            refine x_reg ?_
            refine go 4 rfl ⟨by first | omega | (simp only [inK]; omega), trivial⟩ ?_
            refine ops_load tabOk rfl rfl rfl rfl (hc 1 _ rfl) ?_
            refine ops_call rfl rfl rfl (w36 _ (by omega)) ?_
            rintro _ hq ⟨rfl, e9⟩
            obtain rfl := e9.symm
            refine go 1000 rfl trivial (ops_nil ?_)
            repeat refine x_seq ?_
            refine x_if rfl (fun c9 => ?_) (fun c9 => ?_)
            · repeat refine x_seq ?_
              refine goes rfl trivial ?_
              repeat refine x_seq ?_
              rw [g.lets _ hxm] at c9; cases c9
            · repeat refine x_seq ?_
              refine x_skip ?_
              repeat refine x_seq ?_
              refine goes rfl trivial ?_
              repeat refine x_seq ?_
              refine x_block ?_
              repeat refine x_seq ?_
              refine x_loop (fun j : Nat => [(0, .slice (some q) s.length cap), (5, I k), (6, I j)]) (fun j h' => (h = h') ∧ (1 ≤ j ∧ (j ≤ s[k].letters.length ∨ j = 1))) (fun j => s[k].letters.length - j) 1 ⟨rfl, rfl, rfl, trivial⟩ ⟨rfl, by omega⟩ ?_
              rintro j _ ⟨rfl, hk⟩ K4 hK4
              repeat refine x_seq ?_
              refine x_reg ?_
              refine go 5 rfl ⟨by first | omega | (simp only [inK]; omega), trivial⟩ ?_
              refine ops_load tabOk rfl rfl rfl rfl (hc 1 _ rfl) ?_
              refine go 1000 rfl trivial (ops_nil ?_)
              repeat refine x_seq ?_
              refine x_ifd rfl (fun c10 => ?_) (fun c10 => ?_)
              · repeat refine x_seq ?_
                refine x_skip ?_
                repeat refine x_seq ?_
                refine x_block ?_
                repeat refine x_seq ?_
                have hjl : j < s[k].letters.length := by omega
                refine x_draw [(0, true), (1, true), (2, true), (3, true), (4, true), (5, true), (6, true), (7, true), (8, true), (9, true), (10, true), (11, true), (12, true), (13, true), (14, true), (15, true)] [] (· = _) mixed (by kernel_rfl) rfl rfl rfl ?_
                refine sgo 4 rfl ⟨by first | omega | (simp only [inK]; omega), trivial⟩ ?_
                refine seq_load tabOk rfl rfl rfl rfl (by rintro _ rfl; exact (hc 1 _ rfl)) ?_
                refine sgo 6 rfl ⟨by first | omega | (simp only [inK]; omega), by first | omega | (simp only [inK]; omega), trivial⟩ ?_
                refine seq_load tabOk rfl rfl rfl rfl (by rintro _ rfl; exact (hc 1 _ rfl)) ?_
                refine sgo 1000 rfl ⟨by first | omega | (simp only [inK]; omega), by first | omega | (simp only [inK]; omega), trivial⟩ (seq_tail ?_)
                refine ops_nil ?_
                repeat refine x_seq ?_
                refine x_ifd rfl (fun c11 => ?_) (fun c11 => ?_)
                · repeat refine x_seq ?_
                  refine goes rfl trivial ?_
                  repeat refine x_seq ?_
                  have e1 : ((j : Int) - 1).toNat = j - 1 := by omega
                  exact absurd (g.ris _ hxm) (by rw [rising_f hjl (by omega) (by simp only [e1, Int.toNat_natCast] at c11; omega)]; simp)
                · repeat refine x_seq ?_
                  refine x_skip ?_
                  refine x_out ?_
                  repeat refine x_seq ?_
                  refine goes rfl ⟨by first | omega | (simp only [inK]; omega), trivial⟩ ?_
                  refine x_next (j + 1) ⟨rfl, rfl, rfl, trivial⟩ ⟨rfl, by omega⟩ (by omega)
              · repeat refine x_seq ?_
                refine x_exit_loop hK4 rfl rfl ?_
                refine x_out ?_
                repeat refine x_seq ?_
                refine goes rfl ⟨by first | omega | (simp only [inK]; omega), trivial⟩ ?_
                refine x_next (k + 1) ⟨rfl, rfl, trivial⟩ ⟨rfl, by omega⟩ (by omega)
          · repeat refine x_seq ?_
            refine x_exit_loop hK3 rfl rfl ?_
            repeat refine x_seq ?_
            refine goes rfl trivial ?_
            repeat refine x_seq ?_
            refine x_block ?_
            repeat refine x_seq ?_
            refine x_loop (fun k : Nat => [(0, .slice (some q) s.length cap), (7, I k)]) (fun k h' => (h = h') ∧ (k ≤ s.length)) (fun k => s.length - k) 0 ⟨rfl, rfl, trivial⟩ ⟨rfl, by omega⟩ ?_
            rintro k _ ⟨rfl, hk⟩ K5 hK5
            repeat refine x_seq ?_
            refine goes rfl trivial ?_
            repeat refine x_seq ?_
            refine x_ifd rfl (fun c12 => ?_) (fun c12 => ?_)
            · repeat refine x_seq ?_
              refine x_skip ?_
              repeat refine x_seq ?_
              refine x_block ?_
              repeat refine x_seq ?_
              have hlt : k < s.length := by omega
              obtain ⟨q', hq', nv, hc, hi⟩ := hl k hlt
              cases hq'
              obtain ⟨an, cn, rfl, -, hnx⟩ := hi.op
              have hxm : s[k] ∈ s := List.getElem_mem hlt
              have hxl := g.len _ hxm
              have hnl := good_next g hxm
              refine goes rfl trivial ?_
              repeat refine x_seq ?_
              refine x_block ?_
              repeat refine x_seq ?_
              refine x_loop (fun j : Nat => [(0, .slice (some q) s.length cap), (7, I k), (8, I j)]) (fun j h' => (h = h') ∧ (j ≤ s[k].next.length)) (fun j => s[k].next.length - j) 0 ⟨rfl, rfl, rfl, trivial⟩ ⟨rfl, by omega⟩ ?_
              rintro j _ ⟨rfl, hk⟩ K6 hK6
              repeat refine x_seq ?_
              refine x_reg ?_
              refine go 5 rfl ⟨by first | omega | (simp only [inK]; omega), trivial⟩ ?_
              refine ops_load tabOk rfl rfl rfl rfl (hc 2 _ rfl) ?_
              refine go 1000 rfl trivial (ops_nil ?_)
              repeat refine x_seq ?_
              refine x_ifd rfl (fun c13 => ?_) (fun c13 => ?_)
              · repeat refine x_seq ?_
                refine x_skip ?_
                repeat refine x_seq ?_
                refine x_block ?_
                repeat refine x_seq ?_
                have hjl : j < s[k].next.length := by omega
                obtain ⟨p9, rfl, hp9⟩ := hnx j hjl
                have hnn := g.next k hlt _ (List.getElem_mem hjl)
                refine x_reg ?_
                refine go 4 rfl ⟨by first | omega | (simp only [inK]; omega), trivial⟩ ?_
                refine ops_load tabOk rfl rfl rfl rfl (hc 2 _ rfl) ?_
                refine go 2 rfl ⟨by first | omega | (simp only [inK]; omega), trivial⟩ ?_
                refine ops_load tabOk rfl rfl rfl rfl hp9 ?_
                refine go 3 rfl trivial ?_
                refine ops_dec 121 rfl (fun c14 => ?_) (fun c14 => ?_)
                · refine go 1000 rfl trivial (ops_nil ?_)
                  repeat refine x_seq ?_
                  refine x_true rfl ?_
                  repeat refine x_seq ?_
                  refine goes rfl trivial ?_
                  repeat refine x_seq ?_
                  exact absurd c14 (by omega)
                · refine go 4 rfl ⟨by first | omega | (simp only [inK]; omega), trivial⟩ ?_
                  refine ops_guard_yes rfl rfl rfl ?_
                  refine ops_load tabOk rfl rfl rfl rfl (hc 2 _ rfl) ?_
                  refine go 2 rfl ⟨by first | omega | (simp only [inK]; omega), trivial⟩ ?_
                  refine ops_guard_yes rfl rfl rfl ?_
                  refine ops_load tabOk rfl rfl rfl rfl hp9 ?_
                  refine go 1000 rfl trivial (ops_nil ?_)
                  repeat refine x_seq ?_
                  refine x_ifd rfl (fun c15 => ?_) (fun c15 => ?_)
                  · repeat refine x_seq ?_
                    refine goes rfl trivial ?_
                    repeat refine x_seq ?_
                    exact absurd c15 (by omega)
                  · repeat refine x_seq ?_
                    refine x_skip ?_
                    refine x_out ?_
                    repeat refine x_seq ?_
                    refine goes rfl ⟨by first | omega | (simp only [inK]; omega), trivial⟩ ?_
                    refine x_next (j + 1) ⟨rfl, rfl, rfl, trivial⟩ ⟨rfl, by omega⟩ (by omega)
              · repeat refine x_seq ?_
                refine x_exit_loop hK6 rfl rfl ?_
                refine x_out ?_
                repeat refine x_seq ?_
                refine goes rfl ⟨by first | omega | (simp only [inK]; omega), trivial⟩ ?_
                refine x_next (k + 1) ⟨rfl, rfl, trivial⟩ ⟨rfl, by omega⟩ (by omega)
            · repeat refine x_seq ?_
              refine x_exit_loop hK5 rfl rfl ?_
              repeat refine x_seq ?_
              refine goes rfl trivial ?_
              repeat refine x_seq ?_
              exact x_ret (at_ret rfl rfl rfl rfl ⟨rfl, rfl⟩ (.inl rfl))

end Go.Proofs.YtmfgiabmmdbmoaaGreatDoor

namespace Go.Proofs.YtmfgiabmmdbmoaaGreatDoor
open Go.Gw Go.Ix Go.Sort

theorem min_if (x y : Int) : (if y < x then y else x) = min x y := by split <;> omega
abbrev cntF (s : List St) (i : Nat) : Int := cntB (words s i)
abbrev lonF (s : List St) (i : Nat) : Int := longI (words s i)
/-- While words are counted: two rows, filled from behind. -/
structure RcI (h : Hp) (bm bl : Nat) (s : List St) (j : Nat) (v w : Int) (h' : Hp) : Prop where
  ext : Ext h h'
  m0 : h.size ≤ bm
  l0 : h.size ≤ bl
  ne : bm ≠ bl
  c1 : h'[bm]? = some (.cells ⟨(rowG (cntF s) s.length j v).map I⟩ 3 (0, 0))
  c2 : h'[bl]? = some (.cells ⟨(rowG (lonF s) s.length j w).map I⟩ 3 (0, 0))
section
variable {h h' h2 : Hp} {bm bl : Nat} {s : List St} {i n : Nat} {v w x : Int}
theorem row_at {F : Nat → Int} {b : Nat} {len : Nat} (hb : h'[b]? = some (.cells ⟨(rowG F len (i + 1) v).map I⟩ 3 (0, 0))) (hi : i < len) : hcell h' ((⟨b, 0, none⟩ : Addr).add (scl i 1)) = some (I v) := by
  rw [scl_eq, Nat.mul_one, add_head, hcell_block hb]
  have := rowG_get (F := F) (j := i + 1) (v := v) hi
  simp [this]
theorem row_past {F : Nat → Int} {b : Nat} {len : Nat} (hb : h'[b]? = some (.cells ⟨(rowG F len (i + 1) v).map I⟩ 3 (0, 0))) (hi : i < n) (hn : n < len) : hcell h' ((⟨b, 0, none⟩ : Addr).add (scl n 1)) = some (I (F n)) := by
  rw [scl_eq, Nat.mul_one, add_head, hcell_block hb]
  have := rowG_get (F := F) (j := i + 1) (v := v) hn
  rw [if_neg (by omega), if_neg (by omega)] at this
  simp [this]
theorem RcI.p1 (r : RcI h bm bl s (i + 1) v w h') (hp : Put h' h2 bm (.cells ⟨(rowG (cntF s) s.length (i + 1) x).map I⟩ 3 (0, 0))) : RcI h bm bl s (i + 1) x w h2 :=
  ⟨Bel.trans r.ext (hp.bel r.m0), r.m0, r.l0, r.ne, hp.get, hp.keep r.c2 (Ne.symm r.ne)⟩
theorem RcI.p2 (r : RcI h bm bl s (i + 1) v w h') (hp : Put h' h2 bl (.cells ⟨(rowG (lonF s) s.length (i + 1) x).map I⟩ 3 (0, 0))) : RcI h bm bl s (i + 1) v x h2 :=
  ⟨Bel.trans r.ext (hp.bel r.l0), r.m0, r.l0, r.ne, hp.keep r.c1 r.ne, hp.get⟩
theorem RcI.back (r : RcI h bm bl s (i + 1) (cntF s i) (lonF s i) h') : RcI h bm bl s i 0 0 h' :=
  ⟨r.ext, r.m0, r.l0, r.ne, by have := r.c1; rwa [rowG_step (F := cntF s)] at this, by have := r.c2; rwa [rowG_step (F := lonF s)] at this⟩
end
theorem cnt_part0 {s : List St} (g : GoodS s) {x : St} (hx : x ∈ s) : x.ends = cntB (partW s x 0) := by
  rw [partW_zero]; rcases g.ends x hx with h | h <;> simp [h, cntB] <;> decide
theorem lon_part0 {s : List St} (g : GoodS s) {x : St} (hx : x ∈ s) : x.ends - 1 = longI (partW s x 0) := by
  rw [partW_zero]; rcases g.ends x hx with h | h <;> simp [h, longI] <;> decide
theorem cnt_rng (L : List Bs) : 0 ≤ cntB L ∧ cntB L ≤ 31 := by unfold cntB; omega
theorem lon_rng {s : List St} (g : GoodS s) : ∀ (m i : Nat), s.length - i = m → i < s.length → longI (words s i) ≤ s.length - i := by
  intro m
  refine Nat.strongRecOn m ?_
  intro m ih i hm hi
  have key : ∀ k, k ≤ s[i].next.length → longI (partW s s[i] k) ≤ s.length - i := by
    intro k
    induction k with
    | zero => intro _; rw [← lon_part0 g (List.getElem_mem hi)]; rcases g.ends _ (List.getElem_mem hi) with h | h <;> omega
    | succ k ihk =>
      intro hk
      have hxl := g.len _ (List.getElem_mem hi)
      rw [partW_succ hxl (by omega) (by omega), longI_app]
      have h1 := ihk (by omega)
      have h2 := g.next i hi _ (List.getElem_mem (show k < s[i].next.length by omega))
      have h3 := ih (s.length - s[i].next[k].toNat) (by omega) s[i].next[k].toNat rfl (by omega)
      split
      · omega
      · exact h1
  rw [words_part g hi]
  exact key _ (Nat.le_refl _)

/-- burin/burinref11.counts -/
theorem ok68 : FnOk Tryz.prog 68 := fnok Tryz.func68 (by kernel_rfl) rfl
set_option maxRecDepth 10000 in
theorem w68 {h : Hp} {v : Value} {s : List St} (g : GoodS s) (hl : Sts h v s) : CallsH Tryz.prog 68 #[v] h (fun r h' => ∃ bm bl, r = .tuple #[.slice (some ⟨bm, 0, none⟩) s.length s.length, .slice (some ⟨bl, 0, none⟩) s.length s.length] ∧ RcI h bm bl s 0 0 0 h') := by
  have g1 := g.lo
  have g2 := g.hi
  have hl0 := hl
  obtain ⟨a, cap, rfl, hcap, hx⟩ := hl
  obtain ⟨q, rfl, nv0, hcs0, hnv0⟩ := hx 0 (by omega)
  refine enter ok68 Tryz.func68 rfl Tryz.ntmps68 (by simp) (fun w0 => ?_)
  repeat refine x_seq ?_
  refine goes rfl trivial ?_
  repeat refine x_seq ?_
  refine x_tree (C := ⟨Tryz.prog, _, _, _, _⟩) (.q 0 (.q 1 (.q 3 (.q 4 (.fork 2 (.q 6 (.act 5 (.q 7 .done))) 5 (.act 2 (.q 6 (.q 7 .done)))))))) (fun E' h' => ∃ bm bl, RcI h bm bl s s.length 0 0 h' ∧ subs E' [(0, .slice (some q) s.length cap), (4, .slice (some ⟨bm, 0, none⟩) s.length s.length), (5, .slice (some ⟨bl, 0, none⟩) s.length s.length)]) mixed (by kernel_rfl) ?_ ?_
  · refine t_pv tabOk rfl rfl (fun _ e => by cases e) rfl ?_
    refine t_pv tabOk rfl rfl (fun _ e => by cases e) rfl ?_
    refine t_pv tabOk rfl rfl (fun _ e => by cases e) rfl ?_
    refine t_pv tabOk rfl rfl (fun _ e => by cases e) rfl ?_
    refine t_fork rfl rfl ?_ ?_
    · refine ops_make tabOk rfl rfl rfl rfl rfl rfl rfl ⟨by omega, by omega, by show (8 : Int) * (s.length : Int) ≤ 281474976710656; omega, by omega⟩ rfl ?_
      intro h1 hn1
      refine ops_nil ?_
      refine t_pv tabOk rfl rfl (fun _ e => by cases e) rfl ?_
      refine t_act rfl ?_
      refine ops_make tabOk rfl rfl rfl rfl rfl rfl rfl ⟨by omega, by omega, by show (8 : Int) * (s.length : Int) ≤ 281474976710656; omega, by omega⟩ rfl ?_
      intro h2 hn2
      refine ops_nil ?_
      refine t_pv tabOk rfl rfl (fun _ e => by cases e) rfl ?_
      refine t_done ?_
      have s1 := hn1.size
      refine ⟨h.size, h1.size, ⟨hn1.ext.trans hn2.ext, Nat.le_refl _, by omega, by omega, ?_, ?_⟩, rfl, rfl, rfl, trivial⟩
      · rw [← rowG_init]; have h9 := hn2.ext.get hn1.get; simpa using h9
      · rw [← rowG_init]; simpa using hn2.get
    · refine ops_make tabOk rfl rfl rfl rfl rfl rfl rfl ⟨by omega, by omega, by show (8 : Int) * (s.length : Int) ≤ 281474976710656; omega, by omega⟩ rfl ?_
      intro h1 hn1
      refine ops_nil ?_
      refine t_act rfl ?_
      refine ops_make tabOk rfl rfl rfl rfl rfl rfl rfl ⟨by omega, by omega, by show (8 : Int) * (s.length : Int) ≤ 281474976710656; omega, by omega⟩ rfl ?_
      intro h2 hn2
      refine ops_nil ?_
      refine t_pv tabOk rfl rfl (fun _ e => by cases e) rfl ?_
      refine t_pv tabOk rfl rfl (fun _ e => by cases e) rfl ?_
      refine t_done ?_
      have s1 := hn1.size
      refine ⟨h1.size, h.size, ⟨hn1.ext.trans hn2.ext, by omega, Nat.le_refl _, by omega, ?_, ?_⟩, rfl, rfl, rfl, trivial⟩
      · rw [← rowG_init]; simpa using hn2.get
      · rw [← rowG_init]; have h9 := hn2.ext.get hn1.get; simpa using h9
  rintro E1 h1 ⟨bm, bl, hL4, hsub⟩
  refine X.weaken (C := ⟨Tryz.prog, _, _, _, _⟩) (subs_sub hsub) ?_
  repeat refine x_seq ?_
  refine goes rfl ⟨by first | omega | (simp only [inK]; omega), trivial⟩ ?_
  repeat refine x_seq ?_
  refine x_block ?_
  repeat refine x_seq ?_
  refine x_loop (fun x : Nat => [(0, .slice (some q) s.length cap), (4, .slice (some ⟨bm, 0, none⟩) s.length s.length), (5, .slice (some ⟨bl, 0, none⟩) s.length s.length), (6, I ((x : Int) - 1))]) (fun x h' => (RcI h bm bl s x 0 0 h') ∧ (x ≤ s.length)) (fun x => x) s.length ⟨rfl, rfl, rfl, rfl, trivial⟩ ⟨hL4, by omega⟩ ?_
  rintro x h5 ⟨hL, hk⟩ K1 hK1
  repeat refine x_seq ?_
  refine goes rfl trivial ?_
  repeat refine x_seq ?_
  refine x_ifd rfl (fun c1 => ?_) (fun c1 => ?_)
  · repeat refine x_seq ?_
    refine x_skip ?_
    repeat refine x_seq ?_
    refine x_block ?_
    repeat refine x_seq ?_
    obtain ⟨i, rfl⟩ : ∃ i, x = i + 1 := ⟨x - 1, by omega⟩
    have hi : i < s.length := by omega
    rw [show (((i + 1 : Nat) : Int) - 1) = (i : Int) from by omega]
    obtain ⟨q', hq', nv, hcs, hnv⟩ := hx i hi
    cases hq'
    obtain ⟨an, cn, rfl, hcn, hnx⟩ := hnv.op
    have hxm : s[i] ∈ s := List.getElem_mem hi
    have hxl := g.len _ hxm
    have hnl := good_next g hxm
    have hpw := words_part g hi
    have hxe := g.ends _ hxm
    refine x_reg ?_
    refine go 6 rfl ⟨by first | omega | (simp only [inK]; omega), trivial⟩ ?_
    refine ops_load tabOk rfl rfl rfl rfl (hL.ext.cell (hcs 0 _ rfl)) ?_
    refine go 1 rfl ⟨by first | omega | (simp only [inK]; omega), trivial⟩ ?_
    refine ops_storeA (b := bm) (o := i) (vs := [I s[i].ends]) (cs' := (rowG (cntF s) s.length (i + 1) s[i].ends).map I) tabOk rfl rfl (by rw [scl_eq, Nat.mul_one, add_head]; rfl) rfl rfl rfl rfl hL.c1 (by rw [List.length_map, rowG_len]; exact hi) (patch_rowG hi) ?_
    intro h6 hp6
    have hL6 := hL.p1 hp6
    rw [cnt_part0 g hxm] at hL6
    refine ops_nil ?_
    repeat refine x_seq ?_
    refine x_reg ?_
    refine go 6 rfl ⟨by first | omega | (simp only [inK]; omega), trivial⟩ ?_
    refine ops_load tabOk rfl rfl rfl rfl (hL6.ext.cell (hcs 0 _ rfl)) ?_
    refine go 2 rfl ⟨by first | omega | (simp only [inK]; omega), by first | omega | (simp only [inK]; omega), trivial⟩ ?_
    refine ops_storeA (b := bl) (o := i) (vs := [I (s[i].ends - 1)]) (cs' := (rowG (lonF s) s.length (i + 1) (s[i].ends - 1)).map I) tabOk rfl rfl (by rw [scl_eq, Nat.mul_one, add_head]; rfl) rfl rfl rfl rfl hL6.c2 (by rw [List.length_map, rowG_len]; exact hi) (patch_rowG hi) ?_
    intro h7 hp7
    have hL7 := hL6.p2 hp7
    rw [lon_part0 g hxm] at hL7
    refine ops_nil ?_
    repeat refine x_seq ?_
    refine goes rfl trivial ?_
    repeat refine x_seq ?_
    refine x_block ?_
    repeat refine x_seq ?_
    refine x_loop (fun k : Nat => [(0, .slice (some q) s.length cap), (4, .slice (some ⟨bm, 0, none⟩) s.length s.length), (5, .slice (some ⟨bl, 0, none⟩) s.length s.length), (6, I i), (7, I k)]) (fun k h' => (RcI h bm bl s (i + 1) (cntB (partW s s[i] k)) (longI (partW s s[i] k)) h') ∧ (k ≤ s[i].next.length)) (fun k => s[i].next.length - k) 0 ⟨rfl, rfl, rfl, rfl, rfl, trivial⟩ ⟨hL7, by omega⟩ ?_
    rintro k h8 ⟨hL8, hk8⟩ K2 hK2
    repeat refine x_seq ?_
    refine x_reg ?_
    refine go 5 rfl ⟨by first | omega | (simp only [inK]; omega), trivial⟩ ?_
    refine ops_load tabOk rfl rfl rfl rfl (hL8.ext.cell (hcs 2 _ rfl)) ?_
    refine go 1000 rfl trivial (ops_nil ?_)
    repeat refine x_seq ?_
    refine x_ifd rfl (fun c2 => ?_) (fun c2 => ?_)
    · repeat refine x_seq ?_
      refine x_skip ?_
      repeat refine x_seq ?_
      refine x_block ?_
      repeat refine x_seq ?_
      have hlt : k < s[i].next.length := by omega
      obtain ⟨p9, rfl, hp9⟩ := hnx k hlt
      have hnn := g.next i hi _ (List.getElem_mem hlt)
      obtain ⟨n, hn⟩ : ∃ n : Nat, s[i].next[k] = (n : Int) := ⟨s[i].next[k].toNat, (Int.toNat_of_nonneg (by omega)).symm⟩
      have hnlt : n < s.length := by omega
      have hin : i < n := by omega
      have hn9 : s[i].next[k].toNat = n := by omega
      have hq1 : 0 ≤ cntF s n ∧ cntF s n ≤ 31 := cnt_rng (words s n)
      have hq2 := cnt_rng (partW s s[i] k)
      have hq3 : lonF s n ≤ s.length - n := lon_rng g _ n rfl hnlt
      have hq4 : -1 ≤ lonF s n := longI_ge (words s n)
      have hps := partW_succ (s := s) hxl hlt (by omega)
      refine x_reg ?_
      refine go 4 rfl ⟨by first | omega | (simp only [inK]; omega), trivial⟩ ?_
      refine ops_load tabOk rfl rfl rfl rfl (hL8.ext.cell (hcs 2 _ rfl)) ?_
      refine go 2 rfl ⟨by first | omega | (simp only [inK]; omega), trivial⟩ ?_
      refine ops_load tabOk rfl rfl rfl rfl (show hcell h8 _ = some (I (n : Int)) from by rw [← hn]; exact hL8.ext.cell hp9) ?_
      refine go 1000 rfl trivial (ops_nil ?_)
      repeat refine x_seq ?_
      refine x_draw [(0, true), (1, true), (2, true), (3, true), (4, true), (5, true), (6, true), (7, true), (8, true), (9, true), (10, true), (11, true), (12, true)] [13] (· = _) mixed (by kernel_rfl) rfl rfl rfl ?_
      refine sgo 5 rfl ⟨by first | omega | (simp only [inK]; omega), trivial⟩ ?_
      refine seq_load tabOk rfl rfl rfl rfl (by rintro _ rfl; exact (row_at hL8.c1 hi)) ?_
      refine sgo 3 rfl ⟨by first | omega | (simp only [inK]; omega), trivial⟩ ?_
      refine seq_load tabOk rfl rfl rfl rfl (by rintro _ rfl; exact (show hcell _ _ = some (I (cntF s n)) from row_past hL8.c1 hin hnlt)) ?_
      refine sgo 1000 rfl ⟨by first | omega | (simp only [inK]; omega), by first | omega | (simp only [inK]; omega), trivial⟩ (seq_tail ?_)
      refine ops_storeA (b := bm) (o := i) (vs := [I (if cntB (partW s s[i] k) + cntF s n < 31 then cntB (partW s s[i] k) + cntF s n else 31)]) (cs' := (rowG (cntF s) s.length (i + 1) (cntB (partW s s[i] (k + 1)))).map I) tabOk rfl rfl (by rw [scl_eq, Nat.mul_one, add_head]; rfl) rfl rfl rfl rfl hL8.c1 (by rw [List.length_map, rowG_len]; exact hi) (by rw [min_if, hps, cntB_app, hn9]; exact patch_rowG hi) ?_
      intro h9 hp9b
      have hL9 := hL8.p1 hp9b
      refine ops_nil ?_
      repeat refine x_seq ?_
      refine x_reg ?_
      refine go 3 rfl ⟨by first | omega | (simp only [inK]; omega), trivial⟩ ?_
      refine ops_load tabOk rfl rfl rfl rfl (show hcell _ _ = some (I (lonF s n)) from row_past hL9.c2 hin hnlt) ?_
      refine go 1000 rfl trivial (ops_nil ?_)
      repeat refine x_seq ?_
      refine x_ifd rfl (fun c3 => ?_) (fun c3 => ?_)
      · repeat refine x_seq ?_
        refine x_draw [(0, true), (1, true), (2, true), (3, true), (4, true), (5, true), (6, true), (7, true), (8, true), (9, true), (10, true), (11, true), (12, true)] [13] (· = _) mixed (by kernel_rfl) rfl rfl rfl ?_
        refine sgo 5 rfl ⟨by first | omega | (simp only [inK]; omega), trivial⟩ ?_
        refine seq_load tabOk rfl rfl rfl rfl (by rintro _ rfl; exact (row_at hL9.c2 hi)) ?_
        refine sgo 3 rfl ⟨by first | omega | (simp only [inK]; omega), trivial⟩ ?_
        refine seq_load tabOk rfl rfl rfl rfl (by rintro _ rfl; exact (show hcell _ _ = some (I (lonF s n)) from row_past hL9.c2 hin hnlt)) ?_
        refine sgo 1000 rfl ⟨by first | omega | (simp only [inK]; omega), by first | omega | (simp only [inK]; omega), trivial⟩ (seq_tail ?_)
        refine ops_storeA (b := bl) (o := i) (vs := [I (if 1 + lonF s n > longI (partW s s[i] k) then 1 + lonF s n else longI (partW s s[i] k))]) (cs' := (rowG (lonF s) s.length (i + 1) (longI (partW s s[i] (k + 1)))).map I) tabOk rfl rfl (by rw [scl_eq, Nat.mul_one, add_head]; rfl) rfl rfl rfl rfl hL9.c2 (by rw [List.length_map, rowG_len]; exact hi) (by rw [max_if, hps, longI_app, hn9, if_pos (show 0 ≤ longI (words s n) from c3)]; exact patch_rowG hi) ?_
        intro ha hpa
        have hLa := hL9.p2 hpa
        refine ops_nil ?_
        refine x_out ?_
        repeat refine x_seq ?_
        refine goes rfl ⟨by first | omega | (simp only [inK]; omega), trivial⟩ ?_
        refine x_next (k + 1) ⟨rfl, rfl, rfl, rfl, rfl, trivial⟩ ⟨hLa, by omega⟩ (by omega)
      · repeat refine x_seq ?_
        refine x_skip ?_
        refine x_out ?_
        repeat refine x_seq ?_
        refine goes rfl ⟨by first | omega | (simp only [inK]; omega), trivial⟩ ?_
        refine x_next (k + 1) ⟨rfl, rfl, rfl, rfl, rfl, trivial⟩ ⟨by rw [show longI (partW s s[i] (k + 1)) = longI (partW s s[i] k) from by rw [hps, longI_app, hn9, if_neg (show ¬ 0 ≤ longI (words s n) from c3)]]; exact hL9, by omega⟩ (by omega)
    · repeat refine x_seq ?_
      refine x_exit_loop hK2 rfl rfl ?_
      refine x_out ?_
      repeat refine x_seq ?_
      refine goes rfl ⟨by first | omega | (simp only [inK]; omega), trivial⟩ ?_
      refine x_next i ⟨rfl, rfl, rfl, rfl, trivial⟩ ⟨by rw [show s[i].next.length = k from by omega] at hpw; rw [← hpw] at hL8; exact hL8.back, by omega⟩ (by show i < i + 1; omega)
  · repeat refine x_seq ?_
    refine x_exit_loop hK1 rfl rfl ?_
    repeat refine x_seq ?_
    refine goes rfl trivial ?_
    repeat refine x_seq ?_
    exact x_ret (at_ret rfl rfl rfl rfl ⟨bm, bl, rfl, by rw [show x = 0 by omega] at hL; exact hL⟩ (.inl rfl))

end Go.Proofs.YtmfgiabmmdbmoaaGreatDoor

namespace Go.Proofs.YtmfgiabmmdbmoaaGreatDoor
open Go.Gw Go.Ix Go.Sort

theorem row_done {h : Hp} {b len n : Nat} {F : Nat → Int} (hb : h[b]? = some (.cells ⟨(List.range len).map fun i => I (F i)⟩ 3 (0, 0))) (hn : n < len) : hcell h ((⟨b, 0, none⟩ : Addr).add (scl n 1)) = some (I (F n)) := by
  rw [scl_eq, Nat.mul_one, add_head, hcell_block hb]; simp [hn]
theorem cnt_zero {L : List Bs} : cntB L = 0 ↔ L = [] := by
  unfold cntB
  constructor
  · intro h; exact List.eq_nil_of_length_eq_zero (by omega)
  · rintro rfl; rfl

/-- burin/burinref11.read -/
theorem ok69 : FnOk Tryz.prog 69 := fnok Tryz.func69 (by kernel_rfl) rfl
set_option maxRecDepth 10000 in
theorem w69 {s : List St} {vs : Value} {bm : Nat} (g : GoodS s) : ∀ (m i : Nat) (_ : i < s.length) (_ : s.length - i = m) (w : Bs) (h : Hp) (_ : Sts h vs s) (_ : h[bm]? = some (.cells ⟨(List.range s.length).map fun i => I (cntF s i)⟩ 3 (0, 0))) (_ : w.length + (s.length - i) ≤ 1000000) (_ : (words s i).length ≤ 1000), CallsH Tryz.prog 69 #[vs, .slice (some ⟨bm, 0, none⟩) s.length s.length, I i, S w] h (fun r h' => Own h.size h' 9 1 r (words s i).length (((words s i).map (w ++ ·)).map S) ∧ Ext h h') := by
  intro m
  refine Nat.strongRecOn m ?_
  intro m ih i hi hm w h hl hrow hw hcnt
  have g1 := g.lo
  have g2 := g.hi
  have hl0 := hl
  obtain ⟨a, cap, rfl, hcap, hx⟩ := hl
  obtain ⟨q, rfl, nv, hcs, hnv⟩ := hx i hi
  obtain ⟨an, cn, rfl, hcn, hnx⟩ := hnv.op
  have hxm : s[i] ∈ s := List.getElem_mem hi
  have hxl := g.len _ hxm
  have hnl := good_next g hxm
  have hpw := words_part g hi
  have hp0 := partW_le (s := s) hxl (Nat.zero_le _)
  rw [← hpw] at hp0
  refine enter ok69 Tryz.func69 rfl Tryz.ntmps69 (by simp) (fun w0 => ?_)
  repeat refine x_seq ?_
  refine goes rfl trivial ?_
  repeat refine x_seq ?_
  refine goes rfl trivial ?_
  repeat refine x_seq ?_
  refine x_reg ?_
  refine go 3 rfl ⟨by first | omega | (simp only [inK]; omega) | (simp only [List.length_drop, List.length_take]; omega), trivial⟩ ?_
  refine ops_load tabOk rfl rfl rfl rfl (row_done hrow hi) ?_
  refine go 1000 rfl trivial (ops_nil ?_)
  repeat refine x_seq ?_
  refine x_ifd rfl (fun c1 => ?_) (fun c1 => ?_)
  · repeat refine x_seq ?_
    refine goes rfl trivial ?_
    repeat refine x_seq ?_
    exact x_ret (at_ret rfl rfl rfl rfl ⟨by rw [cnt_zero.1 (show cntB (words s i) = 0 from c1)]; exact Own.nil _ _ _ _, Ext.refl _⟩ (.inl rfl))
  · repeat refine x_seq ?_
    refine x_skip ?_
    repeat refine x_seq ?_
    refine x_reg ?_
    refine go 4 rfl ⟨by first | omega | (simp only [inK]; omega) | (simp only [List.length_drop, List.length_take]; omega), trivial⟩ ?_
    refine ops_load tabOk rfl rfl rfl rfl (hcs 0 _ rfl) ?_
    refine go 1000 rfl trivial (ops_nil ?_)
    repeat refine x_seq ?_
    refine x_ifd rfl (fun c2 => ?_) (fun c2 => ?_)
    · repeat refine x_seq ?_
      refine x_reg ?_
      refine go 2 rfl trivial ?_
      refine ops_buildSlice (cs := [S w]) tabOk rfl rfl rfl rfl rfl rfl rfl rfl rfl ?_
      intro h2 hn2
      refine ops_append (B := h.size) (n := 0) (xs := []) tabOk rfl rfl rfl rfl rfl rfl rfl rfl (Own.nil _ _ _ _) (new_app hn2 rfl) rfl ⟨by omega, show _ * 16 ≤ _ by omega⟩ (by have := hn2.size; omega) rfl ?_
      intro v3 h3 ho3 hg3 _
      have hb3 : Bel h.size h2 h3 := (Own.nil h.size h2 9 1).bel hg3 (by have := hn2.size; omega)
      have he3 : Ext h h3 := Bel.trans hn2.ext hb3
      have ho3' : Own h.size h3 9 1 v3 (partW s s[i] 0).length (((partW s s[i] 0).map (w ++ ·)).map S) := by rw [partW_zero, if_pos (show s[i].ends = 1 from c2)]; simpa using ho3
      refine go 1000 rfl trivial (ops_nil ?_)
      repeat refine x_seq ?_
      refine goes rfl trivial ?_
      repeat refine x_seq ?_
      refine x_block ?_
      repeat refine x_seq ?_
      refine x_loop (fun x : Nat × Value => [(0, .slice (some q) s.length cap), (1, .slice (some ⟨bm, 0, none⟩) s.length s.length), (2, I i), (3, S w), (9, x.2), (10, I x.1)]) (fun x h' => (Ext h h' ∧ Own h.size h' 9 1 x.2 (partW s s[i] x.1).length (((partW s s[i] x.1).map (w ++ ·)).map S)) ∧ (x.1 ≤ s[i].next.length)) (fun x => s[i].next.length - x.1) (0, v3) ⟨rfl, rfl, rfl, rfl, rfl, rfl, trivial⟩ ⟨⟨he3, ho3'⟩, by simp⟩ ?_
      rintro ⟨k, vo⟩ h5 ⟨⟨he5, ho5⟩, hk⟩ K1 hK1
      dsimp only at ho5 hk ⊢
      repeat refine x_seq ?_
      refine x_reg ?_
      refine go 5 rfl ⟨by first | omega | (simp only [inK]; omega) | (simp only [List.length_drop, List.length_take]; omega), trivial⟩ ?_
      refine ops_load tabOk rfl rfl rfl rfl (he5.cell (hcs 2 _ rfl)) ?_
      refine go 1000 rfl trivial (ops_nil ?_)
      repeat refine x_seq ?_
      refine x_ifd rfl (fun c3 => ?_) (fun c3 => ?_)
      · repeat refine x_seq ?_
        refine x_skip ?_
        repeat refine x_seq ?_
        refine x_block ?_
        repeat refine x_seq ?_
        have hlt : k < s[i].next.length := by omega
        obtain ⟨p9, rfl, hp9⟩ := hnx k hlt
        have hnn := g.next i hi _ (List.getElem_mem hlt)
        obtain ⟨n, hn⟩ : ∃ n : Nat, s[i].next[k] = (n : Int) := ⟨s[i].next[k].toNat, (Int.toNat_of_nonneg (by omega)).symm⟩
        have hnlt : n < s.length := by omega
        have hn9 : s[i].next[k].toNat = n := by omega
        have hps := partW_succ (s := s) hxl hlt (by omega)
        have hple := partW_le (s := s) hxl (show k + 1 ≤ s[i].next.length by omega)
        rw [hps, List.length_append, List.length_map, hn9, ← hpw] at hple
        refine x_draw [(0, true), (1, true), (2, true), (3, true), (4, true), (5, true), (6, true), (7, true), (8, true), (9, true), (10, true), (11, true), (12, true), (13, true), (14, true), (15, true), (16, true), (17, true), (18, true), (19, true), (20, true), (21, true), (22, false), (23, false), (24, true)] [] (fun (h9 : Hp) => Ext h h9) mixed (by kernel_rfl) rfl rfl he5 ?_
        refine sgo 7 rfl ⟨by first | omega | (simp only [inK]; omega) | (simp only [List.length_drop, List.length_take]; omega), trivial⟩ ?_
        refine seq_load tabOk rfl rfl rfl rfl (fun _ e => e.cell (hcs 2 _ rfl)) ?_
        refine sgo 2 rfl ⟨by first | omega | (simp only [inK]; omega) | (simp only [List.length_drop, List.length_take]; omega), trivial⟩ ?_
        refine seq_load tabOk rfl rfl rfl rfl (fun _ e => (show hcell _ _ = some (I (n : Int)) from by rw [← hn]; exact e.cell hp9)) ?_
        refine sgo 5 rfl ⟨by first | omega | (simp only [inK]; omega) | (simp only [List.length_drop, List.length_take]; omega), trivial⟩ ?_
        refine seq_load tabOk rfl rfl rfl rfl (fun _ e => e.cell (hcs 1 _ rfl)) ?_
        refine sgo 5 rfl ⟨by first | omega | (simp only [inK]; omega) | (simp only [List.length_drop, List.length_take]; omega), by first | omega | (simp only [inK]; omega) | (simp only [List.length_drop, List.length_take]; omega), by first | omega | (simp only [inK]; omega) | (simp only [List.length_drop, List.length_take]; omega), trivial⟩ ?_
        refine seq_act (ops_call rfl rfl rfl (show CallsH Tryz.prog 69 #[.slice (some q) s.length cap, .slice (some ⟨bm, 0, none⟩) s.length s.length, I (n : Int), S (w ++ (s[i].letters.take ((k : Int) + 1).toNat).drop (k : Int).toNat)] h5 (fun r h' => Own h5.size h' 9 1 r (words s n).length (((words s n).map ((w ++ [s[i].letters[k]'(by omega)]) ++ ·)).map S) ∧ Ext h5 h') from by rw [slice1 (by omega)]; exact ih (s.length - n) (by omega) n hnlt rfl _ h5 (hl0.ext he5) (he5.get hrow) (by rw [List.length_append, List.length_singleton]; omega) (by have := partW_le (s := s) hxl (show k + 1 ≤ s[i].next.length by omega); rw [hps, List.length_append, List.length_map, hn9, ← hpw] at this; omega)) ?_)
        rintro v6 h6 ⟨ho6, he6⟩
        have h9a := ho6.sl.app
        rw [List.length_map, List.length_map] at h9a
        refine ops_nil ⟨he5.trans he6, ?_⟩
        refine seq_act (ops_append (m := (words s n).length) (news := ((words s n).map ((w ++ [s[i].letters[k]'(by omega)]) ++ ·)).map S) tabOk rfl rfl rfl rfl rfl rfl rfl rfl (ho5.ext he6) (by simpa only [List.length_map] using h9a) (all_one_S _) ⟨by omega, show _ * 16 ≤ _ by omega⟩ (by have := he5.size; have := he6.size; omega) rfl ?_)
        intro v7 h7 ho7 hg7 _
        have he7 : Ext h h7 := Bel.trans (he5.trans he6) ((ho5.ext he6).bel hg7 (by have := he5.size; have := he6.size; omega))
        refine ops_nil ⟨he7, ?_⟩
        refine sgo 1000 rfl trivial (seq_tail ?_)
        refine ops_nil ?_
        refine x_out ?_
        repeat refine x_seq ?_
        refine goes rfl ⟨by first | omega | (simp only [inK]; omega) | (simp only [List.length_drop, List.length_take]; omega), trivial⟩ ?_
        refine x_next (k + 1, v7) ⟨rfl, rfl, rfl, rfl, rfl, rfl, trivial⟩ ⟨⟨he7, by show Own h.size _ 9 1 v7 (partW s s[i] (k + 1)).length _; rw [hps]; simpa [Function.comp_def, hn9] using ho7⟩, by show k + 1 ≤ _; omega⟩ (by show s[i].next.length - (k + 1) < s[i].next.length - k; omega)
      · repeat refine x_seq ?_
        refine x_exit_loop hK1 rfl rfl ?_
        repeat refine x_seq ?_
        refine goes rfl trivial ?_
        repeat refine x_seq ?_
        exact x_ret (at_ret rfl rfl rfl rfl ⟨by rw [hpw, show s[i].next.length = k from by omega]; exact ho5, he5⟩ (.inl rfl))
    · repeat refine x_seq ?_
      refine x_skip ?_
      repeat refine x_seq ?_
      refine goes rfl trivial ?_
      repeat refine x_seq ?_
      refine x_block ?_
      repeat refine x_seq ?_
      refine x_loop (fun x : Nat × Value => [(0, .slice (some q) s.length cap), (1, .slice (some ⟨bm, 0, none⟩) s.length s.length), (2, I i), (3, S w), (9, x.2), (10, I x.1)]) (fun x h' => (Ext h h' ∧ Own h.size h' 9 1 x.2 (partW s s[i] x.1).length (((partW s s[i] x.1).map (w ++ ·)).map S)) ∧ (x.1 ≤ s[i].next.length)) (fun x => s[i].next.length - x.1) (0, .slice none 0 0) ⟨rfl, rfl, rfl, rfl, rfl, rfl, trivial⟩ ⟨⟨Ext.refl _, by show Own h.size h 9 1 (.slice none 0 0) (partW s s[i] 0).length _; rw [partW_zero, if_neg (show ¬ s[i].ends = 1 from c2)]; exact Own.nil _ _ _ _⟩, by simp⟩ ?_
      rintro ⟨k, vo⟩ h5 ⟨⟨he5, ho5⟩, hk⟩ K2 hK2
      dsimp only at ho5 hk ⊢
      repeat refine x_seq ?_
      refine x_reg ?_
      refine go 5 rfl ⟨by first | omega | (simp only [inK]; omega) | (simp only [List.length_drop, List.length_take]; omega), trivial⟩ ?_
      refine ops_load tabOk rfl rfl rfl rfl (he5.cell (hcs 2 _ rfl)) ?_
      refine go 1000 rfl trivial (ops_nil ?_)
      repeat refine x_seq ?_
      refine x_ifd rfl (fun c4 => ?_) (fun c4 => ?_)
      · repeat refine x_seq ?_
        refine x_skip ?_
        repeat refine x_seq ?_
        refine x_block ?_
        repeat refine x_seq ?_
        have hlt : k < s[i].next.length := by omega
        obtain ⟨p9, rfl, hp9⟩ := hnx k hlt
        have hnn := g.next i hi _ (List.getElem_mem hlt)
        obtain ⟨n, hn⟩ : ∃ n : Nat, s[i].next[k] = (n : Int) := ⟨s[i].next[k].toNat, (Int.toNat_of_nonneg (by omega)).symm⟩
        have hnlt : n < s.length := by omega
        have hn9 : s[i].next[k].toNat = n := by omega
        have hps := partW_succ (s := s) hxl hlt (by omega)
        have hple := partW_le (s := s) hxl (show k + 1 ≤ s[i].next.length by omega)
        rw [hps, List.length_append, List.length_map, hn9, ← hpw] at hple
        refine x_draw [(0, true), (1, true), (2, true), (3, true), (4, true), (5, true), (6, true), (7, true), (8, true), (9, true), (10, true), (11, true), (12, true), (13, true), (14, true), (15, true), (16, true), (17, true), (18, true), (19, true), (20, true), (21, true), (22, false), (23, false), (24, true)] [] (fun (h9 : Hp) => Ext h h9) mixed (by kernel_rfl) rfl rfl he5 ?_
        refine sgo 7 rfl ⟨by first | omega | (simp only [inK]; omega) | (simp only [List.length_drop, List.length_take]; omega), trivial⟩ ?_
        refine seq_load tabOk rfl rfl rfl rfl (fun _ e => e.cell (hcs 2 _ rfl)) ?_
        refine sgo 2 rfl ⟨by first | omega | (simp only [inK]; omega) | (simp only [List.length_drop, List.length_take]; omega), trivial⟩ ?_
        refine seq_load tabOk rfl rfl rfl rfl (fun _ e => (show hcell _ _ = some (I (n : Int)) from by rw [← hn]; exact e.cell hp9)) ?_
        refine sgo 5 rfl ⟨by first | omega | (simp only [inK]; omega) | (simp only [List.length_drop, List.length_take]; omega), trivial⟩ ?_
        refine seq_load tabOk rfl rfl rfl rfl (fun _ e => e.cell (hcs 1 _ rfl)) ?_
        refine sgo 5 rfl ⟨by first | omega | (simp only [inK]; omega) | (simp only [List.length_drop, List.length_take]; omega), by first | omega | (simp only [inK]; omega) | (simp only [List.length_drop, List.length_take]; omega), by first | omega | (simp only [inK]; omega) | (simp only [List.length_drop, List.length_take]; omega), trivial⟩ ?_
        refine seq_act (ops_call rfl rfl rfl (show CallsH Tryz.prog 69 #[.slice (some q) s.length cap, .slice (some ⟨bm, 0, none⟩) s.length s.length, I (n : Int), S (w ++ (s[i].letters.take ((k : Int) + 1).toNat).drop (k : Int).toNat)] h5 (fun r h' => Own h5.size h' 9 1 r (words s n).length (((words s n).map ((w ++ [s[i].letters[k]'(by omega)]) ++ ·)).map S) ∧ Ext h5 h') from by rw [slice1 (by omega)]; exact ih (s.length - n) (by omega) n hnlt rfl _ h5 (hl0.ext he5) (he5.get hrow) (by rw [List.length_append, List.length_singleton]; omega) (by have := partW_le (s := s) hxl (show k + 1 ≤ s[i].next.length by omega); rw [hps, List.length_append, List.length_map, hn9, ← hpw] at this; omega)) ?_)
        rintro v6 h6 ⟨ho6, he6⟩
        have h9a := ho6.sl.app
        rw [List.length_map, List.length_map] at h9a
        refine ops_nil ⟨he5.trans he6, ?_⟩
        refine seq_act (ops_append (m := (words s n).length) (news := ((words s n).map ((w ++ [s[i].letters[k]'(by omega)]) ++ ·)).map S) tabOk rfl rfl rfl rfl rfl rfl rfl rfl (ho5.ext he6) (by simpa only [List.length_map] using h9a) (all_one_S _) ⟨by omega, show _ * 16 ≤ _ by omega⟩ (by have := he5.size; have := he6.size; omega) rfl ?_)
        intro v7 h7 ho7 hg7 _
        have he7 : Ext h h7 := Bel.trans (he5.trans he6) ((ho5.ext he6).bel hg7 (by have := he5.size; have := he6.size; omega))
        refine ops_nil ⟨he7, ?_⟩
        refine sgo 1000 rfl trivial (seq_tail ?_)
        refine ops_nil ?_
        refine x_out ?_
        repeat refine x_seq ?_
        refine goes rfl ⟨by first | omega | (simp only [inK]; omega) | (simp only [List.length_drop, List.length_take]; omega), trivial⟩ ?_
        refine x_next (k + 1, v7) ⟨rfl, rfl, rfl, rfl, rfl, rfl, trivial⟩ ⟨⟨he7, by show Own h.size _ 9 1 v7 (partW s s[i] (k + 1)).length _; rw [hps]; simpa [Function.comp_def, hn9] using ho7⟩, by show k + 1 ≤ _; omega⟩ (by show s[i].next.length - (k + 1) < s[i].next.length - k; omega)
      · repeat refine x_seq ?_
        refine x_exit_loop hK2 rfl rfl ?_
        repeat refine x_seq ?_
        refine goes rfl trivial ?_
        repeat refine x_seq ?_
        exact x_ret (at_ret rfl rfl rfl rfl ⟨by rw [hpw, show s[i].next.length = k from by omega]; exact ho5, he5⟩ (.inl rfl))

/-- burin/burinref11.Names -/
theorem ok48 : FnOk Tryz.prog 48 := fnok Tryz.func48 (by kernel_rfl) rfl
set_option maxRecDepth 10000 in
theorem w48 {h : Hp} {v : Value} {s : List St} {l : List Bs} (r : Reads s l) (hl : Sts h v s) : CallsH Tryz.prog 48 #[v] h (fun r h' => ∃ rv, r = .tuple #[rv, I 0] ∧ Strs h' rv l ∧ Ext h h') := by
  have g := r.good
  have g1 := g.lo
  have g2 := g.hi
  have hl0 := hl
  obtain ⟨a, cap, rfl, hcap, hx⟩ := hl
  obtain ⟨q, rfl, nv, hcs, hnv⟩ := hx 0 g1
  refine enter ok48 Tryz.func48 rfl Tryz.ntmps48 (by simp) (fun w0 => ?_)
  repeat refine x_seq ?_
  refine goes rfl trivial ?_
  repeat refine x_seq ?_
  refine x_reg ?_
  refine go 1 rfl trivial ?_
  refine ops_call rfl rfl rfl (w47 r.good hl0) ?_
  rintro _ hq ⟨rfl, e9⟩
  obtain rfl := e9.symm
  refine go 1000 rfl trivial (ops_nil ?_)
  repeat refine x_seq ?_
  refine x_ifd rfl (fun c1 => ?_) (fun c1 => ?_)
  · repeat refine x_seq ?_
    refine x_reg ?_
    refine go 1 rfl trivial ?_
    refine ops_call rfl rfl rfl (w47 r.good hl0) ?_
    rintro _ hq ⟨rfl, e9⟩
    obtain rfl := e9.symm
    refine go 1000 rfl trivial (ops_nil ?_)
    repeat refine x_seq ?_
    exact absurd rfl c1
  · repeat refine x_seq ?_
    refine x_skip ?_
    repeat refine x_seq ?_
    refine x_reg ?_
    refine go 1 rfl trivial ?_
    refine ops_call rfl rfl rfl (w68 r.good hl0) ?_
    rintro _ h2 ⟨bm, bl, rfl, hR⟩
    have hr1 := hR.c1
    have hr2 := hR.c2
    rw [rowG_done] at hr1 hr2
    refine go 1000 rfl trivial (ops_nil ?_)
    repeat refine x_seq ?_
    have hq1 : cntF s 0 ≤ 30 := by show cntB (words s 0) ≤ 30; rw [r.is]; unfold cntB; have := r.ok.few; omega
    have hq2 : lonF s 0 ≤ 10 := by show longI (words s 0) ≤ 10; rw [r.is]; exact longI_le (n := 10) r.ok.short
    refine x_reg ?_
    refine go 2 rfl ⟨by first | omega | (simp only [inK]; omega), trivial⟩ ?_
    refine ops_load tabOk rfl rfl rfl rfl (show hcell _ _ = some (I (cntF s 0)) from row_done hr1 g1) ?_
    refine go 2 rfl trivial ?_
    refine ops_dec 20 rfl (fun c2 => ?_) (fun c2 => ?_)
    · refine go 1000 rfl trivial (ops_nil ?_)
      repeat refine x_seq ?_
      refine x_true rfl ?_
      repeat refine x_seq ?_
      refine goes rfl trivial ?_
      repeat refine x_seq ?_
      exact absurd c2 (by omega)
    · refine go 2 rfl ⟨by first | omega | (simp only [inK]; omega), trivial⟩ ?_
      refine ops_guard_yes rfl rfl rfl ?_
      refine ops_load tabOk rfl rfl rfl rfl (show hcell _ _ = some (I (lonF s 0)) from row_done hr2 g1) ?_
      refine go 3 rfl trivial ?_
      refine ops_dec 26 rfl (fun c3 => ?_) (fun c3 => ?_)
      · refine go 1000 rfl trivial (ops_nil ?_)
        repeat refine x_seq ?_
        refine x_true rfl ?_
        repeat refine x_seq ?_
        refine goes rfl trivial ?_
        repeat refine x_seq ?_
        exact absurd c3 (by omega)
      · refine go 3 rfl ⟨by first | omega | (simp only [inK]; omega), trivial⟩ ?_
        refine ops_guard_yes rfl rfl rfl ?_
        refine ops_load tabOk rfl rfl rfl rfl (hR.ext.cell (hcs 0 _ rfl)) ?_
        refine go 1000 rfl trivial (ops_nil ?_)
        repeat refine x_seq ?_
        refine x_ifd rfl (fun c4 => ?_) (fun c4 => ?_)
        · repeat refine x_seq ?_
          refine goes rfl trivial ?_
          repeat refine x_seq ?_
          exact absurd (show s[0].ends = 1 from c4) (ends0 r)
        · repeat refine x_seq ?_
          refine x_skip ?_
          repeat refine x_seq ?_
          refine x_reg ?_
          refine go 2 rfl trivial ?_
          refine ops_call rfl rfl rfl (w69 g s.length 0 (by omega) rfl [] h2 (hl0.ext hR.ext) hr1 (by simp; omega) (by rw [r.is]; have := r.ok.few; omega)) ?_
          rintro v3 h3 ⟨ho3, he3⟩
          rw [show (words s 0).map (([] : Bs) ++ ·) = l from by rw [r.is]; simp] at ho3
          refine go 1000 rfl trivial (ops_nil ?_)
          repeat refine x_seq ?_
          exact x_ret (at_ret rfl rfl rfl rfl ⟨v3, rfl, ho3.sl, hR.ext.trans he3⟩ (.inl rfl))

end Go.Proofs.YtmfgiabmmdbmoaaGreatDoor
