/-
  A part of the proofs of the laws of the index: what the functions of this program compute. Conditions: none beyond those that its theorems name.
-/
import Derived.Test.YtmfgiabmmdbmoaaGreatDoorGwLaw5
import Derived.Test.YtmfgiabmmdbmoaaGreatDoorGwLaw6
import Derived.Test.YtmfgiabmmdbmoaaGreatDoorGwIx9
namespace Go.Proofs.YtmfgiabmmdbmoaaGreatDoor
open Go.Gw Go.Ix Go.Sort

theorem longer_states {c : UInt8} {l : List Bs} (hc : lett c = true) (ok : Ok l) (okm : Ok (front c l)) (hl : l ≠ []) :
    ∃ T, statesL (front c l) = T ∧ T.length = (statesL l).length + 1 ∧ (∀ h : 0 < T.length, T[0] = ⟨0, [c], [1]⟩) ∧ (∀ k (hk : k < (statesL l).length) (hk' : k + 1 < T.length), T[k + 1] = upS (statesL l)[k]) :=
  ⟨_, states_front hc ok okm hl, by simp, fun _ => rfl, fun k hk hk' => by simp⟩
theorem next_small {l : List Bs} (ok : Ok l) {k j : Nat} (hk : k < (statesL l).length) (hj : j < (statesL l)[k].next.length) : 0 ≤ (statesL l)[k].next[j] ∧ (statesL l)[k].next[j] < (statesL l).length := by
  have := (good_states ok).next k hk _ (List.getElem_mem hj)
  omega
theorem front_take {c : UInt8} {l : List Bs} {k : Nat} (hk : k < l.length) : front c (l.take (k + 1)) = front c (l.take k) ++ [c :: l[k]] := by
  unfold front; rw [take_snoc hk, List.map_append]; rfl

/-- burin/burinlaw11.IndexLonger -/
theorem ok6 : FnOk Tryz.prog 6 := fnok Tryz.func6 (by kernel_rfl) rfl
set_option maxRecDepth 10000 in
theorem w6 {h : Hp} {v : Value} {l : List Bs} (letter : Nat) (hlc : letter ≤ 255) (hl : Strs h v l) : CallsH Tryz.prog 6 #[v, .int .u8 (letter : Int)] h (fun r h' => r = .bool true ∧ Ext h h') := by
  have hlo := hl
  obtain ⟨a, cap, rfl, hcap, hl⟩ := Strs.op hl
  refine enter ok6 Tryz.func6 rfl Tryz.ntmps6 (by simp) (fun w0 => ?_)
  repeat refine x_seq ?_
  refine goes rfl trivial ?_
  repeat refine x_seq ?_
  refine x_reg ?_
  refine go 1 rfl trivial ?_
  refine ops_call rfl rfl rfl (w10 hlo) ?_
  rintro _ hq ⟨rfl, e9⟩
  obtain rfl := e9.symm
  refine go 2 rfl trivial ?_
  refine ops_bool 18 rfl (fun c1 => ?_) (fun c1 => ?_)
  · refine go 1000 rfl trivial (ops_nil ?_)
    repeat refine x_seq ?_
    refine x_true rfl ?_
    repeat refine x_seq ?_
    refine x_reg ?_
    refine ops_call rfl rfl rfl (w11) ?_
    rintro _ hw ⟨rfl, hew⟩
    refine go 1000 rfl trivial (ops_nil ?_)
    repeat refine x_seq ?_
    exact x_ret (at_ret rfl rfl rfl rfl ⟨rfl, hew⟩ (.inl rfl))
  · refine go 1000 rfl trivial (ops_nil ?_)
    repeat refine x_seq ?_
    refine x_ifd rfl (fun c2 => ?_) (fun c2 => ?_)
    · repeat refine x_seq ?_
      refine x_reg ?_
      refine ops_call rfl rfl rfl (w11) ?_
      rintro _ hw ⟨rfl, hew⟩
      refine go 1000 rfl trivial (ops_nil ?_)
      repeat refine x_seq ?_
      exact x_ret (at_ret rfl rfl rfl rfl ⟨rfl, hew⟩ (.inl rfl))
    · repeat refine x_seq ?_
      refine x_skip ?_
      repeat refine x_seq ?_
      have ok : Ok l := fine_ok (by simpa using c1)
      have h30 := ok.few
      obtain ⟨b, hb1, hb2⟩ := letter_mod letter
      refine x_reg ?_
      refine go 3 rfl ⟨by first | omega | (simp only [inK]; omega) | (simp only [List.length_cons, List.length_nil, List.length_map]; omega), by first | omega | (simp only [inK]; omega) | (simp only [List.length_cons, List.length_nil, List.length_map]; omega), trivial⟩ ?_
      rw [hb1]
      refine ops_buildSlice (cs := [U b]) tabOk rfl rfl rfl rfl rfl rfl rfl rfl rfl ?_
      intro h4 hn4
      refine ops_fromBytes (l := [b]) tabOk rfl rfl rfl rfl rfl rfl rfl (Sl.of_new hn4 rfl (Nat.le_refl _)) rfl ?_
      refine go 1000 rfl trivial (ops_nil ?_)
      repeat refine x_seq ?_
      refine goes rfl trivial ?_
      repeat refine x_seq ?_
      refine goes rfl trivial ?_
      repeat refine x_seq ?_
      refine x_block ?_
      repeat refine x_seq ?_
      refine x_loop (fun x : Nat × Value => [(0, .slice a l.length cap), (5, S [b]), (6, x.2), (7, I x.1)]) (fun x h' => (Ext h h' ∧ Own h.size h' 9 1 x.2 x.1 ((front b (l.take x.1)).map S) ∧ ∀ s ∈ l.take x.1, s.length < 10) ∧ (x.1 ≤ l.length)) (fun x => l.length - x.1) (0, .slice none 0 0) ⟨rfl, rfl, rfl, rfl, trivial⟩ ⟨⟨hn4.ext, Own.nil _ _ _ _, by simp⟩, by omega⟩ ?_
      rintro ⟨k, vo⟩ h5 ⟨⟨he5, hs5, hP⟩, hk⟩ K1 hK1
      dsimp only at hs5 hk hP ⊢
      repeat refine x_seq ?_
      refine goes rfl trivial ?_
      repeat refine x_seq ?_
      refine x_ifd rfl (fun c3 => ?_) (fun c3 => ?_)
      · repeat refine x_seq ?_
        refine x_skip ?_
        repeat refine x_seq ?_
        refine x_block ?_
        repeat refine x_seq ?_
        have hlt : k < l.length := by omega
        obtain ⟨q, rfl, hq⟩ := hl k hlt
        have hq := he5.cell hq
        have hq10 := ok.short _ (List.getElem_mem hlt)
        refine x_reg ?_
        refine go 3 rfl ⟨by first | omega | (simp only [inK]; omega) | (simp only [List.length_cons, List.length_nil, List.length_map]; omega), trivial⟩ ?_
        refine ops_load tabOk rfl rfl rfl rfl (by assumption) ?_
        refine go 1000 rfl trivial (ops_nil ?_)
        repeat refine x_seq ?_
        refine x_ifd rfl (fun c4 => ?_) (fun c4 => ?_)
        · repeat refine x_seq ?_
          refine x_reg ?_
          refine ops_call rfl rfl rfl (w11) ?_
          rintro _ hw ⟨rfl, hew⟩
          refine go 1000 rfl trivial (ops_nil ?_)
          repeat refine x_seq ?_
          exact x_ret (at_ret_loop hK1 (at_ret rfl rfl rfl rfl ⟨rfl, he5.trans hew⟩ (.inl rfl)))
        · repeat refine x_seq ?_
          refine x_skip ?_
          repeat refine x_seq ?_
          refine x_reg ?_
          refine go 5 rfl ⟨by first | omega | (simp only [inK]; omega) | (simp only [List.length_cons, List.length_nil, List.length_map]; omega), trivial⟩ ?_
          refine ops_load tabOk rfl rfl rfl rfl (by assumption) ?_
          refine go 1 rfl ⟨by first | omega | (simp only [inK]; omega) | (simp only [List.length_cons, List.length_nil, List.length_map]; omega), trivial⟩ ?_
          refine ops_buildSlice (cs := [S (b :: l[k])]) tabOk rfl rfl rfl rfl rfl rfl rfl rfl rfl ?_
          intro h7 hn7
          refine ops_append tabOk rfl rfl rfl rfl rfl rfl rfl rfl (hs5.ext hn7.ext) (new_app hn7 rfl) rfl ⟨by omega, show _ * 16 ≤ _ from by omega⟩ (by have := he5.size; have := hn7.size; omega) rfl ?_
          intro v8 h8 ho8 hg8 _
          have he8 : Ext h h8 := Bel.trans (he5.trans hn7.ext) ((hs5.ext hn7.ext).bel hg8 (by have := he5.size; have := hn7.size; omega))
          refine go 1000 rfl trivial (ops_nil ?_)
          refine x_out ?_
          repeat refine x_seq ?_
          refine goes rfl ⟨by first | omega | (simp only [inK]; omega) | (simp only [List.length_cons, List.length_nil, List.length_map]; omega), trivial⟩ ?_
          refine x_next (k + 1, v8) ⟨rfl, rfl, rfl, rfl, trivial⟩ ⟨⟨he8, by show Own h.size _ 9 1 v8 (k + 1) ((front b (l.take (k + 1))).map S); rw [front_take hlt, List.map_append]; exact ho8, all_take hlt hP (by omega)⟩, by show k + 1 ≤ _; omega⟩ (by show l.length - (k + 1) < l.length - k; omega)
      · repeat refine x_seq ?_
        refine x_exit_loop hK1 rfl rfl ?_
        repeat refine x_seq ?_
        have hk2 : l.take k = l := List.take_of_length_le (by omega)
        rw [hk2] at hs5 hP
        replace hs5 : Strs _ vo (front b l) := hs5.sl
        have okm : Ok (front b l) := front_ok hb2 ok hP
        obtain ⟨T, hT, hTl, hT0, hTs⟩ := longer_states hb2 ok okm (List.ne_nil_of_length_pos (by omega))
        refine x_reg ?_
        refine go 1 rfl trivial ?_
        refine ops_call rfl rfl rfl (w21 ok (hlo.ext he5)) ?_
        rintro _ h6 ⟨vs, rfl, hs, he6⟩
        refine go 1000 rfl trivial (ops_nil ?_)
        repeat refine x_seq ?_
        refine x_reg ?_
        refine go 1 rfl trivial ?_
        refine ops_call rfl rfl rfl (w21 okm (hs5.ext he6)) ?_
        rintro _ h7 ⟨vt, rfl, ht, he7⟩
        rw [hT] at ht
        refine go 1000 rfl trivial (ops_nil ?_)
        repeat refine x_seq ?_
        have h31 := firsts_301 ok
        have hsl : (statesL l).length = (firsts l).length := by unfold statesL; simp
        obtain ⟨as', cs', rfl, -, hsx⟩ := id (hs.ext he7)
        obtain ⟨at', ct', rfl, -, htx⟩ := id ht
        have he57 := (he5.trans he6).trans he7
        obtain ⟨q0, rfl, nv0, hc0, hi0⟩ := htx 0 (by omega)
        rw [hT0 (by omega)] at hc0 hi0
        obtain ⟨an0, cn0, rfl, -, hn0⟩ := hi0.op
        obtain ⟨p0, rfl, hp0⟩ := hn0 0 (by simp)
        refine x_reg ?_
        refine go 3 rfl trivial ?_
        refine ops_bool 63 rfl (fun c5 => ?_) (fun c5 => ?_)
        · cases c5
        · refine go 4 rfl trivial ?_
          refine ops_bool 67 rfl (fun c6 => ?_) (fun c6 => ?_)
          · cases c6
          · refine go 8 rfl ⟨by first | omega | (simp only [inK]; omega) | (simp only [List.length_cons, List.length_nil, List.length_map]; omega), trivial⟩ ?_
            refine ops_dec 75 rfl (fun c7 => ?_) (fun c7 => ?_)
            · omega
            · refine go 3 rfl ⟨by first | omega | (simp only [inK]; omega) | (simp only [List.length_cons, List.length_nil, List.length_map]; omega), trivial⟩ ?_
              refine ops_guard_yes rfl rfl rfl ?_
              refine ops_load tabOk rfl rfl rfl rfl (hc0 0 _ rfl) ?_
              refine go 3 rfl trivial ?_
              refine ops_dec 82 rfl (fun c8 => ?_) (fun c8 => ?_)
              · exact absurd rfl c8
              · refine go 3 rfl ⟨by first | omega | (simp only [inK]; omega) | (simp only [List.length_cons, List.length_nil, List.length_map]; omega), trivial⟩ ?_
                refine ops_guard_yes rfl rfl rfl ?_
                refine ops_load tabOk rfl rfl rfl rfl (hc0 1 _ rfl) ?_
                refine go 4 rfl trivial ?_
                refine ops_dec 90 rfl (fun c9 => ?_) (fun c9 => ?_)
                · exact absurd rfl c9
                · refine go 3 rfl ⟨by first | omega | (simp only [inK]; omega) | (simp only [List.length_cons, List.length_nil, List.length_map]; omega), trivial⟩ ?_
                  refine ops_guard_yes rfl rfl rfl ?_
                  refine ops_load tabOk rfl rfl rfl rfl (hc0 2 _ rfl) ?_
                  refine go 4 rfl trivial ?_
                  refine ops_dec 98 rfl (fun c10 => ?_) (fun c10 => ?_)
                  · exact absurd rfl c10
                  · refine go 3 rfl ⟨by first | omega | (simp only [inK]; omega) | (simp only [List.length_cons, List.length_nil, List.length_map]; omega), trivial⟩ ?_
                    refine ops_guard_yes rfl rfl rfl ?_
                    refine ops_load tabOk rfl rfl rfl rfl (hc0 2 _ rfl) ?_
                    refine go 1 rfl ⟨by first | omega | (simp only [inK]; omega) | (simp only [List.length_cons, List.length_nil, List.length_map]; omega), trivial⟩ ?_
                    refine ops_guard_yes rfl rfl rfl ?_
                    refine ops_load tabOk rfl rfl rfl rfl hp0 ?_
                    refine go 1000 rfl trivial (ops_nil ?_)
                    repeat refine x_seq ?_
                    refine x_ifd rfl (fun c11 => ?_) (fun c11 => ?_)
                    · exact absurd rfl c11
                    · repeat refine x_seq ?_
                      refine x_skip ?_
                      repeat refine x_seq ?_
                      refine goes rfl trivial ?_
                      repeat refine x_seq ?_
                      refine x_block ?_
                      repeat refine x_seq ?_
                      refine x_loop (fun k : Nat => [(8, .slice as' (statesL l).length cs'), (10, .slice (some q0) T.length ct'), (12, I k)]) (fun k h' => (Ext h7 h') ∧ (k ≤ (statesL l).length)) (fun k => (statesL l).length - k) 0 ⟨rfl, rfl, rfl, trivial⟩ ⟨Ext.refl _, by omega⟩ ?_
                      rintro k h8 ⟨he8, hk⟩ K2 hK2
                      repeat refine x_seq ?_
                      refine goes rfl trivial ?_
                      repeat refine x_seq ?_
                      refine x_ifd rfl (fun c12 => ?_) (fun c12 => ?_)
                      · repeat refine x_seq ?_
                        refine x_skip ?_
                        repeat refine x_seq ?_
                        refine x_block ?_
                        repeat refine x_seq ?_
                        have hlt : k < (statesL l).length := by omega
                        have hlt' : k + 1 < T.length := by omega
                        obtain ⟨q, rfl, nv, hc, hi⟩ := hsx k hlt
                        obtain ⟨q', hq', nv', hc', hi'⟩ := htx (k + 1) hlt'
                        cases hq'
                        rw [hTs k hlt hlt'] at hc' hi'
                        obtain ⟨an, cn, rfl, -, hnx⟩ := hi.op
                        obtain ⟨an', cn', rfl, -, hnx'⟩ := hi'.op
                        have hnl := good_next (good_states ok) (List.getElem_mem hlt)
                        have hul : (upS (statesL l)[k]).next.length = (statesL l)[k].next.length := by simp [upS]
                        refine x_reg ?_
                        refine go 4 rfl ⟨by first | omega | (simp only [inK]; omega) | (simp only [List.length_cons, List.length_nil, List.length_map]; omega), by first | omega | (simp only [inK]; omega) | (simp only [List.length_cons, List.length_nil, List.length_map]; omega), trivial⟩ ?_
                        refine ops_loads tabOk rfl rfl rfl rfl rfl (fun j u e => he8.cell (hc' j u e)) ?_
                        refine ops_alloc tabOk rfl rfl rfl ?_
                        intro h9 hn9
                        refine ops_store (vs := [I (upS (statesL l)[k]).ends, S (upS (statesL l)[k]).letters, .slice an' (upS (statesL l)[k]).next.length cn']) (cs' := [I (upS (statesL l)[k]).ends, S (upS (statesL l)[k]).letters, .slice an' (upS (statesL l)[k]).next.length cn']) tabOk rfl rfl rfl rfl rfl rfl hn9.get (by simp) rfl ?_
                        intro ha hpa
                        refine ops_nil ?_
                        repeat refine x_seq ?_
                        have h8a : Ext h8 ha := Bel.trans hn9.ext (hpa.bel (Nat.le_refl _))
                        have hA : Ext h7 ha := he8.trans h8a
                        have hbk : ∀ (j : Nat) (u : Value), [I (upS (statesL l)[k]).ends, S (upS (statesL l)[k]).letters, .slice an' (upS (statesL l)[k]).next.length cn'][j]? = some u → hcell ha ((⟨h8.size, 0, none⟩ : Addr).add j) = some u := fun j u hj => by rw [add_head, hcell_block hpa.get]; simpa using hj
                        refine x_draw [(0, true), (1, true), (2, true), (3, true), (4, true), (5, true), (6, true), (7, true), (8, true), (9, true), (10, true), (11, true), (12, true), (13, true), (14, true), (15, true), (16, true), (17, true), (18, true), (19, true), (20, true), (21, true), (22, true), (23, true), (24, true), (25, true), (26, true), (27, true), (28, true), (29, true)] [] (· = _) mixed (by kernel_rfl) rfl rfl rfl ?_
                        refine sgo 1 rfl trivial ?_
                        refine seq_load tabOk rfl rfl rfl rfl (by rintro _ rfl; exact (hbk 0 _ rfl)) ?_
                        refine sgo 4 rfl ⟨by first | omega | (simp only [inK]; omega) | (simp only [List.length_cons, List.length_nil, List.length_map]; omega), trivial⟩ ?_
                        refine seq_load tabOk rfl rfl rfl rfl (by rintro _ rfl; exact (hA.cell (hc 0 _ rfl))) ?_
                        refine sgo 2 rfl trivial ?_
                        refine seq_dec 126 rfl (fun c13 => ?_) (fun c13 => ?_)
                        · exact absurd rfl c13
                        · refine sgo 1 rfl trivial ?_
                          refine seq_guard_yes rfl rfl rfl ?_
                          refine seq_load tabOk rfl rfl rfl rfl (by rintro _ rfl; exact (hbk 1 _ rfl)) ?_
                          refine sgo 4 rfl ⟨by first | omega | (simp only [inK]; omega) | (simp only [List.length_cons, List.length_nil, List.length_map]; omega), trivial⟩ ?_
                          refine seq_guard_yes rfl rfl rfl ?_
                          refine seq_load tabOk rfl rfl rfl rfl (by rintro _ rfl; exact (hA.cell (hc 1 _ rfl))) ?_
                          refine sgo 3 rfl trivial ?_
                          refine seq_dec 136 rfl (fun c14 => ?_) (fun c14 => ?_)
                          · exact absurd rfl c14
                          · refine sgo 1 rfl trivial ?_
                            refine seq_guard_yes rfl rfl rfl ?_
                            refine seq_load tabOk rfl rfl rfl rfl (by rintro _ rfl; exact (hbk 2 _ rfl)) ?_
                            refine sgo 5 rfl ⟨by first | omega | (simp only [inK]; omega) | (simp only [List.length_cons, List.length_nil, List.length_map]; omega), trivial⟩ ?_
                            refine seq_guard_yes rfl rfl rfl ?_
                            refine seq_load tabOk rfl rfl rfl rfl (by rintro _ rfl; exact (hA.cell (hc 2 _ rfl))) ?_
                            refine sgo 1000 rfl trivial (seq_tail ?_)
                            refine ops_nil ?_
                            repeat refine x_seq ?_
                            refine x_ifd rfl (fun c15 => ?_) (fun c15 => ?_)
                            · omega
                            · repeat refine x_seq ?_
                              refine x_skip ?_
                              repeat refine x_seq ?_
                              refine goes rfl trivial ?_
                              repeat refine x_seq ?_
                              refine x_block ?_
                              repeat refine x_seq ?_
                              refine x_loop (fun j : Nat => [(8, .slice (some q) (statesL l).length cs'), (10, .slice (some q0) T.length ct'), (12, I k), (13, Pt h8.size), (14, I j)]) (fun j h' => (ha = h') ∧ (j ≤ (statesL l)[k].next.length)) (fun j => (statesL l)[k].next.length - j) 0 ⟨rfl, rfl, rfl, rfl, rfl, trivial⟩ ⟨rfl, by omega⟩ ?_
                              rintro j _ ⟨rfl, hk2⟩ K3 hK3
                              repeat refine x_seq ?_
                              refine x_reg ?_
                              refine go 2 rfl trivial ?_
                              refine ops_load tabOk rfl rfl rfl rfl (hbk 2 _ rfl) ?_
                              refine go 1000 rfl trivial (ops_nil ?_)
                              repeat refine x_seq ?_
                              refine x_ifd rfl (fun c16 => ?_) (fun c16 => ?_)
                              · repeat refine x_seq ?_
                                refine x_skip ?_
                                repeat refine x_seq ?_
                                refine x_block ?_
                                repeat refine x_seq ?_
                                have hjl : j < (statesL l)[k].next.length := by omega
                                obtain ⟨p9, rfl, hp9⟩ := hnx j hjl
                                obtain ⟨p9', rfl, hp9'⟩ := hnx' j (by omega)
                                have hup : (upS (statesL l)[k]).next[j]'(by omega) = (statesL l)[k].next[j] + 1 := by simp [upS]
                                have hsm := next_small ok hlt hjl
                                refine x_draw [(0, true), (1, true), (2, true), (3, true), (4, true), (5, true), (6, true), (7, true), (8, true), (9, true), (10, true), (11, true), (12, true), (13, true), (14, true)] [] (· = _) mixed (by kernel_rfl) rfl rfl rfl ?_
                                refine sgo 1 rfl trivial ?_
                                refine seq_load tabOk rfl rfl rfl rfl (by rintro _ rfl; exact (hbk 2 _ rfl)) ?_
                                refine sgo 2 rfl ⟨by first | omega | (simp only [inK]; omega) | (simp only [List.length_cons, List.length_nil, List.length_map]; omega), trivial⟩ ?_
                                refine seq_load tabOk rfl rfl rfl rfl (by rintro _ rfl; exact (hA.cell hp9')) ?_
                                refine sgo 4 rfl ⟨by first | omega | (simp only [inK]; omega) | (simp only [List.length_cons, List.length_nil, List.length_map]; omega), trivial⟩ ?_
                                refine seq_load tabOk rfl rfl rfl rfl (by rintro _ rfl; exact (hA.cell (hc 2 _ rfl))) ?_
                                refine sgo 2 rfl ⟨by first | omega | (simp only [inK]; omega) | (simp only [List.length_cons, List.length_nil, List.length_map]; omega), trivial⟩ ?_
                                refine seq_load tabOk rfl rfl rfl rfl (by rintro _ rfl; exact (hA.cell hp9)) ?_
                                refine sgo 1000 rfl ⟨by first | omega | (simp only [inK]; omega) | (simp only [List.length_cons, List.length_nil, List.length_map]; omega), trivial⟩ (seq_tail ?_)
                                refine ops_nil ?_
                                repeat refine x_seq ?_
                                refine x_ifd rfl (fun c17 => ?_) (fun c17 => ?_)
                                · omega
                                · repeat refine x_seq ?_
                                  refine x_skip ?_
                                  refine x_out ?_
                                  repeat refine x_seq ?_
                                  refine goes rfl ⟨by first | omega | (simp only [inK]; omega) | (simp only [List.length_cons, List.length_nil, List.length_map]; omega), trivial⟩ ?_
                                  refine x_next (j + 1) ⟨rfl, rfl, rfl, rfl, rfl, trivial⟩ ⟨rfl, by omega⟩ (by omega)
                              · repeat refine x_seq ?_
                                refine x_exit_loop hK3 rfl rfl ?_
                                refine x_out ?_
                                repeat refine x_seq ?_
                                refine goes rfl ⟨by first | omega | (simp only [inK]; omega) | (simp only [List.length_cons, List.length_nil, List.length_map]; omega), trivial⟩ ?_
                                refine x_next (k + 1) ⟨rfl, rfl, rfl, trivial⟩ ⟨hA, by omega⟩ (by omega)
                      · repeat refine x_seq ?_
                        refine x_exit_loop hK2 rfl rfl ?_
                        repeat refine x_seq ?_
                        refine x_reg ?_
                        refine ops_call rfl rfl rfl (w11) ?_
                        rintro _ hw ⟨rfl, hew⟩
                        refine go 1000 rfl trivial (ops_nil ?_)
                        repeat refine x_seq ?_
                        exact x_ret (at_ret rfl rfl rfl rfl ⟨rfl, (he57.trans he8).trans hew⟩ (.inl rfl))

end Go.Proofs.YtmfgiabmmdbmoaaGreatDoor
