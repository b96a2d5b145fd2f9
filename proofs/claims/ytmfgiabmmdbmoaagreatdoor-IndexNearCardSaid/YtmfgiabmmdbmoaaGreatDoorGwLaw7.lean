/-
  A part of the proofs of the laws of the index: what the functions of this program compute. Conditions: none beyond those that its theorems name.
-/
import Derived.Test.YtmfgiabmmdbmoaaGreatDoorGwLaw6
import Derived.Test.YtmfgiabmmdbmoaaGreatDoorGwLaw5
import Derived.Test.YtmfgiabmmdbmoaaGreatDoorGwIx7
namespace Go.Proofs.YtmfgiabmmdbmoaaGreatDoor
open Go.Gw Go.Ix Go.Sort

def nearF (l : List Bs) (w : Bs) (m : Nat) : List Bs := l.filter fun s => nearS m s w
theorem near_err {l : List Bs} (ok : Ok l) {w : Bs} (h : wordErr w ≠ 0) (m : Int) : nearL l w m = ([], wordErr w) := by
  unfold nearL; rw [openErr_ok ok, wordsErr_one, if_pos h]
theorem near_ok {l : List Bs} (ok : Ok l) {w : Bs} (h : wordErr w = 0) (m : Nat) (hm : m ≤ 2) : nearL l w (m : Int) = (nearF l w m, 0) := by
  unfold nearL; rw [openErr_ok ok, wordsErr_one, if_neg (by omega), if_pos (by omega)]; rfl
theorem mem_near {l : List Bs} {w s : Bs} {m : Nat} : s ∈ nearF l w m ↔ s ∈ l ∧ Al m s w := by
  unfold nearF; rw [List.mem_filter, nearS_al]
theorem near_zero {l : List Bs} (ok : Ok l) (w : Bs) : (w ∈ l → nearF l w 0 = [w]) ∧ (w ∉ l → nearF l w 0 = []) := by
  have hs : (nearF l w 0).Pairwise (· < ·) := ok.sorted.filter _
  refine ⟨fun h => sorted_ext hs (List.pairwise_singleton _ _) (fun x => ?_), fun h => List.eq_nil_iff_forall_not_mem.2 (fun x hx => ?_)⟩
  · rw [mem_near, List.mem_singleton]
    exact ⟨fun h2 => h2.2.zero, fun e => by subst e; exact ⟨h, Al.refl _⟩⟩
  · rw [mem_near] at hx
    rw [hx.2.zero] at hx; exact h hx.1
theorem near_mono {l : List Bs} {w : Bs} {m n : Nat} (h : m ≤ n) : ∀ s ∈ nearF l w m, s ∈ nearF l w n := fun s hs => by
  rw [mem_near] at hs ⊢; exact ⟨hs.1, hs.2.mono h⟩
theorem near_sub {l : List Bs} {w : Bs} {m : Nat} : ∀ s ∈ nearF l w m, s ∈ l := fun _ hs => (mem_near.1 hs).1
theorem near_two {l : List Bs} {w x : Bs} (hx : x ∈ nearF l w 1) : ∀ s ∈ nearF l w 1, s ∈ nearF l x 2 := fun s hs => by
  rw [mem_near] at hs hx ⊢; exact ⟨hs.1, (hs.2.trans hx.2.symm : Al (1 + 1) _ _)⟩
theorem near_drop {l : List Bs} {s : Bs} (h : s ∈ l) {k : Nat} (hk : k < s.length) : s ∈ nearF l (s.take k ++ s.drop (k + 1)) 1 :=
  mem_near.2 ⟨h, Al.drop_one k s hk⟩
theorem near_len {l : List Bs} (w : Bs) (m : Nat) : (nearF l w m).length ≤ l.length := List.length_filter_le _ _
theorem near_len0 {l : List Bs} (ok : Ok l) (w : Bs) : (nearF l w 0).length ≤ 1 := by
  by_cases h : w ∈ l
  · rw [(near_zero ok w).1 h]; simp
  · rw [(near_zero ok w).2 h]; simp
theorem near_has {l : List Bs} (ok : Ok l) (w : Bs) : (decide (((nearF l w 0).length : Int) = 1) != decide (w ∈ l)) = false := by
  by_cases h : w ∈ l
  · rw [(near_zero ok w).1 h]; simp [h]
  · rw [(near_zero ok w).2 h]; simp [h]
theorem near_get {l : List Bs} (ok : Ok l) {w : Bs} {hk : 0 < (nearF l w 0).length} : (nearF l w 0)[0] = w := by
  have h := mem_near.1 (List.getElem_mem hk)
  exact h.2.zero
theorem word_ok {l : List Bs} (ok : Ok l) {s : Bs} (h : s ∈ l) : wordErr s = 0 := wordErr_0 (by have := ok.short s h; omega) (ok.let' s h)
theorem word_drop {s : Bs} (h : wordErr s = 0) (hl : s.length ≤ 10) (k : Nat) : wordErr (s.take k ++ s.drop (k + 1)) = 0 := by
  have h1 : letters s = true := by
    unfold wordErr at h
    rw [if_neg (by omega)] at h
    exact Classical.byContradiction fun hn => by rw [if_neg hn] at h; cases h
  refine wordErr_0 (by simp; omega) ?_
  rw [letters_app, Bool.and_eq_true]
  unfold letters at h1 ⊢
  rw [List.all_eq_true] at h1
  exact ⟨List.all_eq_true.2 (fun x hx => h1 x (List.mem_of_mem_take hx)), List.all_eq_true.2 (fun x hx => h1 x (List.mem_of_mem_drop hx))⟩

/-- burin/burinlaw11.IndexNear -/
theorem ok4 : FnOk Tryz.prog 4 := fnok Tryz.func4 (by kernel_rfl) rfl
set_option maxRecDepth 10000 in
theorem w4 {h : Hp} {v : Value} {l : List Bs} (word : Bs) (which letter : Nat) (hwc : which ≤ 255) (hlc : letter ≤ 255) (hl : Strs h v l) : CallsH Tryz.prog 4 #[v, S word, .int .u8 (which : Int), .int .u8 (letter : Int)] h (fun r h' => r = .bool true ∧ Ext h h') := by
  have hlo := hl
  obtain ⟨a, cap, rfl, hcap, hl⟩ := Strs.op hl
  refine enter ok4 Tryz.func4 rfl Tryz.ntmps4 (by simp) (fun w0 => ?_)
  repeat refine x_seq ?_
  refine goes rfl trivial ?_
  repeat refine x_seq ?_
  refine x_reg ?_
  refine go 1 rfl trivial ?_
  refine ops_call rfl rfl rfl (w10 hlo) ?_
  rintro _ hq ⟨rfl, e9⟩
  obtain rfl := e9.symm
  refine go 2 rfl trivial ?_
  refine ops_bool 26 rfl (fun c1 => ?_) (fun c1 => ?_)
  · refine go 1000 rfl trivial (ops_nil ?_)
    repeat refine x_seq ?_
    refine x_true rfl ?_
    repeat refine x_seq ?_
    refine x_reg ?_
    refine ops_call rfl rfl rfl (w11) ?_
    rintro _ hw ⟨rfl, hew⟩
    refine go 1000 rfl trivial (ops_nil ?_)
    repeat refine x_seq ?_
    exact x_ret (at_ret rfl rfl rfl rfl ⟨rfl, hew⟩ (.inl rfl))
  · refine go 1000 rfl trivial (ops_nil ?_)
    repeat refine x_seq ?_
    refine x_ifd rfl (fun c2 => ?_) (fun c2 => ?_)
    · repeat refine x_seq ?_
      refine x_reg ?_
      refine ops_call rfl rfl rfl (w11) ?_
      rintro _ hw ⟨rfl, hew⟩
      refine go 1000 rfl trivial (ops_nil ?_)
      repeat refine x_seq ?_
      exact x_ret (at_ret rfl rfl rfl rfl ⟨rfl, hew⟩ (.inl rfl))
    · repeat refine x_seq ?_
      refine x_skip ?_
      repeat refine x_seq ?_
      have ok : Ok l := fine_ok (by simpa using c1)
      have hsm : Small l := ok.sm
      have h30 := ok.few
      refine x_reg ?_
      refine go 2 rfl trivial ?_
      refine ops_call rfl rfl rfl (w15 word 0 hsm (by omega) hlo) ?_
      rintro _ h1 ⟨va, rfl, ha, hea⟩
      refine go 1000 rfl trivial (ops_nil ?_)
      repeat refine x_seq ?_
      refine x_reg ?_
      refine go 2 rfl trivial ?_
      refine ops_call rfl rfl rfl (w15 word 1 hsm (by omega) (hlo.ext hea)) ?_
      rintro _ h2 ⟨vb, rfl, hb, heb⟩
      have heab := hea.trans heb
      refine go 1000 rfl trivial (ops_nil ?_)
      repeat refine x_seq ?_
      refine x_reg ?_
      refine go 2 rfl trivial ?_
      refine ops_call rfl rfl rfl (w15 word 2 hsm (by omega) (hlo.ext heab)) ?_
      rintro _ h3 ⟨vc, rfl, hc, hec⟩
      have heac := heab.trans hec
      replace ha := ha.ext (heb.trans hec)
      replace hb := hb.ext hec
      have hlo3 := hlo.ext heac
      refine go 1000 rfl trivial (ops_nil ?_)
      repeat refine x_seq ?_
      refine x_reg ?_
      refine go 1 rfl trivial ?_
      refine ops_call rfl rfl rfl (w13 word (by omega)) ?_
      rintro _ hq ⟨rfl, e9⟩
      obtain rfl := e9.symm
      refine go 1000 rfl trivial (ops_nil ?_)
      repeat refine x_seq ?_
      refine goes rfl trivial ?_
      repeat refine x_seq ?_
      refine x_ifd rfl (fun c3 => ?_) (fun c3 => ?_)
      · repeat refine x_seq ?_
        rw [near_err ok (by assumption) 0, near_err ok (by assumption) 1, near_err ok (by assumption) 2]
        refine x_reg ?_
        refine go 4 rfl trivial ?_
        refine ops_dec 57 rfl (fun c4 => ?_) (fun c4 => ?_)
        · refine go 5 rfl trivial ?_
          refine ops_dec 62 rfl (fun c5 => ?_) (fun c5 => ?_)
          · refine go 5 rfl trivial ?_
            refine ops_dec 67 rfl (fun c6 => ?_) (fun c6 => ?_)
            · refine ops_guard_yes rfl rfl rfl ?_
              refine ops_call rfl rfl rfl (w11) ?_
              rintro _ hw ⟨rfl, hew⟩
              refine go 1000 rfl trivial (ops_nil ?_)
              repeat refine x_seq ?_
              exact x_ret (at_ret rfl rfl rfl rfl ⟨rfl, heac.trans hew⟩ (.inl rfl))
            · exact absurd rfl c6
          · exact absurd rfl c5
        · exact absurd rfl c4
      · repeat refine x_seq ?_
        refine x_skip ?_
        repeat refine x_seq ?_
        have hw0 : wordErr word = 0 := by omega
        have n0 : nearL l word 0 = _ := near_ok ok hw0 0 (by omega)
        have n1 : nearL l word 1 = _ := near_ok ok hw0 1 (by omega)
        have n2 : nearL l word 2 = _ := near_ok ok hw0 2 (by omega)
        rw [n0] at ha ⊢
        rw [n1] at hb ⊢
        rw [n2] at hc ⊢
        replace ha : Strs _ va (nearF l word 0) := ha
        replace hb : Strs _ vb (nearF l word 1) := hb
        replace hc : Strs _ vc (nearF l word 2) := hc
        obtain ⟨aa, ca, rfl, -, hax⟩ := Strs.op ha
        obtain ⟨ab, cb, rfl, -, hbx⟩ := Strs.op hb
        obtain ⟨ac, cc, rfl, -, -⟩ := Strs.op hc
        have hz1 := near_len0 ok word
        have hz2 := near_has ok word
        have hz3 := near_len word 1 (l := l)
        have hz4 := near_len word 2 (l := l)
        refine x_reg ?_
        refine go 3 rfl trivial ?_
        refine ops_dec 72 rfl (fun c7 => ?_) (fun c7 => ?_)
        · exact absurd rfl c7
        · refine go 4 rfl trivial ?_
          refine ops_dec 76 rfl (fun c8 => ?_) (fun c8 => ?_)
          · exact absurd rfl c8
          · refine go 4 rfl trivial ?_
            refine ops_dec 80 rfl (fun c9 => ?_) (fun c9 => ?_)
            · exact absurd rfl c9
            · refine go 5 rfl trivial ?_
              refine ops_dec 85 rfl (fun c10 => ?_) (fun c10 => ?_)
              · omega
              · refine go 5 rfl trivial ?_
                refine ops_guard_yes rfl rfl rfl ?_
                refine ops_call rfl rfl rfl (w14 word (by have := ok.few; omega) hlo3) ?_
                rintro _ hq ⟨rfl, e9⟩
                obtain rfl := e9.symm
                refine go 3 rfl trivial ?_
                refine ops_bool 94 rfl (fun c11 => ?_) (fun c11 => ?_)
                · rw [hz2] at c11; cases c11
                · refine go 4 rfl trivial ?_
                  refine ops_dec 98 rfl (fun c12 => ?_) (fun c12 => ?_)
                  · refine ops_guard_yes rfl rfl rfl ?_
                    obtain ⟨p0, rfl, hp0⟩ := hax 0 (by omega)
                    refine go 1 rfl trivial ?_
                    refine go 1 rfl ⟨by first | omega | (simp only [inK]; omega) | (simp only [List.length_append, List.length_take, List.length_drop]; omega), trivial⟩ ?_
                    refine ops_guard_yes rfl rfl rfl ?_
                    refine ops_load tabOk rfl rfl rfl rfl (by assumption) ?_
                    refine go 5 rfl trivial ?_
                    refine ops_dec 106 rfl (fun c13 => ?_) (fun c13 => ?_)
                    · exact absurd (near_get ok) c13
                    · refine go 2 rfl trivial ?_
                      refine ops_guard_yes rfl rfl rfl ?_
                      refine ops_call rfl rfl rfl (callsH_to (w16 (l := nearF l word 0) (l' := nearF l word 1) (by omega) (by omega) ha hb) (near_mono (by omega))) ?_
                      rintro _ hq ⟨rfl, e9⟩
                      obtain rfl := e9.symm
                      refine go 5 rfl trivial ?_
                      refine ops_guard_yes rfl rfl rfl ?_
                      refine ops_call rfl rfl rfl (callsH_to (w16 (l := nearF l word 1) (l' := nearF l word 2) (by omega) (by omega) hb hc) (near_mono (by omega))) ?_
                      rintro _ hq ⟨rfl, e9⟩
                      obtain rfl := e9.symm
                      refine go 5 rfl trivial ?_
                      refine ops_guard_yes rfl rfl rfl ?_
                      refine ops_call rfl rfl rfl (callsH_to (w16 (l := nearF l word 2) (l' := l) (by omega) (by omega) hc hlo3) near_sub) ?_
                      rintro _ hq ⟨rfl, e9⟩
                      obtain rfl := e9.symm
                      refine go 1000 rfl trivial (ops_nil ?_)
                      repeat refine x_seq ?_
                      refine x_false rfl ?_
                      repeat refine x_seq ?_
                      refine x_skip ?_
                      repeat refine x_seq ?_
                      refine goes rfl trivial ?_
                      repeat refine x_seq ?_
                      refine x_block ?_
                      repeat refine x_seq ?_
                      refine x_loop (fun k : Nat => [(0, .slice a l.length cap), (2, .int .u8 (which : Int)), (3, .int .u8 (letter : Int)), (11, .slice ab (nearF l word 1).length cb), (16, I k)]) (fun k h' => (Ext h3 h') ∧ (k ≤ (nearF l word 1).length)) (fun k => (nearF l word 1).length - k) 0 ⟨rfl, rfl, rfl, rfl, rfl, trivial⟩ ⟨Ext.refl _, by omega⟩ ?_
                      rintro k h4 ⟨he35, hk⟩ K1 hK1
                      repeat refine x_seq ?_
                      refine goes rfl trivial ?_
                      repeat refine x_seq ?_
                      refine x_ifd rfl (fun c14 => ?_) (fun c14 => ?_)
                      · repeat refine x_seq ?_
                        refine x_skip ?_
                        repeat refine x_seq ?_
                        refine x_block ?_
                        repeat refine x_seq ?_
                        have hlt : k < (nearF l word 1).length := by omega
                        obtain ⟨p, rfl, hp⟩ := hbx k hlt
                        have hp := he35.cell hp
                        have hk2 : (nearF l word 1)[k] ∈ nearF l word 1 := List.getElem_mem hlt
                        have hk1 := near_sub _ hk2
                        have hk10 := ok.short _ hk1
                        refine x_reg ?_
                        refine go 4 rfl ⟨by first | omega | (simp only [inK]; omega) | (simp only [List.length_append, List.length_take, List.length_drop]; omega), trivial⟩ ?_
                        refine ops_load tabOk rfl rfl rfl rfl (by assumption) ?_
                        refine ops_call rfl rfl rfl (w15 (nearF l word 1)[k] 2 hsm (by omega) (hlo3.ext he35)) ?_
                        rintro _ h5 ⟨vd, rfl, hd, hed⟩
                        have hbd := (hb.ext he35).ext hed
                        replace he35 := he35.trans hed
                        rw [show (2 : Int) = ((2 : Nat) : Int) from rfl, near_ok ok (word_ok ok hk1) 2 (by omega)] at hd ⊢
                        refine go 1000 rfl trivial (ops_nil ?_)
                        repeat refine x_seq ?_
                        have hz5 := near_len (nearF l word 1)[k] 2 (l := l)
                        replace hd : Strs _ vd (nearF l (nearF l word 1)[k] 2) := hd
                        obtain ⟨ad, cd, rfl, -, -⟩ := Strs.op hd
                        refine x_reg ?_
                        refine go 3 rfl trivial ?_
                        refine ops_dec 141 rfl (fun c15 => ?_) (fun c15 => ?_)
                        · exact absurd rfl c15
                        · refine go 2 rfl trivial ?_
                          refine ops_guard_yes rfl rfl rfl ?_
                          refine ops_call rfl rfl rfl (callsH_to (w16 (l := nearF l word 1) (l' := nearF l (nearF l word 1)[k] 2) (by omega) (by omega) hbd hd) (near_two hk2)) ?_
                          rintro _ hq ⟨rfl, e9⟩
                          obtain rfl := e9.symm
                          refine go 1000 rfl trivial (ops_nil ?_)
                          repeat refine x_seq ?_
                          refine x_false rfl ?_
                          repeat refine x_seq ?_
                          refine x_skip ?_
                          refine x_out ?_
                          repeat refine x_seq ?_
                          refine goes rfl ⟨by first | omega | (simp only [inK]; omega) | (simp only [List.length_append, List.length_take, List.length_drop]; omega), trivial⟩ ?_
                          refine x_next (k + 1) ⟨rfl, rfl, rfl, rfl, rfl, trivial⟩ ⟨he35, by omega⟩ (by omega)
                      · repeat refine x_seq ?_
                        refine x_exit_loop hK1 rfl rfl ?_
                        repeat refine x_seq ?_
                        refine goes rfl trivial ?_
                        repeat refine x_seq ?_
                        refine x_ifd rfl (fun c16 => ?_) (fun c16 => ?_)
                        · repeat refine x_seq ?_
                          refine x_reg ?_
                          refine ops_call rfl rfl rfl (w11) ?_
                          rintro _ hw ⟨rfl, hew⟩
                          refine go 1000 rfl trivial (ops_nil ?_)
                          repeat refine x_seq ?_
                          exact x_ret (at_ret rfl rfl rfl rfl ⟨rfl, (heac.trans he35).trans hew⟩ (.inl rfl))
                        · repeat refine x_seq ?_
                          refine x_skip ?_
                          repeat refine x_seq ?_
                          have hll : l.length ≠ 0 := by omega
                          obtain ⟨n, hn, hnn⟩ : ∃ n, n < l.length ∧ ((which : Int) % (l.length : Int)) = (n : Int) := ⟨which % l.length, Nat.mod_lt _ (by omega), by omega⟩
                          obtain ⟨pn, rfl, hpn⟩ := hl n hn
                          have hpn := (heac.trans he35).cell hpn
                          refine x_reg ?_
                          refine go 7 rfl ⟨by first | omega | (simp only [inK]; omega) | (simp only [List.length_append, List.length_take, List.length_drop]; omega), by first | omega | (simp only [inK]; omega) | (simp only [List.length_append, List.length_take, List.length_drop]; omega), by first | omega | (simp only [inK]; omega) | (simp only [List.length_append, List.length_take, List.length_drop]; omega), trivial⟩ ?_
                          refine ops_load tabOk rfl rfl rfl rfl (show hcell h4 (pn.add (scl ((which : Int) % (l.length : Int)).toNat 1)) = some (S l[n]) from by rw [hnn]; exact hpn) ?_
                          refine go 1000 rfl trivial (ops_nil ?_)
                          repeat refine x_seq ?_
                          generalize hname' : l[n] = name
                          have hname : name ∈ l := hname' ▸ List.getElem_mem hn
                          have hne : name.length ≠ 0 := fun e => ok.ne _ hname (List.eq_nil_of_length_eq_zero e)
                          have hn10 := ok.short _ hname
                          obtain ⟨drop, hdrop, hdd⟩ : ∃ n, n < name.length ∧ ((letter : Int) % (name.length : Int)) = (n : Int) := ⟨letter % name.length, Nat.mod_lt _ (by omega), by omega⟩
                          refine goes rfl ⟨by first | omega | (simp only [inK]; omega) | (simp only [List.length_append, List.length_take, List.length_drop]; omega), by first | omega | (simp only [inK]; omega) | (simp only [List.length_append, List.length_take, List.length_drop]; omega), trivial⟩ ?_
                          repeat refine x_seq ?_
                          rw [hdd]
                          have hcut : (name.take drop ++ name.drop (drop + 1)).length ≤ 1000 := by simp only [List.length_append, List.length_take, List.length_drop]; omega
                          refine x_draw [(0, true), (1, true), (2, true), (3, true), (4, true), (5, true), (6, true), (7, true), (8, true), (9, false), (10, true), (11, true), (12, true), (13, true), (14, true)] [] (Ext h4) mixed (by kernel_rfl) rfl rfl (Ext.refl _) ?_
                          refine sgo 9 rfl ⟨by first | omega | (simp only [inK]; omega) | (simp only [List.length_append, List.length_take, List.length_drop]; omega), by first | omega | (simp only [inK]; omega) | (simp only [List.length_append, List.length_take, List.length_drop]; omega), by first | omega | (simp only [inK]; omega) | (simp only [List.length_append, List.length_take, List.length_drop]; omega), by first | omega | (simp only [inK]; omega) | (simp only [List.length_append, List.length_take, List.length_drop]; omega), trivial⟩ ?_
                          refine seq_act (ops_call rfl rfl rfl (w15 (name.take drop ++ name.drop (drop + 1)) 1 hsm (by omega) (hlo3.ext he35)) ?_)
                          rintro _ h6 ⟨ve, rfl, he, hee⟩
                          rw [show (1 : Int) = ((1 : Nat) : Int) from rfl, near_ok ok (word_drop (word_ok ok hname) (ok.short _ hname) drop) 1 (by omega)] at he ⊢
                          refine ops_nil ⟨hee, ?_⟩
                          refine sgo 1000 rfl trivial (seq_tail ?_)
                          refine ops_nil ?_
                          repeat refine x_seq ?_
                          replace he : Strs _ ve (nearF l (name.take drop ++ name.drop (drop + 1)) 1) := he
                          have hz6 := near_len (name.take drop ++ name.drop (drop + 1)) 1 (l := l)
                          refine x_reg ?_
                          refine go 3 rfl trivial ?_
                          refine ops_dec 179 rfl (fun c17 => ?_) (fun c17 => ?_)
                          · refine go 2 rfl trivial ?_
                            refine ops_guard_yes rfl rfl rfl ?_
                            refine ops_call rfl rfl rfl (callsH_to (w14 name (l := nearF l (name.take drop ++ name.drop (drop + 1)) 1) (by omega) he) (near_drop hname hdrop)) ?_
                            rintro _ hq ⟨rfl, e9⟩
                            obtain rfl := e9.symm
                            refine go 2 rfl trivial ?_
                            refine ops_guard_yes rfl rfl rfl ?_
                            refine ops_call rfl rfl rfl (w11) ?_
                            rintro _ hw ⟨rfl, hew⟩
                            refine go 1000 rfl trivial (ops_nil ?_)
                            repeat refine x_seq ?_
                            exact x_ret (at_ret rfl rfl rfl rfl ⟨rfl, ((heac.trans he35).trans hee).trans hew⟩ (.inl rfl))
                          · exact absurd rfl c17
                  · refine go 10 rfl trivial ?_
                    refine ops_guard_yes rfl rfl rfl ?_
                    refine ops_call rfl rfl rfl (callsH_to (w16 (l := nearF l word 0) (l' := nearF l word 1) (by omega) (by omega) ha hb) (near_mono (by omega))) ?_
                    rintro _ hq ⟨rfl, e9⟩
                    obtain rfl := e9.symm
                    refine go 5 rfl trivial ?_
                    refine ops_guard_yes rfl rfl rfl ?_
                    refine ops_call rfl rfl rfl (callsH_to (w16 (l := nearF l word 1) (l' := nearF l word 2) (by omega) (by omega) hb hc) (near_mono (by omega))) ?_
                    rintro _ hq ⟨rfl, e9⟩
                    obtain rfl := e9.symm
                    refine go 5 rfl trivial ?_
                    refine ops_guard_yes rfl rfl rfl ?_
                    refine ops_call rfl rfl rfl (callsH_to (w16 (l := nearF l word 2) (l' := l) (by omega) (by omega) hc hlo3) near_sub) ?_
                    rintro _ hq ⟨rfl, e9⟩
                    obtain rfl := e9.symm
                    refine go 1000 rfl trivial (ops_nil ?_)
                    repeat refine x_seq ?_
                    refine x_false rfl ?_
                    repeat refine x_seq ?_
                    refine x_skip ?_
                    repeat refine x_seq ?_
                    refine goes rfl trivial ?_
                    repeat refine x_seq ?_
                    refine x_block ?_
                    repeat refine x_seq ?_
                    refine x_loop (fun k : Nat => [(0, .slice a l.length cap), (2, .int .u8 (which : Int)), (3, .int .u8 (letter : Int)), (11, .slice ab (nearF l word 1).length cb), (16, I k)]) (fun k h' => (Ext h3 h') ∧ (k ≤ (nearF l word 1).length)) (fun k => (nearF l word 1).length - k) 0 ⟨rfl, rfl, rfl, rfl, rfl, trivial⟩ ⟨Ext.refl _, by omega⟩ ?_
                    rintro k h4 ⟨he35, hk⟩ K2 hK2
                    repeat refine x_seq ?_
                    refine goes rfl trivial ?_
                    repeat refine x_seq ?_
                    refine x_ifd rfl (fun c18 => ?_) (fun c18 => ?_)
                    · repeat refine x_seq ?_
                      refine x_skip ?_
                      repeat refine x_seq ?_
                      refine x_block ?_
                      repeat refine x_seq ?_
                      have hlt : k < (nearF l word 1).length := by omega
                      obtain ⟨p, rfl, hp⟩ := hbx k hlt
                      have hp := he35.cell hp
                      have hk2 : (nearF l word 1)[k] ∈ nearF l word 1 := List.getElem_mem hlt
                      have hk1 := near_sub _ hk2
                      have hk10 := ok.short _ hk1
                      refine x_reg ?_
                      refine go 4 rfl ⟨by first | omega | (simp only [inK]; omega) | (simp only [List.length_append, List.length_take, List.length_drop]; omega), trivial⟩ ?_
                      refine ops_load tabOk rfl rfl rfl rfl (by assumption) ?_
                      refine ops_call rfl rfl rfl (w15 (nearF l word 1)[k] 2 hsm (by omega) (hlo3.ext he35)) ?_
                      rintro _ h5 ⟨vd, rfl, hd, hed⟩
                      have hbd := (hb.ext he35).ext hed
                      replace he35 := he35.trans hed
                      rw [show (2 : Int) = ((2 : Nat) : Int) from rfl, near_ok ok (word_ok ok hk1) 2 (by omega)] at hd ⊢
                      refine go 1000 rfl trivial (ops_nil ?_)
                      repeat refine x_seq ?_
                      have hz5 := near_len (nearF l word 1)[k] 2 (l := l)
                      replace hd : Strs _ vd (nearF l (nearF l word 1)[k] 2) := hd
                      obtain ⟨ad, cd, rfl, -, -⟩ := Strs.op hd
                      refine x_reg ?_
                      refine go 3 rfl trivial ?_
                      refine ops_dec 141 rfl (fun c19 => ?_) (fun c19 => ?_)
                      · exact absurd rfl c19
                      · refine go 2 rfl trivial ?_
                        refine ops_guard_yes rfl rfl rfl ?_
                        refine ops_call rfl rfl rfl (callsH_to (w16 (l := nearF l word 1) (l' := nearF l (nearF l word 1)[k] 2) (by omega) (by omega) hbd hd) (near_two hk2)) ?_
                        rintro _ hq ⟨rfl, e9⟩
                        obtain rfl := e9.symm
                        refine go 1000 rfl trivial (ops_nil ?_)
                        repeat refine x_seq ?_
                        refine x_false rfl ?_
                        repeat refine x_seq ?_
                        refine x_skip ?_
                        refine x_out ?_
                        repeat refine x_seq ?_
                        refine goes rfl ⟨by first | omega | (simp only [inK]; omega) | (simp only [List.length_append, List.length_take, List.length_drop]; omega), trivial⟩ ?_
                        refine x_next (k + 1) ⟨rfl, rfl, rfl, rfl, rfl, trivial⟩ ⟨he35, by omega⟩ (by omega)
                    · repeat refine x_seq ?_
                      refine x_exit_loop hK2 rfl rfl ?_
                      repeat refine x_seq ?_
                      refine goes rfl trivial ?_
                      repeat refine x_seq ?_
                      refine x_ifd rfl (fun c20 => ?_) (fun c20 => ?_)
                      · repeat refine x_seq ?_
                        refine x_reg ?_
                        refine ops_call rfl rfl rfl (w11) ?_
                        rintro _ hw ⟨rfl, hew⟩
                        refine go 1000 rfl trivial (ops_nil ?_)
                        repeat refine x_seq ?_
                        exact x_ret (at_ret rfl rfl rfl rfl ⟨rfl, (heac.trans he35).trans hew⟩ (.inl rfl))
                      · repeat refine x_seq ?_
                        refine x_skip ?_
                        repeat refine x_seq ?_
                        have hll : l.length ≠ 0 := by omega
                        obtain ⟨n, hn, hnn⟩ : ∃ n, n < l.length ∧ ((which : Int) % (l.length : Int)) = (n : Int) := ⟨which % l.length, Nat.mod_lt _ (by omega), by omega⟩
                        obtain ⟨pn, rfl, hpn⟩ := hl n hn
                        have hpn := (heac.trans he35).cell hpn
                        refine x_reg ?_
                        refine go 7 rfl ⟨by first | omega | (simp only [inK]; omega) | (simp only [List.length_append, List.length_take, List.length_drop]; omega), by first | omega | (simp only [inK]; omega) | (simp only [List.length_append, List.length_take, List.length_drop]; omega), by first | omega | (simp only [inK]; omega) | (simp only [List.length_append, List.length_take, List.length_drop]; omega), trivial⟩ ?_
                        refine ops_load tabOk rfl rfl rfl rfl (show hcell h4 (pn.add (scl ((which : Int) % (l.length : Int)).toNat 1)) = some (S l[n]) from by rw [hnn]; exact hpn) ?_
                        refine go 1000 rfl trivial (ops_nil ?_)
                        repeat refine x_seq ?_
                        generalize hname' : l[n] = name
                        have hname : name ∈ l := hname' ▸ List.getElem_mem hn
                        have hne : name.length ≠ 0 := fun e => ok.ne _ hname (List.eq_nil_of_length_eq_zero e)
                        have hn10 := ok.short _ hname
                        obtain ⟨drop, hdrop, hdd⟩ : ∃ n, n < name.length ∧ ((letter : Int) % (name.length : Int)) = (n : Int) := ⟨letter % name.length, Nat.mod_lt _ (by omega), by omega⟩
                        refine goes rfl ⟨by first | omega | (simp only [inK]; omega) | (simp only [List.length_append, List.length_take, List.length_drop]; omega), by first | omega | (simp only [inK]; omega) | (simp only [List.length_append, List.length_take, List.length_drop]; omega), trivial⟩ ?_
                        repeat refine x_seq ?_
                        rw [hdd]
                        have hcut : (name.take drop ++ name.drop (drop + 1)).length ≤ 1000 := by simp only [List.length_append, List.length_take, List.length_drop]; omega
                        refine x_draw [(0, true), (1, true), (2, true), (3, true), (4, true), (5, true), (6, true), (7, true), (8, true), (9, false), (10, true), (11, true), (12, true), (13, true), (14, true)] [] (Ext h4) mixed (by kernel_rfl) rfl rfl (Ext.refl _) ?_
                        refine sgo 9 rfl ⟨by first | omega | (simp only [inK]; omega) | (simp only [List.length_append, List.length_take, List.length_drop]; omega), by first | omega | (simp only [inK]; omega) | (simp only [List.length_append, List.length_take, List.length_drop]; omega), by first | omega | (simp only [inK]; omega) | (simp only [List.length_append, List.length_take, List.length_drop]; omega), by first | omega | (simp only [inK]; omega) | (simp only [List.length_append, List.length_take, List.length_drop]; omega), trivial⟩ ?_
                        refine seq_act (ops_call rfl rfl rfl (w15 (name.take drop ++ name.drop (drop + 1)) 1 hsm (by omega) (hlo3.ext he35)) ?_)
                        rintro _ h6 ⟨ve, rfl, he, hee⟩
                        rw [show (1 : Int) = ((1 : Nat) : Int) from rfl, near_ok ok (word_drop (word_ok ok hname) (ok.short _ hname) drop) 1 (by omega)] at he ⊢
                        refine ops_nil ⟨hee, ?_⟩
                        refine sgo 1000 rfl trivial (seq_tail ?_)
                        refine ops_nil ?_
                        repeat refine x_seq ?_
                        replace he : Strs _ ve (nearF l (name.take drop ++ name.drop (drop + 1)) 1) := he
                        have hz6 := near_len (name.take drop ++ name.drop (drop + 1)) 1 (l := l)
                        refine x_reg ?_
                        refine go 3 rfl trivial ?_
                        refine ops_dec 179 rfl (fun c21 => ?_) (fun c21 => ?_)
                        · refine go 2 rfl trivial ?_
                          refine ops_guard_yes rfl rfl rfl ?_
                          refine ops_call rfl rfl rfl (callsH_to (w14 name (l := nearF l (name.take drop ++ name.drop (drop + 1)) 1) (by omega) he) (near_drop hname hdrop)) ?_
                          rintro _ hq ⟨rfl, e9⟩
                          obtain rfl := e9.symm
                          refine go 2 rfl trivial ?_
                          refine ops_guard_yes rfl rfl rfl ?_
                          refine ops_call rfl rfl rfl (w11) ?_
                          rintro _ hw ⟨rfl, hew⟩
                          refine go 1000 rfl trivial (ops_nil ?_)
                          repeat refine x_seq ?_
                          exact x_ret (at_ret rfl rfl rfl rfl ⟨rfl, ((heac.trans he35).trans hee).trans hew⟩ (.inl rfl))
                        · exact absurd rfl c21

end Go.Proofs.YtmfgiabmmdbmoaaGreatDoor
