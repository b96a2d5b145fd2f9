/-
  A part of the proofs of the laws of the index: what the functions of this program compute. Conditions: none beyond those that its theorems name.
-/
import Derived.Test.YtmfgiabmmdbmoaaGreatDoorGwLaw5
import Derived.Test.YtmfgiabmmdbmoaaGreatDoorGwLaw6
import Derived.Test.YtmfgiabmmdbmoaaGreatDoorGwIx10
namespace Go.Proofs.YtmfgiabmmdbmoaaGreatDoor
open Go.Gw Go.Ix Go.Sort

/-- Two rows: how often one comes to a state, and how long its words are. -/
structure SrI (h : Hp) (bc bl : Nat) (s : List St) (C : Nat → Nat) (j : Nat) (w : Int) (h' : Hp) : Prop where
  ext : Ext h h'
  c0 : h.size ≤ bc
  l0 : h.size ≤ bl
  ne : bc ≠ bl
  c1 : h'[bc]? = some (.cells ⟨(List.range s.length).map fun j => I (C j)⟩ 3 (0, 0))
  c2 : h'[bl]? = some (.cells ⟨(rowG (lonF s) s.length j w).map I⟩ 3 (0, 0))
theorem come_row0 (n : Nat) : ((List.range n).map fun _ => I ((0 : Nat) : Int)) = List.replicate n (I 0) := by
  rw [List.map_const', List.length_range]; rfl
theorem row_c {h' : Hp} {b n i : Nat} {C : Nat → Nat} (hb : h'[b]? = some (.cells ⟨(List.range n).map fun j => I (C j)⟩ 3 (0, 0))) (hi : i < n) : hcell h' ((⟨b, 0, none⟩ : Addr).add (scl i 1)) = some (I (C i)) := by
  rw [scl_eq, Nat.mul_one, add_head, hcell_block hb]
  simp [hi]
theorem patch_c {n t v : Nat} {C : Nat → Nat} (ht : t < n) : patch ((List.range n).map fun j => I (C j)) t [I v] = (List.range n).map fun j => I (upd C t v j) := by
  rw [patch_set (by simpa using ht)]
  apply List.ext_getElem?
  intro i
  rw [List.getElem?_set]
  by_cases h : t = i
  · subst h; simp [ht, upd]
  · rw [if_neg h]
    by_cases h2 : i < n
    · simp [h2, upd, Ne.symm h]
    · simp [h2]
section
variable {h h' h2 : Hp} {bc bl : Nat} {s : List St} {C : Nat → Nat} {i j : Nat} {w x : Int}
theorem SrI.pc (r : SrI h bc bl s C j w h') {C' : Nat → Nat} (hp : Put h' h2 bc (.cells ⟨(List.range s.length).map fun j => I (C' j)⟩ 3 (0, 0))) : SrI h bc bl s C' j w h2 :=
  ⟨Bel.trans r.ext (hp.bel r.c0), r.c0, r.l0, r.ne, hp.get, hp.keep r.c2 (Ne.symm r.ne)⟩
theorem SrI.pl (r : SrI h bc bl s C (i + 1) w h') (hp : Put h' h2 bl (.cells ⟨(rowG (lonF s) s.length (i + 1) x).map I⟩ 3 (0, 0))) : SrI h bc bl s C (i + 1) x h2 :=
  ⟨Bel.trans r.ext (hp.bel r.l0), r.c0, r.l0, r.ne, hp.keep r.c1 r.ne, hp.get⟩
theorem SrI.back (r : SrI h bc bl s C (i + 1) (lonF s i) h') : SrI h bc bl s C i 0 h' :=
  ⟨r.ext, r.c0, r.l0, r.ne, r.c1, by have := r.c2; rwa [rowG_step (F := lonF s)] at this⟩
end
theorem sts_one {h h' : Hp} (e : Ext h h') {q : Addr} {cap : Nat} {s : List St} (hl : Sts h (.slice (some q) s.length cap) s) {i n c : Nat} (hi : i < s.length) (hn : n = 1) (hc : 1 ≤ c) : Sts h' (.slice (slA (some q) cap i 3) n c) [s[i]] := by
  subst hn
  obtain ⟨a, cap', hv, hcp, hx⟩ := hl.ext e
  cases hv
  obtain ⟨p, hp, hst⟩ := hx i hi
  cases hp
  refine ⟨some (q.add (scl i 3)), c, ?_, hc, ?_⟩
  · unfold slA; rw [if_neg (by omega)]; rfl
  · intro j hj
    have : j = 0 := by simpa using hj
    subst this
    refine ⟨_, rfl, ?_⟩
    rw [scl_eq 0 3, Nat.zero_mul]
    exact hst
theorem sms_one {s : List St} (g : GoodS s) {i : Nat} (hi : i < s.length) : SmS [s[i]] :=
  ⟨by simp, fun x hx => by rw [List.mem_singleton] at hx; subst hx; have := good_next g (List.getElem_mem hi); omega⟩
theorem sorted_facts {l : List Bs} (ok : Ok l) (hl : l ≠ []) : ∃ s, statesL l = s ∧ GoodS s ∧ (∀ i j (hi : i < s.length) (hj : j < s.length), i ≠ j → s[i] ≠ s[j]) ∧ (∀ i j, j < s.length → j ≤ i → From s i 0 j) ∧
    (∀ i, i + 1 < s.length → lonF s (i + 1) ≤ lonF s i) ∧ (∀ i, i < s.length → words s i ≠ []) ∧ cw s 0 ≤ 30 :=
  ⟨_, rfl, good_states ok, fun _ _ hi hj hne => st_ne ok hi hj hne, fun _ _ hj hij => from_st ok hj hij, fun _ hi => (st_long ok hl hi).1, fun _ hi => words_some ok hl hi, by show (words (statesL l) 0).length ≤ 30; rw [words_zero ok]; exact ok.few⟩

/-- burin/burinlaw11.IndexSorted -/
theorem ok7 : FnOk Tryz.prog 7 := fnok Tryz.func7 (by kernel_rfl) rfl
set_option maxRecDepth 10000 in
theorem w7 {h : Hp} {v : Value} {l : List Bs} (hl : Strs h v l) : CallsH Tryz.prog 7 #[v] h (fun r h' => r = .bool true ∧ Ext h h') := by
  have hlo := hl
  obtain ⟨a, cap0, rfl, hcap0, hl⟩ := Strs.op hl
  refine enter ok7 Tryz.func7 rfl Tryz.ntmps7 (by simp) (fun w0 => ?_)
  repeat refine x_seq ?_
  refine goes rfl trivial ?_
  repeat refine x_seq ?_
  refine x_reg ?_
  refine go 1 rfl trivial ?_
  refine ops_call rfl rfl rfl (w10 hlo) ?_
  rintro _ hq ⟨rfl, e9⟩
  obtain rfl := e9.symm
  refine go 2 rfl trivial ?_
  refine ops_bool 15 rfl (fun c1 => ?_) (fun c1 => ?_)
  · refine go 1000 rfl trivial (ops_nil ?_)
    repeat refine x_seq ?_
    refine x_true rfl ?_
    repeat refine x_seq ?_
    refine x_reg ?_
    refine ops_call rfl rfl rfl (w11) ?_
    rintro _ hw ⟨rfl, hew⟩
    refine go 1000 rfl trivial (ops_nil ?_)
    repeat refine x_seq ?_
    exact x_ret (at_ret rfl rfl rfl rfl ⟨rfl, hew⟩ (.inl rfl))
  · refine go 1000 rfl trivial (ops_nil ?_)
    repeat refine x_seq ?_
    refine x_ifd rfl (fun c2 => ?_) (fun c2 => ?_)
    · repeat refine x_seq ?_
      refine x_reg ?_
      refine ops_call rfl rfl rfl (w11) ?_
      rintro _ hw ⟨rfl, hew⟩
      refine go 1000 rfl trivial (ops_nil ?_)
      repeat refine x_seq ?_
      exact x_ret (at_ret rfl rfl rfl rfl ⟨rfl, hew⟩ (.inl rfl))
    · repeat refine x_seq ?_
      refine x_skip ?_
      repeat refine x_seq ?_
      have ok : Ok l := fine_ok (by simpa using c1)
      obtain ⟨s, hS, g, hdiff, hfrom, hlong, hsome, hw0⟩ := sorted_facts ok (List.ne_nil_of_length_pos (by omega))
      have g1 := g.lo
      have g2 := g.hi
      refine x_reg ?_
      refine go 1 rfl trivial ?_
      refine ops_call rfl rfl rfl (w21 ok hlo) ?_
      rintro _ hh ⟨vs, rfl, hs, heh⟩
      rw [hS] at hs
      have hs0 := hs
      obtain ⟨as', cap, rfl, hcap, hx⟩ := hs
      obtain ⟨q, rfl, nv0, hcs0, hnv0⟩ := hx 0 (by omega)
      refine go 1000 rfl trivial (ops_nil ?_)
      repeat refine x_seq ?_
      refine goes rfl trivial ?_
      repeat refine x_seq ?_
      refine x_if rfl (fun c3 => ?_) (fun c3 => ?_)
      · cases c3
      · repeat refine x_seq ?_
        refine x_skip ?_
        repeat refine x_seq ?_
        refine x_tree (C := ⟨Tryz.prog, _, _, _, _⟩) (.q 0 (.q 1 (.q 3 (.q 4 (.fork 2 (.q 6 (.act 5 (.q 7 .done))) 5 (.act 2 (.q 6 (.q 7 .done)))))))) (fun E' h' => ∃ bm bl, SrI hh bm bl s (fun _ => 0) s.length 0 h' ∧ subs E' [(3, .slice (some q) s.length cap), (5, .slice (some ⟨bm, 0, none⟩) s.length s.length), (6, .slice (some ⟨bl, 0, none⟩) s.length s.length)]) mixed (by kernel_rfl) ?_ ?_
        · refine t_pv tabOk rfl rfl (fun _ e => by cases e) rfl ?_
          refine t_pv tabOk rfl rfl (fun _ e => by cases e) rfl ?_
          refine t_pv tabOk rfl rfl (fun _ e => by cases e) rfl ?_
          refine t_pv tabOk rfl rfl (fun _ e => by cases e) rfl ?_
          refine t_fork rfl rfl ?_ ?_
          · refine ops_make tabOk rfl rfl rfl rfl rfl rfl rfl ⟨by omega, by omega, by show (8 : Int) * (s.length : Int) ≤ 281474976710656; omega, by omega⟩ rfl ?_
            intro h1 hn1
            refine ops_nil ?_
            refine t_pv tabOk rfl rfl (fun _ e => by cases e) rfl ?_
            refine t_act rfl ?_
            refine ops_make tabOk rfl rfl rfl rfl rfl rfl rfl ⟨by omega, by omega, by show (8 : Int) * (s.length : Int) ≤ 281474976710656; omega, by omega⟩ rfl ?_
            intro h2 hn2
            refine ops_nil ?_
            refine t_pv tabOk rfl rfl (fun _ e => by cases e) rfl ?_
            refine t_done ?_
            have s1 := hn1.size
            refine ⟨hh.size, h1.size, ⟨hn1.ext.trans hn2.ext, Nat.le_refl _, by omega, by omega, ?_, ?_⟩, rfl, rfl, rfl, trivial⟩
            · rw [come_row0]; have h9 := hn2.ext.get hn1.get; simpa using h9
            · rw [← rowG_init]; simpa using hn2.get
          · refine ops_make tabOk rfl rfl rfl rfl rfl rfl rfl ⟨by omega, by omega, by show (8 : Int) * (s.length : Int) ≤ 281474976710656; omega, by omega⟩ rfl ?_
            intro h1 hn1
            refine ops_nil ?_
            refine t_act rfl ?_
            refine ops_make tabOk rfl rfl rfl rfl rfl rfl rfl ⟨by omega, by omega, by show (8 : Int) * (s.length : Int) ≤ 281474976710656; omega, by omega⟩ rfl ?_
            intro h2 hn2
            refine ops_nil ?_
            refine t_pv tabOk rfl rfl (fun _ e => by cases e) rfl ?_
            refine t_pv tabOk rfl rfl (fun _ e => by cases e) rfl ?_
            refine t_done ?_
            have s1 := hn1.size
            refine ⟨h1.size, hh.size, ⟨hn1.ext.trans hn2.ext, by omega, Nat.le_refl _, by omega, ?_, ?_⟩, rfl, rfl, rfl, trivial⟩
            · rw [come_row0]; simpa using hn2.get
            · rw [← rowG_init]; have h9 := hn2.ext.get hn1.get; simpa using h9
        rintro E1 h1 ⟨bm, bl, hL1, hsub⟩
        refine X.weaken (C := ⟨Tryz.prog, _, _, _, _⟩) (subs_sub hsub) ?_
        repeat refine x_seq ?_
        refine x_reg ?_
        refine go 2 rfl ⟨by first | omega | (simp only [inK]; omega), trivial⟩ ?_
        refine ops_storeA (b := bm) (o := 0) (vs := [I 1]) (cs' := ((List.range s.length).map fun j => I (upd (fun _ => 0) 0 1 j))) tabOk rfl rfl (by first | rfl | (rw [scl_eq, Nat.mul_one, add_head]; rfl)) rfl rfl rfl rfl hL1.c1 (by simp; omega) (patch_c (v := 1) (by omega)) ?_
        intro h4 hp4
        have hL4 := hL1.pc hp4
        have hcome0 := come_zero (by omega) hw0
        refine ops_nil ?_
        repeat refine x_seq ?_
        refine goes rfl trivial ?_
        repeat refine x_seq ?_
        refine x_block ?_
        repeat refine x_seq ?_
        refine x_loop (fun x : Nat × (Nat → Nat) => [(3, .slice (some q) s.length cap), (5, .slice (some ⟨bm, 0, none⟩) s.length s.length), (6, .slice (some ⟨bl, 0, none⟩) s.length s.length), (7, I x.1)]) (fun x h' => (SrI hh bm bl s x.2 s.length 0 h' ∧ Come s x.1 x.2) ∧ (x.1 ≤ s.length)) (fun x => s.length - x.1) (0, upd (fun _ => 0) 0 1) ⟨rfl, rfl, rfl, rfl, trivial⟩ ⟨⟨hL4, hcome0⟩, by omega⟩ ?_
        rintro ⟨i, C⟩ h5 ⟨⟨hL, hcome⟩, hk⟩ K1 hK1
        dsimp only at hL hcome hk ⊢
        repeat refine x_seq ?_
        refine goes rfl trivial ?_
        repeat refine x_seq ?_
        refine x_ifd rfl (fun c4 => ?_) (fun c4 => ?_)
        · repeat refine x_seq ?_
          refine x_skip ?_
          repeat refine x_seq ?_
          refine x_block ?_
          repeat refine x_seq ?_
          have hi : i < s.length := by omega
          obtain ⟨q', hq', nv, hcs, hnv⟩ := hx i hi
          cases hq'
          obtain ⟨an, cn, rfl, hcn, hnx⟩ := hnv.op
          have hxm : s[i] ∈ s := List.getElem_mem hi
          have hxl := g.len _ hxm
          have hnl := good_next g hxm
          have hpw := words_part g hi
          have hxe := g.ends _ hxm
          refine goes rfl trivial ?_
          repeat refine x_seq ?_
          refine x_block ?_
          repeat refine x_seq ?_
          refine x_loop (fun y : Nat × (Nat → Nat) => [(3, .slice (some q) s.length cap), (5, .slice (some ⟨bm, 0, none⟩) s.length s.length), (6, .slice (some ⟨bl, 0, none⟩) s.length s.length), (7, I i), (8, I y.1)]) (fun y h' => (SrI hh bm bl s y.2 s.length 0 h' ∧ ComeK s i y.1 hi y.2) ∧ (y.1 ≤ s[i].next.length)) (fun y => s[i].next.length - y.1) (0, C) ⟨rfl, rfl, rfl, rfl, rfl, trivial⟩ ⟨⟨hL, hcome.enter hi (hfrom i i hi (Nat.le_refl _))⟩, by simp⟩ ?_
          rintro ⟨k, C⟩ h8 ⟨⟨hL8, hK⟩, hk8⟩ K2 hK2
          dsimp only at hL8 hK hk8 ⊢
          repeat refine x_seq ?_
          refine x_reg ?_
          refine go 5 rfl ⟨by first | omega | (simp only [inK]; omega), trivial⟩ ?_
          refine ops_load tabOk rfl rfl rfl rfl (hL8.ext.cell (hcs 2 _ rfl)) ?_
          refine go 1000 rfl trivial (ops_nil ?_)
          repeat refine x_seq ?_
          refine x_ifd rfl (fun c5 => ?_) (fun c5 => ?_)
          · repeat refine x_seq ?_
            refine x_skip ?_
            repeat refine x_seq ?_
            refine x_block ?_
            repeat refine x_seq ?_
            have hlt : k < s[i].next.length := by omega
            obtain ⟨p9, rfl, hp9⟩ := hnx k hlt
            have hnn := g.next i hi _ (List.getElem_mem hlt)
            obtain ⟨n, hn⟩ : ∃ n : Nat, s[i].next[k] = (n : Int) := ⟨s[i].next[k].toNat, (Int.toNat_of_nonneg (by omega)).symm⟩
            have hnlt : n < s.length := by omega
            have hin : i < n := by omega
            have hn9 : s[i].next[k].toNat = n := by omega
            have hsml := hK.small g hlt hn (hsome n hnlt)
            refine x_draw [(0, true), (1, true), (2, true), (3, true), (4, true), (5, true), (6, true), (7, true), (8, true), (9, true), (10, true), (11, true), (12, true), (13, true), (14, true), (15, true), (16, true)] [17] (· = _) mixed (by kernel_rfl) rfl rfl rfl ?_
            refine sgo 5 rfl ⟨by first | omega | (simp only [inK]; omega), trivial⟩ ?_
            refine seq_load tabOk rfl rfl rfl rfl (by rintro _ rfl; exact (hL8.ext.cell (hcs 2 _ rfl))) ?_
            refine sgo 2 rfl ⟨by first | omega | (simp only [inK]; omega), trivial⟩ ?_
            refine seq_load tabOk rfl rfl rfl rfl (by rintro _ rfl; exact (show hcell _ _ = some (I (n : Int)) from by rw [← hn]; exact hL8.ext.cell hp9)) ?_
            refine sgo 1 rfl ⟨by first | omega | (simp only [inK]; omega), trivial⟩ ?_
            refine seq_load tabOk rfl rfl rfl rfl (by rintro _ rfl; exact (show hcell _ _ = some (I (C n : Int)) from row_c hL8.c1 hnlt)) ?_
            refine sgo 3 rfl ⟨by first | omega | (simp only [inK]; omega), trivial⟩ ?_
            refine seq_load tabOk rfl rfl rfl rfl (by rintro _ rfl; exact (show hcell _ _ = some (I (C i : Int)) from row_c hL8.c1 hi)) ?_
            refine sgo 1000 rfl ⟨by first | omega | (simp only [inK]; omega), by first | omega | (simp only [inK]; omega), trivial⟩ (seq_tail ?_)
            refine ops_storeA (b := bm) (o := n) (vs := [I ((C n : Int) + (C i : Int))]) (cs' := ((List.range s.length).map fun j => I (upd C n (C n + C i) j))) tabOk rfl rfl (by first | rfl | (rw [scl_eq, Nat.mul_one, add_head]; rfl)) rfl rfl rfl rfl hL8.c1 (by simp; omega) (patch_c (v := C n + C i) hnlt) ?_
            intro h9 hp9b
            have hL9 := hL8.pc hp9b
            refine ops_nil ?_
            refine x_out ?_
            repeat refine x_seq ?_
            refine goes rfl ⟨by first | omega | (simp only [inK]; omega), trivial⟩ ?_
            refine x_next (k + 1, upd C n (C n + C i)) ⟨rfl, rfl, rfl, rfl, rfl, trivial⟩ ⟨⟨hL9, hK.step g hlt hn⟩, by show k + 1 ≤ _; omega⟩ (by show s[i].next.length - (k + 1) < s[i].next.length - k; omega)
          · repeat refine x_seq ?_
            refine x_exit_loop hK2 rfl rfl ?_
            repeat refine x_seq ?_
            refine goes rfl trivial ?_
            repeat refine x_seq ?_
            refine x_block ?_
            repeat refine x_seq ?_
            refine x_loop (fun t : Nat => [(3, .slice (some q) s.length cap), (5, .slice (some ⟨bm, 0, none⟩) s.length s.length), (6, .slice (some ⟨bl, 0, none⟩) s.length s.length), (7, I i), (9, I t)]) (fun t h' => (h8 = h') ∧ (t ≤ i)) (fun t => i - t) 0 ⟨rfl, rfl, rfl, rfl, rfl, trivial⟩ ⟨rfl, by omega⟩ ?_
            rintro t h6 ⟨rfl, ht⟩ K3 hK3
            repeat refine x_seq ?_
            refine goes rfl trivial ?_
            repeat refine x_seq ?_
            refine x_ifd rfl (fun c6 => ?_) (fun c6 => ?_)
            · repeat refine x_seq ?_
              refine x_skip ?_
              repeat refine x_seq ?_
              refine x_block ?_
              repeat refine x_seq ?_
              have htl : t < s.length := by omega
              refine x_draw [(0, true), (1, true), (2, true), (3, true), (4, true), (5, true), (6, true), (7, true), (8, true), (9, true)] [10] (· = _) mixed (by kernel_rfl) rfl rfl rfl ?_
              refine sgo 1000 rfl ⟨by first | omega | (simp only [inK]; omega), by first | omega | (simp only [inK]; omega), by first | omega | (simp only [inK]; omega), by first | omega | (simp only [inK]; omega), trivial⟩ (seq_tail ?_)
              refine ops_call rfl rfl rfl (show CallsH Tryz.prog 22 #[.slice (slA (some q) cap (i : Int).toNat 3) (((i : Int) + 1).toNat - (i : Int).toNat) (cap - (i : Int).toNat), .slice (slA (some q) cap (t : Int).toNat 3) (((t : Int) + 1).toNat - (t : Int).toNat) (cap - (t : Int).toNat)] h8 (fun r h' => r = .bool false ∧ h' = h8) from (w22 (sms_one g hi) (sts_one hL8.ext hs0 hi (by omega) (by omega)) (sts_one hL8.ext hs0 htl (by omega) (by omega))).mono (by rintro _ _ ⟨rfl, rfl⟩; exact ⟨by rw [decide_eq_false (fun e => hdiff i t hi htl (by omega) (List.cons.inj e).1)], rfl⟩)) ?_
              rintro _ hq ⟨rfl, e9⟩
              obtain rfl := e9.symm
              refine ops_nil ?_
              repeat refine x_seq ?_
              refine x_false rfl ?_
              repeat refine x_seq ?_
              refine x_skip ?_
              refine x_out ?_
              repeat refine x_seq ?_
              refine goes rfl ⟨by first | omega | (simp only [inK]; omega), trivial⟩ ?_
              refine x_next (t + 1) ⟨rfl, rfl, rfl, rfl, rfl, trivial⟩ ⟨rfl, by omega⟩ (by omega)
            · repeat refine x_seq ?_
              refine x_exit_loop hK3 rfl rfl ?_
              refine x_out ?_
              repeat refine x_seq ?_
              refine goes rfl ⟨by first | omega | (simp only [inK]; omega), trivial⟩ ?_
              refine x_next (i + 1, C) ⟨rfl, rfl, rfl, rfl, trivial⟩ ⟨⟨hL8, hK.leave (by omega)⟩, by show i + 1 ≤ _; omega⟩ (by show s.length - (i + 1) < s.length - i; omega)
        · repeat refine x_seq ?_
          refine x_exit_loop hK1 rfl rfl ?_
          repeat refine x_seq ?_
          have hC1 : ∀ j < s.length, 1 ≤ C j := fun j hj => hcome.pos j (hfrom i j hj (by omega))
          refine goes rfl ⟨by first | omega | (simp only [inK]; omega), trivial⟩ ?_
          repeat refine x_seq ?_
          refine x_block ?_
          repeat refine x_seq ?_
          refine x_loop (fun x : Nat => [(3, .slice (some q) s.length cap), (5, .slice (some ⟨bm, 0, none⟩) s.length s.length), (6, .slice (some ⟨bl, 0, none⟩) s.length s.length), (10, I ((x : Int) - 1))]) (fun x h' => (SrI hh bm bl s C x 0 h') ∧ (x ≤ s.length)) (fun x => x) s.length ⟨rfl, rfl, rfl, rfl, trivial⟩ ⟨hL, by omega⟩ ?_
          rintro x h5 ⟨hL, hk⟩ K4 hK4
          repeat refine x_seq ?_
          refine goes rfl trivial ?_
          repeat refine x_seq ?_
          refine x_ifd rfl (fun c7 => ?_) (fun c7 => ?_)
          · repeat refine x_seq ?_
            refine x_skip ?_
            repeat refine x_seq ?_
            refine x_block ?_
            repeat refine x_seq ?_
            obtain ⟨i, rfl⟩ : ∃ i, x = i + 1 := ⟨x - 1, by omega⟩
            have hi : i < s.length := by omega
            rw [show (((i + 1 : Nat) : Int) - 1) = (i : Int) from by omega]
            obtain ⟨q', hq', nv, hcs, hnv⟩ := hx i hi
            cases hq'
            obtain ⟨an, cn, rfl, hcn, hnx⟩ := hnv.op
            have hxm : s[i] ∈ s := List.getElem_mem hi
            have hxl := g.len _ hxm
            have hnl := good_next g hxm
            have hpw := words_part g hi
            have hxe := g.ends _ hxm
            refine x_reg ?_
            refine go 6 rfl ⟨by first | omega | (simp only [inK]; omega), trivial⟩ ?_
            refine ops_load tabOk rfl rfl rfl rfl (hL.ext.cell (hcs 0 _ rfl)) ?_
            refine go 2 rfl ⟨by first | omega | (simp only [inK]; omega), by first | omega | (simp only [inK]; omega), trivial⟩ ?_
            refine ops_storeA (b := bl) (o := i) (vs := [I (s[i].ends - 1)]) (cs' := (rowG (lonF s) s.length (i + 1) (s[i].ends - 1)).map I) tabOk rfl rfl (by first | rfl | (rw [scl_eq, Nat.mul_one, add_head]; rfl)) rfl rfl rfl rfl hL.c2 (by rw [List.length_map, rowG_len]; exact hi) (patch_rowG hi) ?_
            intro h7 hp7
            have hL7 := hL.pl hp7
            rw [lon_part0 g hxm] at hL7
            refine ops_nil ?_
            repeat refine x_seq ?_
            refine goes rfl trivial ?_
            repeat refine x_seq ?_
            refine x_block ?_
            repeat refine x_seq ?_
            refine x_loop (fun k : Nat => [(3, .slice (some q) s.length cap), (5, .slice (some ⟨bm, 0, none⟩) s.length s.length), (6, .slice (some ⟨bl, 0, none⟩) s.length s.length), (10, I i), (11, I k)]) (fun k h' => (SrI hh bm bl s C (i + 1) (longI (partW s s[i] k)) h') ∧ (k ≤ s[i].next.length)) (fun k => s[i].next.length - k) 0 ⟨rfl, rfl, rfl, rfl, rfl, trivial⟩ ⟨hL7, by omega⟩ ?_
            rintro k h8 ⟨hL8, hk8⟩ K5 hK5
            repeat refine x_seq ?_
            refine x_reg ?_
            refine go 5 rfl ⟨by first | omega | (simp only [inK]; omega), trivial⟩ ?_
            refine ops_load tabOk rfl rfl rfl rfl (hL8.ext.cell (hcs 2 _ rfl)) ?_
            refine go 1000 rfl trivial (ops_nil ?_)
            repeat refine x_seq ?_
            refine x_ifd rfl (fun c8 => ?_) (fun c8 => ?_)
            · repeat refine x_seq ?_
              refine x_skip ?_
              repeat refine x_seq ?_
              refine x_block ?_
              repeat refine x_seq ?_
              have hlt : k < s[i].next.length := by omega
              obtain ⟨p9, rfl, hp9⟩ := hnx k hlt
              have hnn := g.next i hi _ (List.getElem_mem hlt)
              obtain ⟨n, hn⟩ : ∃ n : Nat, s[i].next[k] = (n : Int) := ⟨s[i].next[k].toNat, (Int.toNat_of_nonneg (by omega)).symm⟩
              have hnlt : n < s.length := by omega
              have hin : i < n := by omega
              have hn9 : s[i].next[k].toNat = n := by omega
              have hq3 : lonF s n ≤ s.length - n := lon_rng g _ n rfl hnlt
              have hq4 : -1 ≤ lonF s n := longI_ge (words s n)
              have hps := partW_succ (s := s) hxl hlt (by omega)
              have hpos : 0 ≤ longI (words s n) := longI_pos (hsome n hnlt)
              refine x_draw [(0, true), (1, true), (2, true), (3, true), (4, true), (5, true), (6, true), (7, true), (8, true), (9, true), (10, true), (11, true), (12, true), (13, true), (14, true), (15, true), (16, true), (17, true), (18, true), (19, true)] [20] (· = _) mixed (by kernel_rfl) rfl rfl rfl ?_
              refine sgo 5 rfl ⟨by first | omega | (simp only [inK]; omega), trivial⟩ ?_
              refine seq_load tabOk rfl rfl rfl rfl (by rintro _ rfl; exact (row_at hL8.c2 hi)) ?_
              refine sgo 5 rfl ⟨by first | omega | (simp only [inK]; omega), trivial⟩ ?_
              refine seq_load tabOk rfl rfl rfl rfl (by rintro _ rfl; exact (hL8.ext.cell (hcs 2 _ rfl))) ?_
              refine sgo 2 rfl ⟨by first | omega | (simp only [inK]; omega), trivial⟩ ?_
              refine seq_load tabOk rfl rfl rfl rfl (by rintro _ rfl; exact (show hcell _ _ = some (I (n : Int)) from by rw [← hn]; exact hL8.ext.cell hp9)) ?_
              refine sgo 1 rfl ⟨by first | omega | (simp only [inK]; omega), trivial⟩ ?_
              refine seq_load tabOk rfl rfl rfl rfl (by rintro _ rfl; exact (show hcell _ _ = some (I (lonF s n)) from row_past hL8.c2 hin hnlt)) ?_
              refine sgo 1000 rfl ⟨by first | omega | (simp only [inK]; omega), by first | omega | (simp only [inK]; omega), trivial⟩ (seq_tail ?_)
              refine ops_storeA (b := bl) (o := i) (vs := [I (if 1 + lonF s n > longI (partW s s[i] k) then 1 + lonF s n else longI (partW s s[i] k))]) (cs' := (rowG (lonF s) s.length (i + 1) (longI (partW s s[i] (k + 1)))).map I) tabOk rfl rfl (by first | rfl | (rw [scl_eq, Nat.mul_one, add_head]; rfl)) rfl rfl rfl rfl hL8.c2 (by rw [List.length_map, rowG_len]; exact hi) (by rw [max_if, hps, longI_app, hn9, if_pos hpos]; exact patch_rowG hi) ?_
              intro ha hpa
              have hLa := hL8.pl hpa
              refine ops_nil ?_
              refine x_out ?_
              repeat refine x_seq ?_
              refine goes rfl ⟨by first | omega | (simp only [inK]; omega), trivial⟩ ?_
              refine x_next (k + 1) ⟨rfl, rfl, rfl, rfl, rfl, trivial⟩ ⟨hLa, by omega⟩ (by omega)
            · repeat refine x_seq ?_
              refine x_exit_loop hK5 rfl rfl ?_
              repeat refine x_seq ?_
              rw [show s[i].next.length = k from by omega] at hpw
              rw [← hpw] at hL8
              have hc9 := hC1 i hi
              have hl9 : 0 ≤ lonF s i := longI_pos (hsome i hi)
              refine x_draw [(0, true), (1, true), (2, true), (3, true), (4, true), (5, true), (6, true), (7, true), (8, true), (9, true), (10, true), (11, true), (12, true), (13, true), (14, true), (15, true), (16, true), (17, true), (18, true), (19, true), (20, true), (21, true), (22, true), (23, true), (24, true), (25, true), (26, true), (27, true), (28, true), (29, true), (30, true)] [] (· = _) mixed (by kernel_rfl) rfl rfl rfl ?_
              refine sgo 3 rfl ⟨by first | omega | (simp only [inK]; omega), trivial⟩ ?_
              refine seq_load tabOk rfl rfl rfl rfl (by rintro _ rfl; exact (show hcell _ _ = some (I (C i : Int)) from row_c hL8.c1 hi)) ?_
              refine sgo 2 rfl trivial ?_
              refine seq_dec 136 rfl (fun c9 => ?_) (fun c9 => ?_)
              · omega
              · refine sgo 3 rfl ⟨by first | omega | (simp only [inK]; omega), trivial⟩ ?_
                refine seq_guard_yes rfl rfl rfl ?_
                refine seq_load tabOk rfl rfl rfl rfl (by rintro _ rfl; exact (show hcell _ _ = some (I (lonF s i)) from row_at hL8.c2 hi)) ?_
                refine sgo 3 rfl trivial ?_
                refine seq_dec 143 rfl (fun c10 => ?_) (fun c10 => ?_)
                · omega
                · refine sgo 6 rfl ⟨by first | omega | (simp only [inK]; omega), trivial⟩ ?_
                  refine seq_dec 149 rfl (fun c11 => ?_) (fun c11 => ?_)
                  · refine sgo 3 rfl ⟨by first | omega | (simp only [inK]; omega), trivial⟩ ?_
                    refine seq_guard_yes rfl rfl rfl ?_
                    refine seq_load tabOk rfl rfl rfl rfl (by rintro _ rfl; exact (show hcell _ _ = some (I (lonF s i)) from row_at hL8.c2 hi)) ?_
                    refine sgo 4 rfl ⟨by first | omega | (simp only [inK]; omega), by first | omega | (simp only [inK]; omega), trivial⟩ ?_
                    refine seq_guard_yes rfl rfl rfl ?_
                    refine seq_load tabOk rfl rfl rfl rfl (by rintro _ rfl; exact (show hcell _ ((⟨bl, 0, none⟩ : Addr).add (scl ((i : Int) + 1).toNat 1)) = some (I (lonF s (i + 1))) from row_past (n := i + 1) hL8.c2 (by omega) (by omega))) ?_
                    refine sgo 1000 rfl trivial (seq_tail ?_)
                    refine ops_nil ?_
                    repeat refine x_seq ?_
                    refine x_ifd rfl (fun c12 => ?_) (fun c12 => ?_)
                    · have := hlong i (by omega); omega
                    · repeat refine x_seq ?_
                      refine x_skip ?_
                      refine x_out ?_
                      repeat refine x_seq ?_
                      refine goes rfl ⟨by first | omega | (simp only [inK]; omega), trivial⟩ ?_
                      refine x_next i ⟨rfl, rfl, rfl, rfl, trivial⟩ ⟨hL8.back, by omega⟩ (by show i < i + 1; omega)
                  · refine sgo 1000 rfl trivial (seq_tail ?_)
                    refine ops_nil ?_
                    repeat refine x_seq ?_
                    refine x_false rfl ?_
                    repeat refine x_seq ?_
                    refine x_skip ?_
                    refine x_out ?_
                    repeat refine x_seq ?_
                    refine goes rfl ⟨by first | omega | (simp only [inK]; omega), trivial⟩ ?_
                    refine x_next i ⟨rfl, rfl, rfl, rfl, trivial⟩ ⟨hL8.back, by omega⟩ (by show i < i + 1; omega)
          · repeat refine x_seq ?_
            refine x_exit_loop hK4 rfl rfl ?_
            repeat refine x_seq ?_
            refine x_reg ?_
            refine ops_call rfl rfl rfl (w11) ?_
            rintro _ hw ⟨rfl, hew⟩
            refine go 1000 rfl trivial (ops_nil ?_)
            repeat refine x_seq ?_
            exact x_ret (at_ret rfl rfl rfl rfl ⟨rfl, (heh.trans hL.ext).trans hew⟩ (.inl rfl))

end Go.Proofs.YtmfgiabmmdbmoaaGreatDoor
