/-
  A part of the proofs of the laws of the index: what the functions of this program compute. Conditions: none beyond those that its theorems name.
-/
import Derived.Test.YtmfgiabmmdbmoaaGreatDoorGwId14
namespace Go.Proofs.YtmfgiabmmdbmoaaGreatDoor
open Go.Gw Go.Ix Go.Sort

abbrev Pt (b : Nat) : Value := .pointer (some ⟨b, 0, none⟩)
/-- What the reading closure finds. -/
structure RdC (h hb : Hp) (bs bo bl bw br : Nat) (vs : Value) (s : List St) : Prop where
  ext : Ext h hb
  o1 : h.size ≤ bo
  o2 : bo < hb.size
  c1 : hb[bs]? = some (.cells ⟨[vs]⟩ 38 (0, 0))
  n1 : bs ≠ bo
  c2 : hb[bl]? = some (.cells ⟨[.slice (some ⟨br, 0, none⟩) s.length s.length]⟩ 41 (0, 0))
  n2 : bl ≠ bo
  c3 : hb[bw]? = some (.cells ⟨[.func (.func 79) #[] #[Pt bs, Pt bo, Pt bl, Pt bw]]⟩ 103 (0, 0))
  n3 : bw ≠ bo
  c4 : hb[br]? = some (.cells ⟨(List.range s.length).map fun i => I (liveB (words s i))⟩ 3 (0, 0))
  n4 : br ≠ bo
  sts : Sts h vs s
/-- So far xs has been read. -/
def RdI (hb : Hp) (bo : Nat) (xs : List Bs) (h' : Hp) : Prop :=
  hb.size ≤ h'.size ∧ (∀ k, k < hb.size → k ≠ bo → h'[k]? = hb[k]?) ∧ ∃ ao co, h'[bo]? = some (.cells ⟨[.slice ao xs.length co]⟩ 22 (0, 0)) ∧ Own hb.size h' 9 1 (.slice ao xs.length co) xs.length (xs.map S)
section
variable {h hb h' : Hp} {bs bo bl bw br : Nat} {vs : Value} {s : List St} {xs : List Bs}
theorem RdI.get (i : RdI hb bo xs h') {k : Nat} {o : Obj} (hk : hb[k]? = some o) (hn : k ≠ bo) : h'[k]? = some o := (i.2.1 k (lt_of_get hk) hn).trans hk
theorem RdC.stc (cx : RdC h hb bs bo bl bw br vs s) (i : RdI hb bo xs h') {p : Addr} {v : Value} (hc : hcell h p = some v) : hcell h' p = some v := by
  have hl := lt_of_hcell hc
  have e : Bel h.size h h' := ⟨Nat.le_trans cx.ext.size i.1, fun k hk => (i.2.1 k (Nat.lt_of_lt_of_le hk cx.ext.size) (fun e => by have := cx.o1; omega)).trans (cx.ext.old k hk)⟩
  exact e.cell hc hl
theorem RdC.l1 (cx : RdC h hb bs bo bl bw br vs s) (i : RdI hb bo xs h') : hcell h' ⟨bs, 0, none⟩ = some vs := by rw [hcell_block (i.get cx.c1 cx.n1)]; rfl
theorem RdC.l2 (cx : RdC h hb bs bo bl bw br vs s) (i : RdI hb bo xs h') : hcell h' ⟨bl, 0, none⟩ = some (.slice (some ⟨br, 0, none⟩) s.length s.length) := by rw [hcell_block (i.get cx.c2 cx.n2)]; rfl
theorem RdC.l3 (cx : RdC h hb bs bo bl bw br vs s) (i : RdI hb bo xs h') : hcell h' ⟨bw, 0, none⟩ = some (.func (.func 79) #[] #[Pt bs, Pt bo, Pt bl, Pt bw]) := by rw [hcell_block (i.get cx.c3 cx.n3)]; rfl
theorem RdC.l4 (cx : RdC h hb bs bo bl bw br vs s) (i : RdI hb bo xs h') {n : Nat} (hn : n < s.length) : hcell h' ((⟨br, 0, none⟩ : Addr).add (scl n 1)) = some (I (liveB (words s n))) := by
  rw [scl_eq, Nat.mul_one, add_head, hcell_block (i.get cx.c4 cx.n4)]; simp [hn]
end
theorem slice1 {l : Bs} {k : Nat} (hk : k < l.length) : (l.take ((k : Int) + 1).toNat).drop (k : Int).toNat = [l[k]] := by
  rw [show ((k : Int) + 1).toNat = k + 1 by omega, show (k : Int).toNat = k by omega, take_snoc hk, List.drop_left' (by simp; omega)]
theorem rd_step {s : List St} {x : St} (hxl : x.letters.length = x.next.length) {k n i : Nat} (hk : k < x.next.length) (hn : x.next[k].toNat = n) (hne : words s n ≠ []) (hpw : words s i = partW s x x.next.length) {w : Bs} (hlen : ∀ u ∈ words s i, w.length + u.length ≤ 10) :
    (w ++ [x.letters[k]'(by omega)]).length ≤ 10 ∧ ∀ u ∈ words s n, (w ++ [x.letters[k]'(by omega)]).length + u.length ≤ 10 := by
  have h1 : ∀ u ∈ words s n, (w ++ [x.letters[k]'(by omega)]).length + u.length ≤ 10 := fun u hu => by
    have := hlen _ (by rw [hpw]; exact partW_mem hxl hk (by omega) (by rw [hn]; exact hu))
    simp only [List.length_append, List.length_cons, List.length_nil] at this ⊢
    omega
  obtain ⟨u, hu⟩ := List.exists_mem_of_ne_nil _ hne
  exact ⟨by have := h1 u hu; omega, h1⟩
theorem rd_cnt {s : List St} {x : St} (hxl : x.letters.length = x.next.length) {k n i : Nat} (hk : k < x.next.length) (hn : x.next[k].toNat = n) (hpw : words s i = partW s x x.next.length) {w : Bs} {xs : List Bs} (hcnt : xs.length + (words s i).length ≤ 30) :
    (xs ++ (partW s x k).map (w ++ ·)).length + (words s n).length ≤ 30 := by
  have h1 := partW_le (s := s) hxl (show k + 1 ≤ x.next.length by omega)
  rw [partW_succ hxl hk (by omega), List.length_append, List.length_map, hn, ← hpw] at h1
  rw [List.length_append, List.length_map]
  omega
theorem partW_dead {s : List St} {x : St} (hx : x.letters.length = x.next.length) {k : Nat} (hk : k < x.next.length) (hk' : k < x.letters.length) (h0 : words s x.next[k].toNat = []) : partW s x (k + 1) = partW s x k := by
  rw [partW_succ hx hk hk', h0]; simp
theorem liveB_one {L : List Bs} : liveB L = 1 ↔ L ≠ [] := by unfold liveB; split <;> simp_all

/-- burin/index.read$1 -/
theorem ok79 : FnOk Tryz.prog 79 := fnok Tryz.func79 (by kernel_rfl) rfl
set_option maxRecDepth 10000 in
theorem w79 {h hb : Hp} {bs bo bl bw br : Nat} {vs : Value} {s : List St} (g : GoodS s) (cx : RdC h hb bs bo bl bw br vs s) : ∀ (m i : Nat) (_ : i < s.length) (_ : s.length - i = m) (w : Bs) (xs : List Bs) (h1 : Hp) (_ : RdI hb bo xs h1) (_ : w.length ≤ 10) (_ : ∀ u ∈ words s i, w.length + u.length ≤ 10) (_ : xs.length + (words s i).length ≤ 30), CallsH Tryz.prog 79 (#[] ++ #[I i, S w] ++ #[Pt bs, Pt bo, Pt bl, Pt bw]) h1 (fun r h2 => r = .bool true ∧ RdI hb bo (xs ++ (words s i).map (w ++ ·)) h2) := by
  intro m
  refine Nat.strongRecOn m ?_
  intro m ih i hi hm w xs h1 hI hw hlen hcnt
  obtain ⟨a, cap, rfl, hcap, hx⟩ := id cx.sts
  obtain ⟨q, rfl, nv, hcs, hnv⟩ := hx i hi
  obtain ⟨an, cn, rfl, hcn, hnx⟩ := hnv.op
  have hxm : s[i] ∈ s := List.getElem_mem hi
  have hxl := g.len _ hxm
  have hnl := good_next g hxm
  have hpw := words_part g hi
  have hp0 := partW_le (s := s) hxl (Nat.zero_le _)
  rw [← hpw] at hp0
  refine enter ok79 Tryz.func79 rfl Tryz.ntmps79 (by simp) (fun w0 => ?_)
  repeat refine x_seq ?_
  refine goes rfl trivial ?_
  repeat refine x_seq ?_
  refine goes rfl trivial ?_
  repeat refine x_seq ?_
  refine x_ifd rfl (fun c1 => ?_) (fun c1 => ?_)
  · repeat refine x_seq ?_
    refine goes rfl trivial ?_
    repeat refine x_seq ?_
    exact absurd c1 (by omega)
  · repeat refine x_seq ?_
    refine x_skip ?_
    repeat refine x_seq ?_
    refine x_reg ?_
    refine ops_load tabOk rfl rfl rfl rfl (cx.l1 hI) ?_
    refine go 3 rfl ⟨by first | omega | (simp only [inK]; omega) | (simp only [List.length_drop, List.length_take]; omega), trivial⟩ ?_
    refine ops_load tabOk rfl rfl rfl rfl (cx.stc hI (hcs 0 _ rfl)) ?_
    refine go 1000 rfl trivial (ops_nil ?_)
    repeat refine x_seq ?_
    refine x_ifd rfl (fun c2 => ?_) (fun c2 => ?_)
    · repeat refine x_seq ?_
      obtain ⟨hz1, hk1, ao, co, hbo, hown⟩ := id hI
      refine x_reg ?_
      refine ops_load tabOk rfl rfl rfl rfl (show hcell h1 ⟨bo, 0, none⟩ = some (.slice ao xs.length co) by rw [hcell_block hbo]; rfl) ?_
      refine go 1 rfl trivial ?_
      refine ops_buildSlice (cs := [S w]) tabOk rfl rfl rfl rfl rfl rfl rfl rfl rfl ?_
      intro h2 hn2
      refine ops_append tabOk rfl rfl rfl rfl rfl rfl rfl rfl (hown.ext hn2.ext) (new_app hn2 rfl) rfl ⟨by omega, show _ * 16 ≤ _ by omega⟩ (by have := hn2.size; omega) rfl ?_
      intro v3 h3 ho3 hg3 _
      obtain ⟨a3, c3', hv3, -, -⟩ := ho3.sl.op
      have hlx : (xs.map S ++ [S w]).length = (xs ++ [w]).length := by simp
      rw [hlx] at hv3
      subst hv3
      have hb3 : Bel hb.size h2 h3 := (hown.ext hn2.ext).bel hg3 (by have := hn2.size; omega)
      refine ops_store (b := bo) (vs := [.slice a3 (xs ++ [w]).length c3']) (cs' := [.slice a3 (xs ++ [w]).length c3']) tabOk rfl rfl rfl rfl rfl rfl (hb3.get (hn2.ext.get hbo) cx.o2) (by simp) rfl ?_
      intro h4 hp4
      have hI2 : RdI hb bo (xs ++ (partW s s[i] 0).map (w ++ ·)) h4 := by
        rw [partW_zero, if_pos (by have h9 : s[i].ends = 1 := c2; exact h9)]
        have s2 := hn2.size
        refine ⟨by rw [hp4.size]; have := hg3.size; omega, fun k hk hne => ?_, a3, c3', ?_, ?_⟩
        · rw [hp4.other k hne, hb3.old k hk, hn2.old k (by omega)]; exact hk1 k hk hne
        · simpa using hp4.get
        · have := ho3.put hp4 cx.o2
          simpa using this
      refine ops_nil ?_
      repeat refine x_seq ?_
      have hl5 : (xs ++ (partW s s[i] 0).map (w ++ ·)).length ≤ 30 := by rw [List.length_append, List.length_map]; omega
      obtain ⟨ao2, co2, hbo2, -⟩ := hI2.2.2
      refine x_reg ?_
      refine ops_load tabOk rfl rfl rfl rfl (show hcell _ ⟨bo, 0, none⟩ = some (.slice ao2 _ co2) by rw [hcell_block hbo2]; rfl) ?_
      refine go 1000 rfl trivial (ops_nil ?_)
      repeat refine x_seq ?_
      refine x_ifd rfl (fun c3 => ?_) (fun c3 => ?_)
      · repeat refine x_seq ?_
        refine goes rfl trivial ?_
        repeat refine x_seq ?_
        exact absurd c3 (by omega)
      · repeat refine x_seq ?_
        refine x_skip ?_
        repeat refine x_seq ?_
        refine x_reg ?_
        refine ops_load tabOk rfl rfl rfl rfl (cx.l1 hI2) ?_
        refine go 3 rfl ⟨by first | omega | (simp only [inK]; omega) | (simp only [List.length_drop, List.length_take]; omega), trivial⟩ ?_
        refine ops_load tabOk rfl rfl rfl rfl (cx.stc hI2 (hcs 2 _ rfl)) ?_
        refine go 1000 rfl trivial (ops_nil ?_)
        repeat refine x_seq ?_
        refine x_block ?_
        repeat refine x_seq ?_
        refine x_loop (fun k : Nat => [(0, I i), (1, S w), (2, Pt bs), (4, Pt bl), (5, Pt bw), (31, .slice an s[i].next.length cn), (32, I s[i].next.length), (33, I k)]) (fun k h' => (RdI hb bo (xs ++ (partW s s[i] k).map (w ++ ·)) h') ∧ (k ≤ s[i].next.length)) (fun k => s[i].next.length - k) 0 ⟨rfl, rfl, rfl, rfl, rfl, rfl, rfl, rfl, trivial⟩ ⟨hI2, by omega⟩ ?_
        rintro k h5 ⟨hI5, hk⟩ K1 hK1
        repeat refine x_seq ?_
        refine goes rfl trivial ?_
        repeat refine x_seq ?_
        refine x_ifd rfl (fun c4 => ?_) (fun c4 => ?_)
        · repeat refine x_seq ?_
          refine x_skip ?_
          repeat refine x_seq ?_
          refine x_block ?_
          repeat refine x_seq ?_
          have hlt : k < s[i].next.length := by omega
          obtain ⟨p9, rfl, hp9⟩ := hnx k hlt
          have hnn := g.next i hi _ (List.getElem_mem hlt)
          obtain ⟨n, hn⟩ : ∃ n : Nat, s[i].next[k] = (n : Int) := ⟨s[i].next[k].toNat, (Int.toNat_of_nonneg (by omega)).symm⟩
          have hnlt : n < s.length := by omega
          have hn9 : s[i].next[k].toNat = n := by omega
          refine x_reg ?_
          refine go 2 rfl ⟨by first | omega | (simp only [inK]; omega) | (simp only [List.length_drop, List.length_take]; omega), trivial⟩ ?_
          refine ops_load tabOk rfl rfl rfl rfl (show hcell h5 _ = some (I (n : Int)) from by rw [← hn]; exact cx.stc hI5 hp9) ?_
          refine go 1000 rfl trivial (ops_nil ?_)
          repeat refine x_seq ?_
          refine x_draw [(0, true), (1, true), (2, true), (3, true), (4, true), (5, true), (6, true), (7, true), (8, true), (9, true), (10, true), (11, true), (12, true), (13, true), (14, true), (15, true), (16, true), (17, true), (18, true), (19, false), (20, true), (21, true)] [] (fun (h9 : Hp) => ∃ ys, RdI hb bo ys h9) mixed (by kernel_rfl) rfl rfl ⟨_, hI5⟩ ?_
          refine seq_load tabOk rfl rfl rfl rfl (fun _ ⟨_, e⟩ => cx.l2 e) ?_
          refine sgo 2 rfl ⟨by first | omega | (simp only [inK]; omega) | (simp only [List.length_drop, List.length_take]; omega), trivial⟩ ?_
          refine seq_load tabOk rfl rfl rfl rfl (fun _ ⟨_, e⟩ => cx.l4 e hnlt) ?_
          refine sgo 2 rfl trivial ?_
          refine seq_dec 43 rfl (fun c5 => ?_) (fun c5 => ?_)
          · refine seq_guard_yes rfl rfl rfl ?_
            refine seq_load tabOk rfl rfl rfl rfl (fun _ ⟨_, e⟩ => cx.l3 e) ?_
            refine sgo 2 rfl trivial ?_
            refine seq_guard_yes rfl rfl rfl ?_
            refine seq_load tabOk rfl rfl rfl rfl (fun _ ⟨_, e⟩ => cx.l1 e) ?_
            refine sgo 3 rfl ⟨by first | omega | (simp only [inK]; omega) | (simp only [List.length_drop, List.length_take]; omega), trivial⟩ ?_
            refine seq_guard_yes rfl rfl rfl ?_
            refine seq_load tabOk rfl rfl rfl rfl (fun _ ⟨_, e⟩ => cx.stc e (hcs 1 _ rfl)) ?_
            refine sgo 5 rfl ⟨by first | omega | (simp only [inK]; omega) | (simp only [List.length_drop, List.length_take]; omega), by first | omega | (simp only [inK]; omega) | (simp only [List.length_drop, List.length_take]; omega), by first | omega | (simp only [inK]; omega) | (simp only [List.length_drop, List.length_take]; omega), trivial⟩ ?_
            refine seq_act (ops_guard_yes rfl rfl rfl (ops_call rfl rfl rfl (show CallsH Tryz.prog 79 (#[] ++ #[I (n : Int), S (w ++ (s[i].letters.take ((k : Int) + 1).toNat).drop (k : Int).toNat)] ++ #[Pt bs, Pt bo, Pt bl, Pt bw]) h5 (fun r h2 => r = .bool true ∧ RdI hb bo ((xs ++ (partW s s[i] k).map (w ++ ·)) ++ (words s n).map ((w ++ [s[i].letters[k]'(by omega)]) ++ ·)) h2) from by have h8 := rd_step hxl hlt hn9 (liveB_one.1 c5) hpw hlen; rw [slice1 (by omega)]; exact ih (s.length - n) (by omega) n hnlt rfl _ _ h5 hI5 h8.1 h8.2 (rd_cnt hxl hlt hn9 hpw hcnt)) ?_))
            rintro _ h6 ⟨rfl, hI6⟩
            refine ops_nil ⟨⟨_, hI6⟩, ?_⟩
            refine sgo 1000 rfl trivial (seq_tail ?_)
            refine ops_nil ?_
            repeat refine x_seq ?_
            refine x_false rfl ?_
            repeat refine x_seq ?_
            refine x_skip ?_
            refine x_out ?_
            repeat refine x_seq ?_
            refine goes rfl ⟨by first | omega | (simp only [inK]; omega) | (simp only [List.length_drop, List.length_take]; omega), trivial⟩ ?_
            refine x_next (k + 1) ⟨rfl, rfl, rfl, rfl, rfl, rfl, rfl, rfl, trivial⟩ ⟨by rw [partW_succ hxl hlt (by omega), List.map_append, ← List.append_assoc]; simpa [Function.comp_def, hn9] using hI6, by omega⟩ (by omega)
          · refine sgo 13 rfl trivial ?_
            refine seq_act (go 1 rfl trivial (ops_nil ⟨⟨_, hI5⟩, ?_⟩))
            refine sgo 1000 rfl trivial (seq_tail ?_)
            refine ops_nil ?_
            repeat refine x_seq ?_
            refine x_false rfl ?_
            repeat refine x_seq ?_
            refine x_skip ?_
            refine x_out ?_
            repeat refine x_seq ?_
            refine goes rfl ⟨by first | omega | (simp only [inK]; omega) | (simp only [List.length_drop, List.length_take]; omega), trivial⟩ ?_
            refine x_next (k + 1) ⟨rfl, rfl, rfl, rfl, rfl, rfl, rfl, rfl, trivial⟩ ⟨by rw [partW_dead hxl hlt (by omega) (by rw [hn9]; exact Classical.byContradiction fun hne => absurd (liveB_one.2 hne) c5)]; exact hI5, by omega⟩ (by omega)
        · repeat refine x_seq ?_
          refine x_exit_loop hK1 rfl rfl ?_
          repeat refine x_seq ?_
          refine goes rfl trivial ?_
          repeat refine x_seq ?_
          exact x_ret (at_ret rfl rfl rfl rfl ⟨rfl, by rw [hpw, show s[i].next.length = k from by omega]; exact hI5⟩ (.inl rfl))
    · have hI2 : RdI hb bo (xs ++ (partW s s[i] 0).map (w ++ ·)) h1 := by rw [partW_zero, if_neg (by have h9 : ¬ s[i].ends = 1 := c2; exact h9)]; simpa using hI
      repeat refine x_seq ?_
      refine x_skip ?_
      repeat refine x_seq ?_
      have hl5 : (xs ++ (partW s s[i] 0).map (w ++ ·)).length ≤ 30 := by rw [List.length_append, List.length_map]; omega
      obtain ⟨ao2, co2, hbo2, -⟩ := hI2.2.2
      refine x_reg ?_
      refine ops_load tabOk rfl rfl rfl rfl (show hcell _ ⟨bo, 0, none⟩ = some (.slice ao2 _ co2) by rw [hcell_block hbo2]; rfl) ?_
      refine go 1000 rfl trivial (ops_nil ?_)
      repeat refine x_seq ?_
      refine x_ifd rfl (fun c6 => ?_) (fun c6 => ?_)
      · repeat refine x_seq ?_
        refine goes rfl trivial ?_
        repeat refine x_seq ?_
        exact absurd c6 (by omega)
      · repeat refine x_seq ?_
        refine x_skip ?_
        repeat refine x_seq ?_
        refine x_reg ?_
        refine ops_load tabOk rfl rfl rfl rfl (cx.l1 hI2) ?_
        refine go 3 rfl ⟨by first | omega | (simp only [inK]; omega) | (simp only [List.length_drop, List.length_take]; omega), trivial⟩ ?_
        refine ops_load tabOk rfl rfl rfl rfl (cx.stc hI2 (hcs 2 _ rfl)) ?_
        refine go 1000 rfl trivial (ops_nil ?_)
        repeat refine x_seq ?_
        refine x_block ?_
        repeat refine x_seq ?_
        refine x_loop (fun k : Nat => [(0, I i), (1, S w), (2, Pt bs), (4, Pt bl), (5, Pt bw), (31, .slice an s[i].next.length cn), (32, I s[i].next.length), (33, I k)]) (fun k h' => (RdI hb bo (xs ++ (partW s s[i] k).map (w ++ ·)) h') ∧ (k ≤ s[i].next.length)) (fun k => s[i].next.length - k) 0 ⟨rfl, rfl, rfl, rfl, rfl, rfl, rfl, rfl, trivial⟩ ⟨hI2, by omega⟩ ?_
        rintro k h5 ⟨hI5, hk⟩ K2 hK2
        repeat refine x_seq ?_
        refine goes rfl trivial ?_
        repeat refine x_seq ?_
        refine x_ifd rfl (fun c7 => ?_) (fun c7 => ?_)
        · repeat refine x_seq ?_
          refine x_skip ?_
          repeat refine x_seq ?_
          refine x_block ?_
          repeat refine x_seq ?_
          have hlt : k < s[i].next.length := by omega
          obtain ⟨p9, rfl, hp9⟩ := hnx k hlt
          have hnn := g.next i hi _ (List.getElem_mem hlt)
          obtain ⟨n, hn⟩ : ∃ n : Nat, s[i].next[k] = (n : Int) := ⟨s[i].next[k].toNat, (Int.toNat_of_nonneg (by omega)).symm⟩
          have hnlt : n < s.length := by omega
          have hn9 : s[i].next[k].toNat = n := by omega
          refine x_reg ?_
          refine go 2 rfl ⟨by first | omega | (simp only [inK]; omega) | (simp only [List.length_drop, List.length_take]; omega), trivial⟩ ?_
          refine ops_load tabOk rfl rfl rfl rfl (show hcell h5 _ = some (I (n : Int)) from by rw [← hn]; exact cx.stc hI5 hp9) ?_
          refine go 1000 rfl trivial (ops_nil ?_)
          repeat refine x_seq ?_
          refine x_draw [(0, true), (1, true), (2, true), (3, true), (4, true), (5, true), (6, true), (7, true), (8, true), (9, true), (10, true), (11, true), (12, true), (13, true), (14, true), (15, true), (16, true), (17, true), (18, true), (19, false), (20, true), (21, true)] [] (fun (h9 : Hp) => ∃ ys, RdI hb bo ys h9) mixed (by kernel_rfl) rfl rfl ⟨_, hI5⟩ ?_
          refine seq_load tabOk rfl rfl rfl rfl (fun _ ⟨_, e⟩ => cx.l2 e) ?_
          refine sgo 2 rfl ⟨by first | omega | (simp only [inK]; omega) | (simp only [List.length_drop, List.length_take]; omega), trivial⟩ ?_
          refine seq_load tabOk rfl rfl rfl rfl (fun _ ⟨_, e⟩ => cx.l4 e hnlt) ?_
          refine sgo 2 rfl trivial ?_
          refine seq_dec 43 rfl (fun c8 => ?_) (fun c8 => ?_)
          · refine seq_guard_yes rfl rfl rfl ?_
            refine seq_load tabOk rfl rfl rfl rfl (fun _ ⟨_, e⟩ => cx.l3 e) ?_
            refine sgo 2 rfl trivial ?_
            refine seq_guard_yes rfl rfl rfl ?_
            refine seq_load tabOk rfl rfl rfl rfl (fun _ ⟨_, e⟩ => cx.l1 e) ?_
            refine sgo 3 rfl ⟨by first | omega | (simp only [inK]; omega) | (simp only [List.length_drop, List.length_take]; omega), trivial⟩ ?_
            refine seq_guard_yes rfl rfl rfl ?_
            refine seq_load tabOk rfl rfl rfl rfl (fun _ ⟨_, e⟩ => cx.stc e (hcs 1 _ rfl)) ?_
            refine sgo 5 rfl ⟨by first | omega | (simp only [inK]; omega) | (simp only [List.length_drop, List.length_take]; omega), by first | omega | (simp only [inK]; omega) | (simp only [List.length_drop, List.length_take]; omega), by first | omega | (simp only [inK]; omega) | (simp only [List.length_drop, List.length_take]; omega), trivial⟩ ?_
            refine seq_act (ops_guard_yes rfl rfl rfl (ops_call rfl rfl rfl (show CallsH Tryz.prog 79 (#[] ++ #[I (n : Int), S (w ++ (s[i].letters.take ((k : Int) + 1).toNat).drop (k : Int).toNat)] ++ #[Pt bs, Pt bo, Pt bl, Pt bw]) h5 (fun r h2 => r = .bool true ∧ RdI hb bo ((xs ++ (partW s s[i] k).map (w ++ ·)) ++ (words s n).map ((w ++ [s[i].letters[k]'(by omega)]) ++ ·)) h2) from by have h8 := rd_step hxl hlt hn9 (liveB_one.1 c8) hpw hlen; rw [slice1 (by omega)]; exact ih (s.length - n) (by omega) n hnlt rfl _ _ h5 hI5 h8.1 h8.2 (rd_cnt hxl hlt hn9 hpw hcnt)) ?_))
            rintro _ h6 ⟨rfl, hI6⟩
            refine ops_nil ⟨⟨_, hI6⟩, ?_⟩
            refine sgo 1000 rfl trivial (seq_tail ?_)
            refine ops_nil ?_
            repeat refine x_seq ?_
            refine x_false rfl ?_
            repeat refine x_seq ?_
            refine x_skip ?_
            refine x_out ?_
            repeat refine x_seq ?_
            refine goes rfl ⟨by first | omega | (simp only [inK]; omega) | (simp only [List.length_drop, List.length_take]; omega), trivial⟩ ?_
            refine x_next (k + 1) ⟨rfl, rfl, rfl, rfl, rfl, rfl, rfl, rfl, trivial⟩ ⟨by rw [partW_succ hxl hlt (by omega), List.map_append, ← List.append_assoc]; simpa [Function.comp_def, hn9] using hI6, by omega⟩ (by omega)
          · refine sgo 13 rfl trivial ?_
            refine seq_act (go 1 rfl trivial (ops_nil ⟨⟨_, hI5⟩, ?_⟩))
            refine sgo 1000 rfl trivial (seq_tail ?_)
            refine ops_nil ?_
            repeat refine x_seq ?_
            refine x_false rfl ?_
            repeat refine x_seq ?_
            refine x_skip ?_
            refine x_out ?_
            repeat refine x_seq ?_
            refine goes rfl ⟨by first | omega | (simp only [inK]; omega) | (simp only [List.length_drop, List.length_take]; omega), trivial⟩ ?_
            refine x_next (k + 1) ⟨rfl, rfl, rfl, rfl, rfl, rfl, rfl, rfl, trivial⟩ ⟨by rw [partW_dead hxl hlt (by omega) (by rw [hn9]; exact Classical.byContradiction fun hne => absurd (liveB_one.2 hne) c8)]; exact hI5, by omega⟩ (by omega)
        · repeat refine x_seq ?_
          refine x_exit_loop hK2 rfl rfl ?_
          repeat refine x_seq ?_
          refine goes rfl trivial ?_
          repeat refine x_seq ?_
          exact x_ret (at_ret rfl rfl rfl rfl ⟨rfl, by rw [hpw, show s[i].next.length = k from by omega]; exact hI5⟩ (.inl rfl))

end Go.Proofs.YtmfgiabmmdbmoaaGreatDoor

namespace Go.Proofs.YtmfgiabmmdbmoaaGreatDoor
open Go.Gw Go.Ix Go.Sort

theorem patch_rowG {F : Nat → Int} {n i : Nat} {v w : Int} (hi : i < n) : patch ((rowG F n (i + 1) v).map I) i [I w] = (rowG F n (i + 1) w).map I := by
  rw [patch_set (by rw [List.length_map, rowG_len]; exact hi), ← List.map_set, rowG_set hi]
theorem rowG_done (F : Nat → Int) (n : Nat) : (rowG F n 0 0).map I = (List.range n).map fun i => I (F i) := by
  unfold rowG; rw [List.map_map]; refine List.map_congr_left fun i _ => ?_; simp
theorem liveB_part0 {s : List St} (g : GoodS s) {x : St} (hx : x ∈ s) : x.ends = liveB (partW s x 0) := by
  rw [partW_zero]; rcases g.ends x hx with h | h <;> simp [h, liveB]
theorem max_if (x y : Int) : (if y > x then y else x) = max x y := by split <;> omega
theorem ends0 {s : List St} {l : List Bs} (r : Reads s l) : (s[0]'(r.good.lo)).ends ≠ 1 := by
  intro e
  have h9 : ([] : Bs) ∈ words s 0 := by rw [words_part r.good r.good.lo]; unfold partW; rw [if_pos e]; simp
  rw [r.is] at h9
  exact r.ok.ne _ h9 rfl
/-- While the live states are marked. -/
structure RdL (h : Hp) (vs : Value) (s : List St) (j : Nat) (v : Int) (h' : Hp) : Prop where
  ext : Ext h h'
  size : h'.size = h.size + 3
  c1 : h'[h.size]? = some (.cells ⟨[vs]⟩ 38 (0, 0))
  c2 : h'[h.size + 1]? = some (.cells ⟨(rowG (fun i => liveB (words s i)) s.length j v).map I⟩ 3 (0, 0))
  c3 : h'[h.size + 2]? = some (.cells ⟨[.slice (some ⟨h.size + 1, 0, none⟩) s.length s.length]⟩ 41 (0, 0))
section
variable {h h' : Hp} {vs : Value} {s : List St} {j : Nat} {v : Int}
theorem RdL.l1 (r : RdL h vs s j v h') : hcell h' ⟨h.size, 0, none⟩ = some vs := by rw [hcell_block r.c1]; rfl
theorem RdL.l3 (r : RdL h vs s j v h') : hcell h' ⟨h.size + 2, 0, none⟩ = some (.slice (some ⟨h.size + 1, 0, none⟩) s.length s.length) := by rw [hcell_block r.c3]; rfl
theorem RdL.at {i : Nat} (r : RdL h vs s (i + 1) v h') (hi : i < s.length) : hcell h' ((⟨h.size + 1, 0, none⟩ : Addr).add (scl i 1)) = some (I v) := by
  rw [scl_eq, Nat.mul_one, add_head, hcell_block r.c2]
  have := rowG_get (F := fun i => liveB (words s i)) (j := i + 1) (v := v) hi
  simp [this]
theorem RdL.past {i n : Nat} (r : RdL h vs s (i + 1) v h') (hi : i < n) (hn : n < s.length) : hcell h' ((⟨h.size + 1, 0, none⟩ : Addr).add (scl n 1)) = some (I (liveB (words s n))) := by
  rw [scl_eq, Nat.mul_one, add_head, hcell_block r.c2]
  have := rowG_get (F := fun i => liveB (words s i)) (j := i + 1) (v := v) hn
  rw [if_neg (by omega), if_neg (by omega)] at this
  simp [this]
theorem RdL.put {i : Nat} {w : Int} {h2 : Hp} (r : RdL h vs s (i + 1) v h') (hp : Put h' h2 (h.size + 1) (.cells ⟨(rowG (fun i => liveB (words s i)) s.length (i + 1) w).map I⟩ 3 (0, 0))) : RdL h vs s (i + 1) w h2 :=
  ⟨Bel.trans r.ext (hp.bel (by omega)), by rw [hp.size]; exact r.size, hp.keep r.c1 (by omega), hp.get, hp.keep r.c3 (by omega)⟩
end

theorem RdL.back {h h' : Hp} {vs : Value} {s : List St} {i : Nat} (r : RdL h vs s (i + 1) (liveB (words s i)) h') : RdL h vs s i 0 h' :=
  ⟨r.ext, r.size, r.c1, by have := r.c2; rwa [show rowG (fun i => liveB (words s i)) s.length (i + 1) (liveB (words s i)) = rowG (fun i => liveB (words s i)) s.length i 0 from rowG_step] at this, r.c3⟩
/-- burin/index.read -/
theorem ok53 : FnOk Tryz.prog 53 := fnok Tryz.func53 (by kernel_rfl) rfl
set_option maxRecDepth 10000 in
theorem w53 {h : Hp} {v : Value} {s : List St} {l : List Bs} (r : Reads s l) (hl : Sts h v s) : CallsH Tryz.prog 53 #[v] h (fun r h' => ∃ rv, r = .tuple #[rv, .bool true] ∧ Strs h' rv l ∧ Ext h h') := by
  have g := r.good
  have g1 := g.lo
  have g2 := g.hi
  have hl0 := hl
  obtain ⟨a, cap, rfl, hcap, hx⟩ := hl
  obtain ⟨q, rfl, nv0, hcs0, hnv0⟩ := hx 0 (by omega)
  refine enter ok53 Tryz.func53 rfl Tryz.ntmps53 (by simp) (fun w0 => ?_)
  repeat refine x_seq ?_
  refine x_reg ?_
  refine ops_box rfl rfl rfl ?_
  intro h1 hn1
  have s1 := hn1.size
  have hc1 : hcell h1 ⟨h.size, 0, none⟩ = some (.slice (some q) s.length cap) := by rw [hcell_block hn1.get]; rfl
  refine go 1000 rfl trivial (ops_nil ?_)
  repeat refine x_seq ?_
  refine x_reg ?_
  refine ops_load tabOk rfl rfl rfl rfl hc1 ?_
  refine go 1 rfl trivial ?_
  refine ops_make tabOk rfl rfl rfl rfl rfl rfl rfl ⟨by omega, by omega, by show (8 : Int) * (s.length : Int) ≤ 281474976710656; omega, by omega⟩ rfl ?_
  intro h2 hn2
  rw [s1]
  have s2 := hn2.size
  refine ops_alloc tabOk rfl rfl rfl ?_
  intro h3 hn3
  rw [show h2.size = h.size + 2 by omega]
  have s3 := hn3.size
  refine ops_store (b := h.size + 2) (o := 0) (vs := [.slice (some ⟨h.size + 1, 0, none⟩) s.length s.length]) (cs' := [.slice (some ⟨h.size + 1, 0, none⟩) s.length s.length]) tabOk rfl rfl rfl rfl rfl rfl (by rw [show h.size + 2 = h2.size by omega]; exact hn3.get) (by simp) rfl ?_
  intro h4 hp4
  have s4 := hp4.size
  have hL4 : RdL h (.slice (some q) s.length cap) s s.length 0 h4 := ⟨Bel.trans ((hn1.ext.trans hn2.ext).trans hn3.ext) (hp4.bel (by omega)), by omega, hp4.keep ((hn2.ext.trans hn3.ext).get hn1.get) (by omega), by rw [← rowG_init, hp4.other _ (by omega)]; have h9 := hn3.ext.get hn2.get; rw [s1] at h9; simpa using h9, hp4.get⟩
  refine ops_nil ?_
  repeat refine x_seq ?_
  refine x_reg ?_
  refine ops_load tabOk rfl rfl rfl rfl hL4.l1 ?_
  refine go 1000 rfl ⟨by first | omega | (simp only [inK]; omega), trivial⟩ (ops_nil ?_)
  repeat refine x_seq ?_
  refine x_block ?_
  repeat refine x_seq ?_
  refine x_loop (fun x : Nat => [(1, Pt h.size), (4, Pt (h.size + 2)), (5, I ((x : Int) - 1))]) (fun x h' => (RdL h (.slice (some q) s.length cap) s x 0 h') ∧ (x ≤ s.length)) (fun x => x) s.length ⟨rfl, rfl, rfl, trivial⟩ ⟨hL4, by omega⟩ ?_
  rintro x h5 ⟨hL, hk⟩ K1 hK1
  repeat refine x_seq ?_
  refine goes rfl trivial ?_
  repeat refine x_seq ?_
  refine x_ifd rfl (fun c1 => ?_) (fun c1 => ?_)
  · repeat refine x_seq ?_
    refine x_skip ?_
    repeat refine x_seq ?_
    refine x_block ?_
    repeat refine x_seq ?_
    obtain ⟨i, rfl⟩ : ∃ i, x = i + 1 := ⟨x - 1, by omega⟩
    have hi : i < s.length := by omega
    rw [show (((i + 1 : Nat) : Int) - 1) = (i : Int) from by omega]
    obtain ⟨q', hq', nv, hcs, hnv⟩ := hx i hi
    cases hq'
    obtain ⟨an, cn, rfl, hcn, hnx⟩ := hnv.op
    have hxm : s[i] ∈ s := List.getElem_mem hi
    have hxl := g.len _ hxm
    have hnl := good_next g hxm
    have hpw := words_part g hi
    refine x_draw [(0, true), (1, true), (2, true), (3, true), (4, true), (5, true), (6, true), (7, true)] [8] (· = _) mixed (by kernel_rfl) rfl rfl rfl ?_
    refine seq_load tabOk rfl rfl rfl rfl (by rintro _ rfl; exact hL.l3) ?_
    refine sgo 1 rfl trivial ?_
    refine seq_load tabOk rfl rfl rfl rfl (by rintro _ rfl; exact hL.l1) ?_
    refine sgo 3 rfl ⟨by first | omega | (simp only [inK]; omega), trivial⟩ ?_
    refine seq_load tabOk rfl rfl rfl rfl (by rintro _ rfl; exact (hL.ext.cell (hcs 0 _ rfl))) ?_
    refine sgo 1000 rfl ⟨by first | omega | (simp only [inK]; omega), trivial⟩ (seq_tail ?_)
    refine ops_storeA (b := h.size + 1) (o := i) (vs := [I s[i].ends]) (cs' := (rowG (fun i => liveB (words s i)) s.length (i + 1) s[i].ends).map I) tabOk rfl rfl (by rw [scl_eq, Nat.mul_one, add_head]; rfl) rfl rfl rfl rfl hL.c2 (by rw [List.length_map, rowG_len]; exact hi) (patch_rowG hi) ?_
    intro h6 hp6
    have hL6 := hL.put hp6
    rw [liveB_part0 g hxm] at hL6
    refine ops_nil ?_
    repeat refine x_seq ?_
    refine x_reg ?_
    refine ops_load tabOk rfl rfl rfl rfl hL6.l1 ?_
    refine go 3 rfl ⟨by first | omega | (simp only [inK]; omega), trivial⟩ ?_
    refine ops_load tabOk rfl rfl rfl rfl (hL6.ext.cell (hcs 2 _ rfl)) ?_
    refine go 1000 rfl trivial (ops_nil ?_)
    repeat refine x_seq ?_
    refine x_block ?_
    repeat refine x_seq ?_
    refine x_loop (fun k : Nat => [(1, Pt h.size), (4, Pt (h.size + 2)), (5, I i), (33, .slice an s[i].next.length cn), (34, I s[i].next.length), (35, I k)]) (fun k h' => (RdL h (.slice (some q) s.length cap) s (i + 1) (liveB (partW s s[i] k)) h') ∧ (k ≤ s[i].next.length)) (fun k => s[i].next.length - k) 0 ⟨rfl, rfl, rfl, rfl, rfl, rfl, trivial⟩ ⟨hL6, by omega⟩ ?_
    rintro k h7 ⟨hL7, hk7⟩ K2 hK2
    repeat refine x_seq ?_
    refine goes rfl trivial ?_
    repeat refine x_seq ?_
    refine x_ifd rfl (fun c2 => ?_) (fun c2 => ?_)
    · repeat refine x_seq ?_
      refine x_skip ?_
      repeat refine x_seq ?_
      refine x_block ?_
      repeat refine x_seq ?_
      have hlt : k < s[i].next.length := by omega
      obtain ⟨p9, rfl, hp9⟩ := hnx k hlt
      have hnn := g.next i hi _ (List.getElem_mem hlt)
      obtain ⟨n, hn⟩ : ∃ n : Nat, s[i].next[k] = (n : Int) := ⟨s[i].next[k].toNat, (Int.toNat_of_nonneg (by omega)).symm⟩
      have hnlt : n < s.length := by omega
      have hin : i < n := by omega
      have hn9 : s[i].next[k].toNat = n := by omega
      refine x_reg ?_
      refine go 1 rfl ⟨by first | omega | (simp only [inK]; omega), trivial⟩ ?_
      refine ops_load tabOk rfl rfl rfl rfl (show hcell h7 _ = some (I (n : Int)) from by rw [← hn]; exact hL7.ext.cell hp9) ?_
      refine go 1000 rfl trivial (ops_nil ?_)
      repeat refine x_seq ?_
      refine x_draw [(0, true), (1, true), (2, true), (3, true), (4, true), (5, true), (6, true), (7, true), (8, true), (9, true), (10, true), (11, true)] [12] (· = _) mixed (by kernel_rfl) rfl rfl rfl ?_
      refine seq_load tabOk rfl rfl rfl rfl (by rintro _ rfl; exact hL7.l3) ?_
      refine sgo 1 rfl trivial ?_
      refine seq_load tabOk rfl rfl rfl rfl (by rintro _ rfl; exact hL7.l3) ?_
      refine sgo 2 rfl ⟨by first | omega | (simp only [inK]; omega), trivial⟩ ?_
      refine seq_load tabOk rfl rfl rfl rfl (by rintro _ rfl; exact (hL7.at hi)) ?_
      refine seq_load tabOk rfl rfl rfl rfl (by rintro _ rfl; exact hL7.l3) ?_
      refine sgo 2 rfl ⟨by first | omega | (simp only [inK]; omega), trivial⟩ ?_
      refine seq_load tabOk rfl rfl rfl rfl (by rintro _ rfl; exact (hL7.past hin hnlt)) ?_
      refine sgo 1000 rfl ⟨by first | omega | (simp only [inK]; omega), trivial⟩ (seq_tail ?_)
      refine ops_storeA (b := h.size + 1) (o := i) (vs := [I (if liveB (words s n) > liveB (partW s s[i] k) then liveB (words s n) else liveB (partW s s[i] k))]) (cs' := (rowG (fun i => liveB (words s i)) s.length (i + 1) (liveB (partW s s[i] (k + 1)))).map I) tabOk rfl rfl (by rw [scl_eq, Nat.mul_one, add_head]; rfl) rfl rfl rfl rfl hL7.c2 (by rw [List.length_map, rowG_len]; exact hi) (by rw [max_if, partW_succ hxl hlt (by omega), liveB_app, hn9]; exact patch_rowG hi) ?_
      intro h8 hp8
      have hL8 := hL7.put hp8
      refine ops_nil ?_
      refine x_out ?_
      repeat refine x_seq ?_
      refine goes rfl ⟨by first | omega | (simp only [inK]; omega), trivial⟩ ?_
      refine x_next (k + 1) ⟨rfl, rfl, rfl, rfl, rfl, rfl, trivial⟩ ⟨hL8, by omega⟩ (by omega)
    · repeat refine x_seq ?_
      refine x_exit_loop hK2 rfl rfl ?_
      refine x_out ?_
      repeat refine x_seq ?_
      refine goes rfl ⟨by first | omega | (simp only [inK]; omega), trivial⟩ ?_
      refine x_next i ⟨rfl, rfl, rfl, trivial⟩ ⟨by rw [show s[i].next.length = k from by omega] at hpw; rw [← hpw] at hL7; exact hL7.back, by omega⟩ (by show i < i + 1; omega)
  · repeat refine x_seq ?_
    refine x_exit_loop hK1 rfl rfl ?_
    repeat refine x_seq ?_
    refine x_reg ?_
    refine ops_alloc tabOk rfl rfl rfl ?_
    intro h9 hn9
    refine ops_nil ?_
    repeat refine x_seq ?_
    have sL := hL.size
    have s9 := hn9.size
    rw [show h5.size = h.size + 3 from sL]
    refine x_reg ?_
    refine ops_alloc tabOk rfl rfl rfl ?_
    intro ha hna
    refine ops_nil ?_
    repeat refine x_seq ?_
    have sa := hna.size
    rw [show h9.size = h.size + 4 by omega]
    refine x_reg ?_
    refine go 1 rfl trivial ?_
    refine ops_store (b := h.size + 4) (o := 0) (vs := [.func (.func 79) #[] #[Pt h.size, Pt (h.size + 3), Pt (h.size + 2), Pt (h.size + 4)]]) (cs' := [.func (.func 79) #[] #[Pt h.size, Pt (h.size + 3), Pt (h.size + 2), Pt (h.size + 4)]]) tabOk rfl rfl rfl rfl rfl rfl (by rw [show h.size + 4 = h9.size by omega]; exact hna.get) (by simp) rfl ?_
    intro hb hpb
    refine ops_nil ?_
    repeat refine x_seq ?_
    have sb := hpb.size
    have e5a : Ext h5 ha := hn9.ext.trans hna.ext
    have cx : RdC h hb h.size (h.size + 3) (h.size + 2) (h.size + 4) (h.size + 1) (.slice (some q) s.length cap) s := ⟨Bel.trans (hL.ext.trans e5a) (hpb.bel (by omega)), by omega, by omega, hpb.keep (e5a.get hL.c1) (by omega), by omega, hpb.keep (e5a.get hL.c3) (by omega), by omega, hpb.get, by omega, by rw [hpb.other _ (by omega)]; have h7 := e5a.get hL.c2; rw [show x = 0 by omega, rowG_done] at h7; exact h7, by omega, hl0⟩
    have hI0 : RdI hb (h.size + 3) [] hb := ⟨Nat.le_refl _, fun _ _ _ => rfl, none, 0, by rw [hpb.other _ (by omega)]; have h7 := hna.ext.get hn9.get; rw [sL] at h7; exact h7, Own.nil _ _ _ _⟩
    refine x_reg ?_
    refine ops_load tabOk rfl rfl rfl rfl (cx.l3 hI0) ?_
    refine ops_call rfl rfl rfl (w79 g cx s.length 0 (by omega) rfl [] [] hb hI0 (by simp) (fun u hu => by rw [r.is] at hu; have := r.ok.short u hu; simpa using this) (by rw [r.is]; have := r.ok.few; simpa using this)) ?_
    rintro _ hc ⟨rfl, hI1⟩
    refine go 1000 rfl trivial (ops_nil ?_)
    repeat refine x_seq ?_
    rw [List.nil_append, show (words s 0).map (([] : Bs) ++ ·) = l from by rw [r.is]; simp] at hI1
    refine x_reg ?_
    refine go 3 rfl trivial ?_
    refine ops_guard_yes rfl rfl rfl ?_
    refine ops_load tabOk rfl rfl rfl rfl (cx.l1 hI1) ?_
    refine go 2 rfl ⟨by first | omega | (simp only [inK]; omega), trivial⟩ ?_
    refine ops_guard_yes rfl rfl rfl ?_
    refine ops_load tabOk rfl rfl rfl rfl (cx.stc hI1 (hcs0 0 _ rfl)) ?_
    refine go 1000 rfl trivial (ops_nil ?_)
    repeat refine x_seq ?_
    refine x_ifd rfl (fun c3 => ?_) (fun c3 => ?_)
    · repeat refine x_seq ?_
      refine goes rfl trivial ?_
      repeat refine x_seq ?_
      exact absurd (show s[0].ends = 1 from c3) (ends0 r)
    · repeat refine x_seq ?_
      refine x_skip ?_
      repeat refine x_seq ?_
      obtain ⟨ao, co, hbo, hown⟩ := hI1.2.2
      have hk1 := hI1.2.1
      refine x_reg ?_
      refine ops_load tabOk rfl rfl rfl rfl (show hcell _ ⟨h.size + 3, 0, none⟩ = some (.slice ao l.length co) by rw [hcell_block hbo]; rfl) ?_
      refine go 1000 rfl trivial (ops_nil ?_)
      repeat refine x_seq ?_
      exact x_ret (at_ret rfl rfl rfl rfl ⟨_, rfl, hown.sl, ⟨Nat.le_trans cx.ext.size hI1.1, fun k hk => (hk1 k (by have := cx.ext.size; omega) (by omega)).trans (cx.ext.old k hk)⟩⟩ (.inl rfl))

/-- burin/index.Names -/
theorem ok31 : FnOk Tryz.prog 31 := fnok Tryz.func31 (by kernel_rfl) rfl
set_option maxRecDepth 10000 in
theorem w31 {h : Hp} {v : Value} {s : List St} {l : List Bs} (r : Reads s l) (hl : Sts h v s) : CallsH Tryz.prog 31 #[v] h (fun r h' => ∃ rv, r = .tuple #[rv, I 0] ∧ Strs h' rv l ∧ Ext h h') := by
  refine enter ok31 Tryz.func31 rfl Tryz.ntmps31 (by simp) (fun w0 => ?_)
  repeat refine x_seq ?_
  refine goes rfl trivial ?_
  repeat refine x_seq ?_
  refine x_reg ?_
  refine go 1 rfl trivial ?_
  refine ops_call rfl rfl rfl (w52 r.good hl) ?_
  rintro _ h2 ⟨rfl, he2⟩
  refine go 1000 rfl trivial (ops_nil ?_)
  repeat refine x_seq ?_
  refine goes rfl trivial ?_
  repeat refine x_seq ?_
  refine x_ifd rfl (fun c1 => ?_) (fun c1 => ?_)
  · repeat refine x_seq ?_
    refine goes rfl trivial ?_
    repeat refine x_seq ?_
    exact absurd rfl c1
  · repeat refine x_seq ?_
    refine x_skip ?_
    repeat refine x_seq ?_
    refine x_reg ?_
    refine go 1 rfl trivial ?_
    refine ops_call rfl rfl rfl (w53 r (hl.ext he2)) ?_
    rintro _ h3 ⟨rv, rfl, hs3, he3⟩
    refine go 1000 rfl trivial (ops_nil ?_)
    repeat refine x_seq ?_
    refine goes rfl trivial ?_
    repeat refine x_seq ?_
    refine x_if rfl (fun c2 => ?_) (fun c2 => ?_)
    · repeat refine x_seq ?_
      refine goes rfl trivial ?_
      repeat refine x_seq ?_
      cases c2
    · repeat refine x_seq ?_
      refine x_skip ?_
      repeat refine x_seq ?_
      refine goes rfl trivial ?_
      repeat refine x_seq ?_
      exact x_ret (at_ret rfl rfl rfl rfl ⟨rv, rfl, hs3, he2.trans he3⟩ (.inl rfl))

end Go.Proofs.YtmfgiabmmdbmoaaGreatDoor

namespace Go.Proofs.YtmfgiabmmdbmoaaGreatDoor
open Go.Gw Go.Ix Go.Sort

def numberR (l : List Bs) (w : Bs) : Int × Int := if wordsErr [w] ≠ 0 then (0, wordsErr [w]) else if w ∈ l then ((l.findIdx fun x => decide (x = w) : Nat), 0) else (0, 5)
def nameR (l : List Bs) (n : Int) : Bs × Int := if 0 ≤ n ∧ n ≤ (l.length : Int) - 1 then ((l[n.toNat]?).getD [], 0) else ([], 3)
theorem find_is {l : List Bs} {w : Bs} {i : Nat} (hs : l.Pairwise (· < ·)) (h : l[i]? = some w) : l.findIdx (fun x => decide (x = w)) = i := by
  obtain ⟨hi, e⟩ := List.getElem?_eq_some_iff.1 h
  rw [List.findIdx_eq hi]
  refine ⟨by simp [e], fun j hj => ?_⟩
  have := List.pairwise_iff_getElem.1 hs j i (by omega) hi hj
  rw [e] at this
  simp only [decide_eq_false_iff_not]
  intro e2
  rw [e2] at this
  exact ltI _ this

/-- burin/index.Number -/
theorem ok32 : FnOk Tryz.prog 32 := fnok Tryz.func32 (by kernel_rfl) rfl
set_option maxRecDepth 10000 in
theorem w32 {h : Hp} {v : Value} {s : List St} {l : List Bs} (w : Bs) (hw : w.length ≤ 1000000) (r : Reads s l) (hl : Sts h v s) : CallsH Tryz.prog 32 #[v, S w] h (fun r h' => r = .tuple #[I (numberR l w).1, I (numberR l w).2] ∧ Ext h h') := by
  refine enter ok32 Tryz.func32 rfl Tryz.ntmps32 (by simp) (fun w0 => ?_)
  repeat refine x_seq ?_
  refine goes rfl trivial ?_
  repeat refine x_seq ?_
  refine x_reg ?_
  refine go 1 rfl trivial ?_
  refine ops_call rfl rfl rfl (w31 r hl) ?_
  rintro _ h2 ⟨rv, rfl, hs2, he2⟩
  have hfew := r.ok.few
  refine go 1000 rfl trivial (ops_nil ?_)
  repeat refine x_seq ?_
  refine goes rfl trivial ?_
  repeat refine x_seq ?_
  refine x_ifd rfl (fun c1 => ?_) (fun c1 => ?_)
  · repeat refine x_seq ?_
    refine goes rfl trivial ?_
    repeat refine x_seq ?_
    exact absurd rfl c1
  · repeat refine x_seq ?_
    refine x_skip ?_
    repeat refine x_seq ?_
    refine x_reg ?_
    refine go 1 rfl trivial ?_
    refine ops_buildSlice (cs := [S w]) tabOk rfl rfl rfl rfl rfl rfl rfl rfl rfl ?_
    intro h3 hn3
    refine ops_call rfl rfl rfl (w49 (l := [w]) ⟨by simp, by simp; omega⟩ (Sl.of_new hn3 rfl (Nat.le_refl _))) ?_
    rintro _ h4 ⟨rfl, he4⟩
    have he24 := (he2.trans hn3.ext).trans he4
    refine go 1000 rfl trivial (ops_nil ?_)
    repeat refine x_seq ?_
    refine goes rfl trivial ?_
    repeat refine x_seq ?_
    refine x_ifd rfl (fun c2 => ?_) (fun c2 => ?_)
    · repeat refine x_seq ?_
      refine goes rfl trivial ?_
      repeat refine x_seq ?_
      exact x_ret (at_ret rfl rfl rfl rfl ⟨by unfold numberR; rw [if_pos c2]; rfl, he24⟩ (.inl rfl))
    · repeat refine x_seq ?_
      refine x_skip ?_
      repeat refine x_seq ?_
      refine x_reg ?_
      refine go 2 rfl trivial ?_
      refine ops_call rfl rfl rfl (w54 w (by omega) r.ok.sorted (hs2.ext (hn3.ext.trans he4))) ?_
      rintro _ h5 ⟨i, rfl, hfi, e5⟩
      obtain rfl := e5.symm
      refine go 1000 rfl trivial (ops_nil ?_)
      repeat refine x_seq ?_
      refine goes rfl trivial ?_
      repeat refine x_seq ?_
      refine x_if rfl (fun c3 => ?_) (fun c3 => ?_)
      · repeat refine x_seq ?_
        refine goes rfl trivial ?_
        repeat refine x_seq ?_
        exact x_ret (at_ret rfl rfl rfl rfl ⟨by unfold numberR; rw [if_neg c2, if_neg (by simpa using c3)]; rfl, he24⟩ (.inl rfl))
      · repeat refine x_seq ?_
        refine x_skip ?_
        repeat refine x_seq ?_
        refine goes rfl trivial ?_
        repeat refine x_seq ?_
        exact x_ret (at_ret rfl rfl rfl rfl ⟨by unfold numberR; rw [if_neg c2, if_pos (by simpa using c3), find_is r.ok.sorted (hfi (by simpa using c3))]; rfl, he24⟩ (.inl rfl))

/-- burin/index.Name -/
theorem ok33 : FnOk Tryz.prog 33 := fnok Tryz.func33 (by kernel_rfl) rfl
set_option maxRecDepth 10000 in
theorem w33 {h : Hp} {v : Value} {s : List St} {l : List Bs} (n : Int) (r : Reads s l) (hl : Sts h v s) : CallsH Tryz.prog 33 #[v, I n] h (fun r h' => r = .tuple #[S (nameR l n).1, I (nameR l n).2] ∧ Ext h h') := by
  refine enter ok33 Tryz.func33 rfl Tryz.ntmps33 (by simp) (fun w0 => ?_)
  repeat refine x_seq ?_
  refine goes rfl trivial ?_
  repeat refine x_seq ?_
  refine x_reg ?_
  refine go 1 rfl trivial ?_
  refine ops_call rfl rfl rfl (w31 r hl) ?_
  rintro _ h2 ⟨rv, rfl, hs2, he2⟩
  have hfew := r.ok.few
  obtain ⟨a, c, rfl, -, hs2⟩ := hs2.op
  refine go 1000 rfl trivial (ops_nil ?_)
  repeat refine x_seq ?_
  refine x_block ?_
  repeat refine x_seq ?_
  refine goes rfl trivial ?_
  repeat refine x_seq ?_
  refine x_ifd rfl (fun c1 => ?_) (fun c1 => ?_)
  · repeat refine x_seq ?_
    refine goes rfl trivial ?_
    repeat refine x_seq ?_
    exact absurd rfl c1
  · repeat refine x_seq ?_
    refine x_reg ?_
    refine go 4 rfl ⟨by first | omega | (simp only [inK]; omega), trivial⟩ ?_
    refine ops_buildSlice (cs := [I n]) tabOk rfl rfl rfl rfl rfl rfl rfl rfl rfl ?_
    intro h3 hn3
    refine ops_call rfl rfl rfl (w37 (l := [n]) 0 ((l.length : Int) - 1) (by simp) (Sl.of_new hn3 rfl (Nat.le_refl _))) ?_
    rintro _ h4 ⟨rfl, he4⟩
    have he24 := (he2.trans hn3.ext).trans he4
    refine go 1000 rfl trivial (ops_nil ?_)
    repeat refine x_seq ?_
    refine x_if rfl (fun c2 => ?_) (fun c2 => ?_)
    · repeat refine x_seq ?_
      refine goes rfl trivial ?_
      repeat refine x_seq ?_
      exact x_ret (at_ret rfl rfl rfl rfl ⟨by unfold nameR; rw [if_neg (by simp at c2; omega)]; rfl, he24⟩ (.inl rfl))
    · repeat refine x_seq ?_
      refine x_skip ?_
      refine x_out ?_
      repeat refine x_seq ?_
      have hn : 0 ≤ n ∧ n ≤ (l.length : Int) - 1 := by simpa using c2
      obtain ⟨p, rfl, hp⟩ := hs2 n.toNat (by omega)
      have hp := (hn3.ext.trans he4).cell hp
      refine x_reg ?_
      refine go 3 rfl ⟨by first | omega | (simp only [inK]; omega), trivial⟩ ?_
      refine ops_load tabOk rfl rfl rfl rfl hp ?_
      refine go 1000 rfl trivial (ops_nil ?_)
      repeat refine x_seq ?_
      exact x_ret (at_ret rfl rfl rfl rfl ⟨by unfold nameR; rw [if_pos hn, List.getElem?_eq_getElem (by omega)]; rfl, he24⟩ (.inl rfl))

end Go.Proofs.YtmfgiabmmdbmoaaGreatDoor
