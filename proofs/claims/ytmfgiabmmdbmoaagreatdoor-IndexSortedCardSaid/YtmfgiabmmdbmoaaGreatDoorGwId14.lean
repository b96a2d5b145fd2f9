/-
  A part of the proofs of the laws of the index: what the functions of this program compute. Conditions: none beyond those that its theorems name.
-/
import Derived.Test.YtmfgiabmmdbmoaaGreatDoorGwId12
import Derived.Test.YtmfgiabmmdbmoaaGreatDoorGw9
import Derived.Test.YtmfgiabmmdbmoaaGreatDoorGwIx3
namespace Go.Proofs.YtmfgiabmmdbmoaaGreatDoor
open Go.Gw Go.Ix Go.Sort

/-- The cells of states. -/
def stC (L : List (St × Value)) : List Value := L.flatMap fun p => [I p.1.ends, S p.1.letters, p.2]
theorem stC_len (L : List (St × Value)) : (stC L).length = L.length * 3 := by
  induction L with
  | nil => rfl
  | cons p L ih => simp only [stC, List.flatMap_cons, List.length_append] at ih ⊢; rw [ih]; simp; omega
theorem stC_at : ∀ (L : List (St × Value)) (i : Nat) (hi : i < L.length) (j : Nat), j < 3 → (stC L)[i * 3 + j]? = [I L[i].1.ends, S L[i].1.letters, L[i].2][j]?
  | [], i, hi, _, _ => by cases hi
  | p :: L, 0, _, j, hj => by
    simp only [stC, List.flatMap_cons, Nat.zero_mul, Nat.zero_add, List.getElem_cons_zero]
    rw [List.getElem?_append_left (by simpa using hj)]
  | p :: L, i + 1, hi, j, hj => by
    have := stC_at L i (by simpa using hi) j hj
    simp only [stC, List.flatMap_cons, List.getElem_cons_succ] at this ⊢
    rw [List.getElem?_append_right (by simp; omega), ← this]
    congr 1
    simp; omega
theorem own_apart {B B' : Nat} {h : Hp} {e e' sz sz' : Nat} {v v' : Value} {n n' : Nat} {xs xs' : List Value} (o : Own B h e sz v n xs) (o' : Own B' h e' sz' v' n' xs') (hne : e ≠ e') : v.ownBlock = none ∨ v.ownBlock ≠ v'.ownBlock := by
  rcases o.2 with ⟨rfl, _⟩ | ⟨g, cap, cur, rfl, _, hg, _⟩
  · exact .inl rfl
  · rcases o'.2 with ⟨rfl, _⟩ | ⟨g', cap', cur', rfl, _, hg', _⟩
    · exact .inr (by simp [Value.ownBlock])
    · refine .inr (fun e2 => ?_)
      simp only [Value.ownBlock, Option.some.injEq] at e2
      subst e2
      have h1 := hg.symm.trans hg'
      simp only [Option.some.injEq, Obj.cells.injEq] at h1
      exact hne h1.2.1
theorem own_mono {B B' : Nat} {h : Hp} {e sz : Nat} {v : Value} {n : Nat} {xs : List Value} (o : Own B h e sz v n xs) (hB : B' ≤ B) : Own B' h e sz v n xs := by
  refine ⟨o.1, ?_⟩
  rcases o.2 with h0 | ⟨g, cap, cur, hv, hg, r⟩
  · exact .inl h0
  · exact .inr ⟨g, cap, cur, hv, by omega, r⟩
/-- States of their own. -/
def StI (B : Nat) (L : List (St × Value)) (vo : Value) (h' : Hp) : Prop := Own B h' 43 3 vo L.length (stC L) ∧ ∀ p ∈ L, Own B h' 3 1 p.2 p.1.next.length (p.1.next.map I)
theorem StI.ext {B : Nat} {L : List (St × Value)} {vo : Value} {h h' : Hp} (s : StI B L vo h) (e : Ext h h') : StI B L vo h' := ⟨s.1.ext e, fun p hp => (s.2 p hp).ext e⟩
theorem StI.sts {B : Nat} {L : List (St × Value)} {vo : Value} {h : Hp} (s : StI B L vo h) : Sts h vo (L.map (·.1)) := by
  rcases s.1.2 with ⟨rfl, h0⟩ | ⟨g, cap, cur, rfl, _, hg, hnc, _⟩
  · have : L = [] := List.eq_nil_of_length_eq_zero h0
    subst this
    exact ⟨none, 0, rfl, Nat.le_refl _, fun i hi => by cases hi⟩
  · refine ⟨some ⟨g, 0, none⟩, cap, by simp, by simpa using hnc, fun i hi => ⟨_, rfl, ?_⟩⟩
    have hi' : i < L.length := by simpa using hi
    refine ⟨L[i].2, fun j u hj => ?_, ?_⟩
    · have hc := Own.cells s.1 rfl (i * 3 + j) u
      rw [add_head] at hc ⊢
      rw [add_at]
      refine hc ?_
      have hj3 : j < 3 := by have := (List.getElem?_eq_some_iff.1 hj).1; simpa using this
      rw [stC_at L i hi' j hj3]
      simpa using hj
    · have := (s.2 L[i] (List.getElem_mem hi')).sl
      simpa using this
theorem StI.app {B : Nat} {L : List (St × Value)} {vo v' : Value} {h h' : Hp} {p : St × Value} (s : StI B L vo h) (hp : Own B h 3 1 p.2 p.1.next.length (p.1.next.map I)) (ho : Own B h' 43 3 v' (L.length + 1) (stC L ++ [I p.1.ends, S p.1.letters, p.2])) (hg : Gr h h' vo.ownBlock) : StI B (L ++ [p]) v' h' := by
  refine ⟨by simpa [stC] using ho, fun q hq => ?_⟩
  rcases List.mem_append.1 hq with hq | hq
  · exact (s.2 q hq).gr hg (own_apart (s.2 q hq) s.1 (by decide))
  · rw [List.mem_singleton] at hq; subst hq
    exact hp.gr hg (own_apart hp s.1 (by decide))
theorem new_app {h h' : Hp} {e : TypeId} {fz : Nat × Nat} {cs : List Value} {m sz : Nat} (hn : New h h' (.cells ⟨cs⟩ e fz)) (hl : cs.length = m * sz) : ∃ ad c, Value.slice (some ⟨h.size, 0, none⟩) m m = .slice ad m c ∧ cs.length = m * sz ∧ ∀ j u, cs[j]? = some u → ∃ p, ad = some p ∧ hcell h' (p.add j) = some u :=
  ⟨_, _, rfl, hl, fun j u hj => ⟨_, rfl, by rw [add_head, hcell_block hn.get]; simpa using hj⟩⟩

theorem firsts_len {l : List Bs} (hn : Small2 l) : (firsts l).length ≤ 1000001 := by
  rw [(firsts_perm l).length_eq, List.length_map]
  exact Nat.le_trans (kp_count l (allW l)) (allW_count hn)
theorem firsts_word {l : List Bs} (hn : Small2 l) {w : Bs} (h : w ∈ firsts l) : w.length ≤ 1000 := allW_len hn _ (mem_firsts.1 h).1
/-- The letters before c that lead on. -/
def outsTo (l : List Bs) (w : Bs) (c : Nat) : Bs := (alpha.take (c - 97)).filter fun c => decide (form l (w ++ [c]) ≠ [])
theorem alpha_at : ∀ {c : Nat}, 97 ≤ c → c ≤ 122 → ∃ h : c - 97 < alpha.length, alpha[c - 97] = UInt8.ofNat c := by
  intro c h1 h2
  have key : ∀ n : Fin 26, alpha[n.val]? = some (UInt8.ofNat (97 + n.val)) := by decide
  have := key ⟨c - 97, by omega⟩
  simp only [show 97 + (c - 97) = c by omega] at this
  exact List.getElem?_eq_some_iff.1 this
theorem filter_take' {α : Type} {p : α → Bool} {l : List α} {k : Nat} (hk : k < l.length) : (l.take (k + 1)).filter p = (l.take k).filter p ++ (if p l[k] = true then [l[k]] else []) := by
  rw [take_snoc hk, List.filter_append]; congr 1; simp [List.filter_cons]
theorem outsTo_succ {l : List Bs} {w : Bs} {c : Nat} (h1 : 97 ≤ c) (h2 : c ≤ 122) : outsTo l w (c + 1) = outsTo l w c ++ (if form l (w ++ [UInt8.ofNat c]) = [] then [] else [UInt8.ofNat c]) := by
  obtain ⟨h3, h4⟩ := alpha_at h1 h2
  unfold outsTo
  rw [show c + 1 - 97 = c - 97 + 1 by omega, filter_take' h3, h4]
  by_cases h : form l (w ++ [UInt8.ofNat c]) = [] <;> simp [h]
theorem outsTo_all {l : List Bs} {w : Bs} {c : Nat} (h : 123 ≤ c) : outsTo l w c = outs l w := by
  unfold outsTo outs
  rw [List.take_of_length_le (by simp [alpha]; omega)]
theorem outsTo_len {l : List Bs} {w : Bs} {c : Nat} : (outsTo l w c).length ≤ 26 := by
  unfold outsTo
  have h1 := List.length_filter_le (fun c => decide (form l (w ++ [c]) ≠ [])) (alpha.take (c - 97))
  rw [List.length_take, show alpha.length = 26 from rfl] at h1
  omega

/-- (*burin/index.shelf).states -/
theorem ok51 : FnOk Tryz.prog 51 := fnok Tryz.func51 (by kernel_rfl) rfl
set_option maxRecDepth 10000 in
theorem w51 {h : Hp} {bs : Nat} {v : Value} {l : List Bs} (hn : Small2 l) (hl : Strs h v l) (hs : Shelf bs v l h) : CallsH Tryz.prog 51 #[.pointer (some ⟨bs, 0, none⟩)] h (fun r h' => Sts h' r (statesL l) ∧ Ext h h') := by
  obtain ⟨vf, hsw, hvf⟩ := hs
  have hs0 := hsw.sh0
  have hnl := hn.1
  have hfl := firsts_len hn
  have hvf0 := hvf
  obtain ⟨af, cf, rfl, hcf, hvfc⟩ := hvf.op
  refine enter ok51 Tryz.func51 rfl Tryz.ntmps51 (by simp) (fun w0 => ?_)
  repeat refine x_seq ?_
  refine x_reg ?_
  refine ops_box rfl rfl rfl ?_
  intro h1 hn1
  have s1 := hn1.size
  have hc1 : hcell h1 ⟨h.size, 0, none⟩ = some (.pointer (some ⟨bs, 0, none⟩)) := by rw [hcell_block hn1.get]; rfl
  have hsw1 := hsw.of (hn1.old _ hs0.lt)
  refine go 1000 rfl trivial (ops_nil ?_)
  repeat refine x_seq ?_
  refine goes rfl trivial ?_
  repeat refine x_seq ?_
  refine x_reg ?_
  refine ops_load tabOk rfl rfl rfl rfl hc1 ?_
  refine go 2 rfl trivial ?_
  refine ops_load tabOk rfl rfl rfl rfl hsw1.vf ?_
  refine go 1000 rfl trivial (ops_nil ?_)
  repeat refine x_seq ?_
  refine x_block ?_
  repeat refine x_seq ?_
  refine x_loop (fun x : Nat × Value × List (St × Value) => [(1, .pointer (some ⟨h.size, 0, none⟩)), (3, x.2.1), (13, .slice af (firsts l).length cf), (14, I (firsts l).length), (15, I x.1)]) (fun x h' => (Ext h h' ∧ h.size + 1 ≤ h'.size ∧ h'[h.size]? = some (.cells ⟨[.pointer (some ⟨bs, 0, none⟩)]⟩ 57 (0, 0)) ∧ StI (h.size + 1) x.2.2 x.2.1 h') ∧ (x.1 ≤ (firsts l).length) ∧ x.2.2.map (·.1) = ((firsts l).take x.1).map (stOf l)) (fun x => (firsts l).length - x.1) (0, .slice none 0 0, []) ⟨rfl, rfl, rfl, rfl, rfl, trivial⟩ ⟨⟨hn1.ext, by omega, hn1.get, Own.nil _ _ _ _, by simp⟩, by simp, by simp⟩ ?_
  rintro ⟨k, vo, L⟩ h3 ⟨⟨he3, s3, hbox, hst⟩, hk, hP⟩ K1 hK1
  dsimp only at hst hk hP ⊢
  have hLl : L.length = k := by have := congrArg List.length hP; rw [List.length_map, List.length_map, List.length_take] at this; omega
  repeat refine x_seq ?_
  refine goes rfl trivial ?_
  repeat refine x_seq ?_
  refine x_ifd rfl (fun c1 => ?_) (fun c1 => ?_)
  · repeat refine x_seq ?_
    refine x_skip ?_
    repeat refine x_seq ?_
    refine x_block ?_
    repeat refine x_seq ?_
    have hlt : k < (firsts l).length := by omega
    obtain ⟨q, rfl, hq⟩ := hvfc k hlt
    have hq := he3.cell hq
    have hww := firsts_word hn (List.getElem_mem hlt)
    refine x_reg ?_
    refine go 1 rfl ⟨by first | omega | (simp only [inK]; omega) | (rw [List.length_append]; simp only [List.length_cons, List.length_nil]; omega) | (simp only [List.length_cons, List.length_nil]; omega), trivial⟩ ?_
    refine ops_load tabOk rfl rfl rfl rfl (by assumption) ?_
    refine go 1000 rfl trivial (ops_nil ?_)
    repeat refine x_seq ?_
    refine x_scope ?_
    repeat refine x_seq ?_
    refine x_reg ?_
    refine go 1 rfl trivial ?_
    refine ops_alloc tabOk rfl rfl rfl ?_
    intro h4 hn4
    refine ops_store (vs := [I 0, S [], .slice none 0 0]) (cs' := [I 0, S [], .slice none 0 0]) tabOk rfl rfl rfl rfl rfl rfl hn4.get (by simp) rfl ?_
    intro h5 hp5
    have s4 := hn4.size
    have s5 := hp5.size
    have e35 : Ext h3 h5 := Bel.trans hn4.ext (hp5.bel (Nat.le_refl _))
    have e05 : Ext h h5 := he3.trans e35
    have hc5 : hcell h5 ⟨h.size, 0, none⟩ = some (.pointer (some ⟨bs, 0, none⟩)) := by rw [hcell_block (e35.get hbox)]; rfl
    have hs5 := hs0.ext e05
    refine ops_nil ?_
    repeat refine x_seq ?_
    refine x_reg ?_
    refine ops_load tabOk rfl rfl rfl rfl hc5 ?_
    refine go 3 rfl trivial ?_
    refine ops_load tabOk rfl rfl rfl rfl hs5.cell ?_
    refine go 1 rfl trivial ?_
    refine ops_call rfl rfl rfl (w44 (firsts l)[k] (by omega) (hl.ext e05)) ?_
    rintro _ hq5 ⟨rfl, e5⟩
    obtain rfl := e5.symm
    refine ops_nil ?_
    repeat refine x_seq ?_
    refine x_if rfl (fun c2 => ?_) (fun c2 => ?_)
    · repeat refine x_seq ?_
      refine x_reg ?_
      refine go 1 rfl trivial ?_
      refine ops_store (vs := [I 1]) (cs' := [I 1, S [], .slice none 0 0]) tabOk rfl rfl rfl rfl rfl rfl hp5.get (by simp) rfl ?_
      intro h6 hp6
      have s6 := hp6.size
      have e36 : Ext h3 h6 := Bel.trans e35 (hp6.bel (Nat.le_refl _))
      have hb6 : h6[h3.size]? = some (.cells ⟨[I (stOf l (firsts l)[k]).ends, S [], .slice none 0 0]⟩ 43 (0, 0)) := by rw [show (stOf l (firsts l)[k]).ends = 1 from by unfold stOf; rw [if_pos (by simpa using c2)]]; exact hp6.get
      refine ops_nil ?_
      repeat refine x_seq ?_
      refine x_label ?_
      repeat refine x_seq ?_
      refine goes rfl trivial ?_
      repeat refine x_seq ?_
      refine x_block ?_
      repeat refine x_seq ?_
      refine x_loop (fun y : Nat × Value => [(1, .pointer (some ⟨h.size, 0, none⟩)), (3, vo), (5, S (firsts l)[k]), (6, .pointer (some ⟨h3.size, 0, none⟩)), (7, .int .u8 (y.1 : Int)), (13, .slice (some q) (firsts l).length cf), (14, I (firsts l).length), (15, I k)]) (fun y h' => (Ext h3 h' ∧ h3.size + 1 ≤ h'.size ∧ h'[h3.size]? = some (.cells ⟨[I (stOf l (firsts l)[k]).ends, S (outsTo l (firsts l)[k] y.1), y.2]⟩ 43 (0, 0)) ∧ Own (h3.size + 1) h' 3 1 y.2 (outsTo l (firsts l)[k] y.1).length (((outsTo l (firsts l)[k] y.1).map fun c => ixOf l (form l ((firsts l)[k] ++ [c]))).map I)) ∧ (97 ≤ y.1 ∧ y.1 ≤ 123)) (fun y => 123 - y.1) (97, .slice none 0 0) ⟨rfl, rfl, rfl, rfl, rfl, rfl, rfl, rfl, trivial⟩ ⟨⟨e36, by omega, hb6, Own.nil _ _ _ _⟩, by decide⟩ ?_
      rintro ⟨c, nv⟩ h7 ⟨⟨e37, s37, hb7, ho7⟩, hc⟩ K2 hK2
      dsimp only at hb7 ho7 hc ⊢
      have hol := outsTo_len (l := l) (w := (firsts l)[k]) (c := c)
      have e07 : Ext h h7 := he3.trans e37
      repeat refine x_seq ?_
      refine goes rfl trivial ?_
      repeat refine x_seq ?_
      refine x_ifd rfl (fun c3 => ?_) (fun c3 => ?_)
      · repeat refine x_seq ?_
        refine x_skip ?_
        repeat refine x_seq ?_
        refine x_block ?_
        repeat refine x_seq ?_
        refine goes rfl ⟨by first | omega | (simp only [inK]; omega) | (rw [List.length_append]; simp only [List.length_cons, List.length_nil]; omega) | (simp only [List.length_cons, List.length_nil]; omega), by first | omega | (simp only [inK]; omega) | (rw [List.length_append]; simp only [List.length_cons, List.length_nil]; omega) | (simp only [List.length_cons, List.length_nil]; omega), by first | omega | (simp only [inK]; omega) | (rw [List.length_append]; simp only [List.length_cons, List.length_nil]; omega) | (simp only [List.length_cons, List.length_nil]; omega), trivial⟩ ?_
        repeat refine x_seq ?_
        have hc7 : hcell h7 ⟨h.size, 0, none⟩ = some (.pointer (some ⟨bs, 0, none⟩)) := by rw [hcell_block (e37.get hbox)]; rfl
        have hs7 := hs0.ext e07
        refine x_reg ?_
        refine ops_load tabOk rfl rfl rfl rfl hc7 ?_
        refine go 2 rfl trivial ?_
        refine ops_loads tabOk rfl rfl rfl rfl rfl hs7.cells ?_
        refine go 1 rfl trivial ?_
        refine ops_call rfl rfl rfl (w50 ((firsts l)[k] ++ [UInt8.ofNat c]) hn (by simp; omega) (hl.ext e07)) ?_
        rintro _ h8 ⟨rfl, e8⟩
        refine ops_alloc tabOk rfl rfl rfl ?_
        intro h9 hn9
        refine ops_store (vs := [S (form l ((firsts l)[k] ++ [UInt8.ofNat c]))]) (cs' := [S (form l ((firsts l)[k] ++ [UInt8.ofNat c]))]) tabOk rfl rfl rfl rfl rfl rfl hn9.get (by simp) rfl ?_
        intro ha hpa
        have s9 := hn9.size
        have sa := hpa.size
        have s8 := e8.size
        have e7a : Ext h7 ha := Bel.trans (e8.trans hn9.ext) (hpa.bel e8.size)
        have hca : hcell ha ⟨h8.size, 0, none⟩ = some (S (form l ((firsts l)[k] ++ [UInt8.ofNat c]))) := by rw [hcell_block hpa.get]; rfl
        have hba := e7a.get hb7
        have hoa := ho7.ext e7a
        have e0a : Ext h ha := e07.trans e7a
        have z7a := e7a.size
        refine ops_nil ?_
        repeat refine x_seq ?_
        refine x_reg ?_
        refine ops_load tabOk rfl rfl rfl rfl hca ?_
        refine go 1000 rfl trivial (ops_nil ?_)
        repeat refine x_seq ?_
        refine x_ifd rfl (fun c4 => ?_) (fun c4 => ?_)
        · have hf0 : form l ((firsts l)[k] ++ [UInt8.ofNat c]) = [] := c4
          have e39 := e37.trans e7a
          have hb9 := hba
          have ho9 := hoa
          repeat refine x_seq ?_
          refine x_exit rfl ?_
          repeat refine x_seq ?_
          refine goes rfl ⟨by first | omega | (simp only [inK]; omega) | (rw [List.length_append]; simp only [List.length_cons, List.length_nil]; omega) | (simp only [List.length_cons, List.length_nil]; omega), trivial⟩ ?_
          refine x_next (c + 1, nv) ⟨rfl, rfl, rfl, rfl, rfl, rfl, rfl, rfl, trivial⟩ ⟨⟨e39, by omega, by show _ = some (Obj.cells ⟨[_, S (outsTo l (firsts l)[k] (c + 1)), nv]⟩ 43 (0, 0)); rw [outsTo_succ hc.1 (by omega), if_pos hf0, List.append_nil]; exact hb9, by show Own _ _ 3 1 nv (outsTo l (firsts l)[k] (c + 1)).length _; rw [outsTo_succ hc.1 (by omega), if_pos hf0, List.append_nil]; exact ho9⟩, (by show 97 ≤ c + 1 ∧ c + 1 ≤ 123; omega)⟩ (by show 123 - (c + 1) < 123 - c; omega)
        · have hf0 : ¬ form l ((firsts l)[k] ++ [UInt8.ofNat c]) = [] := c4
          repeat refine x_seq ?_
          refine x_skip ?_
          repeat refine x_seq ?_
          refine x_reg ?_
          refine go 1 rfl trivial ?_
          refine ops_load tabOk rfl rfl rfl rfl (show hcell ha ((⟨h3.size, 0, none⟩ : Addr).add 1) = some (S (outsTo l (firsts l)[k] c)) by rw [add_head, hcell_block hba]; rfl) ?_
          refine go 5 rfl ⟨by first | omega | (simp only [inK]; omega) | (rw [List.length_append]; simp only [List.length_cons, List.length_nil]; omega) | (simp only [List.length_cons, List.length_nil]; omega), by first | omega | (simp only [inK]; omega) | (rw [List.length_append]; simp only [List.length_cons, List.length_nil]; omega) | (simp only [List.length_cons, List.length_nil]; omega), by first | omega | (simp only [inK]; omega) | (rw [List.length_append]; simp only [List.length_cons, List.length_nil]; omega) | (simp only [List.length_cons, List.length_nil]; omega), trivial⟩ ?_
          refine ops_store (b := h3.size) (vs := [S (outsTo l (firsts l)[k] c ++ [UInt8.ofNat c])]) (cs' := [I (stOf l (firsts l)[k]).ends, S (outsTo l (firsts l)[k] c ++ [UInt8.ofNat c]), nv]) tabOk rfl rfl rfl rfl rfl rfl hba (by simp) rfl ?_
          intro hb hpb
          have sb := hpb.size
          have hob : Own (h3.size + 1) hb 3 1 nv (outsTo l (firsts l)[k] c).length (((outsTo l (firsts l)[k] c).map fun c => ixOf l (form l ((firsts l)[k] ++ [c]))).map I) := hoa.put hpb (by omega)
          have e3b : Ext h3 hb := Bel.trans (e37.trans e7a) (hpb.bel (Nat.le_refl _))
          have e0b : Ext h hb := he3.trans e3b
          have hf9 : hb[h8.size]? = some (.cells ⟨[S (form l ((firsts l)[k] ++ [UInt8.ofNat c]))]⟩ 9 (0, 0)) := hpb.keep hpa.get (by omega)
          have hxb : hb[h.size]? = some (.cells ⟨[.pointer (some ⟨bs, 0, none⟩)]⟩ 57 (0, 0)) := e3b.get hbox
          have hswb := hsw.of (e0b.old _ hs0.lt)
          refine ops_nil ?_
          repeat refine x_seq ?_
          refine x_draw [(0, true), (1, true), (2, true), (3, true), (4, true), (5, true), (6, true), (7, false), (8, false), (9, false), (10, true)] [11] (fun (h' : Hp) => h'[h3.size]? = some (Obj.cells ⟨[I (stOf l (firsts l)[k]).ends, S (outsTo l (firsts l)[k] c ++ [UInt8.ofNat c]), nv]⟩ 43 (0, 0)) ∧ h'[h.size]? = some (Obj.cells ⟨[.pointer (some ⟨bs, 0, none⟩)]⟩ 57 (0, 0)) ∧ ShW bs v l.flatten.length (.slice (some q) (firsts l).length cf) h') mixed (by kernel_rfl) rfl rfl ⟨hpb.get, hxb, hswb⟩ ?_
          refine sgo 1 rfl trivial ?_
          refine seq_load tabOk rfl rfl rfl rfl (fun _ e => by rw [add_head, hcell_block e.1]; rfl) ?_
          refine seq_load tabOk rfl rfl rfl rfl (fun _ e => by rw [hcell_block e.2.1]; rfl) ?_
          refine sgo 2 rfl trivial ?_
          refine seq_load tabOk rfl rfl rfl rfl (fun _ e => e.2.2.vf) ?_
          refine sgo 1 rfl trivial ?_
          refine seq_act (ops_call rfl rfl rfl (w72 (by omega) (hvf0.ext e0b) 73 #[.pointer (some ⟨h.size, 0, none⟩), .pointer (some ⟨h8.size, 0, none⟩)] (fun v => decide (form l v = form l ((firsts l)[k] ++ [UInt8.ofNat c]))) (fun x hx h' he' => w73 x hn (by have := firsts_word hn hx; omega) (hl.ext (e0b.trans he')) (hs0.ext (e0b.trans he')) (he'.get hxb) (he'.get hf9))) ?_)
          rintro _ hc9 ⟨rfl, ebc⟩
          refine ops_nil ⟨⟨ebc.get hpb.get, ebc.get hxb, hswb.of (ebc.old _ (by have := hs0.lt; have := e0b.size; omega))⟩, ?_⟩
          refine seq_act (ops_buildSlice (cs := [I (ixOf l (form l ((firsts l)[k] ++ [UInt8.ofNat c])))]) tabOk rfl rfl rfl rfl rfl rfl rfl rfl rfl ?_)
          intro hd hnd
          refine ops_nil ⟨⟨(ebc.trans hnd.ext).get hpb.get, (ebc.trans hnd.ext).get hxb, hswb.of ((ebc.trans hnd.ext).old _ (by have := hs0.lt; have := e0b.size; omega))⟩, ?_⟩
          refine seq_act (ops_append tabOk rfl rfl rfl rfl rfl rfl rfl rfl ((hob.ext ebc).ext hnd.ext) (new_app hnd rfl) rfl ⟨by omega, show _ * 8 ≤ _ by omega⟩ (by have := ebc.size; have := hnd.size; omega) rfl ?_)
          intro v13 hm hoe hge _
          have hbd : Bel (h3.size + 1) hd hm := ((hob.ext ebc).ext hnd.ext).bel hge (by have := ebc.size; have := hnd.size; omega)
          refine ops_nil ⟨⟨hbd.get ((ebc.trans hnd.ext).get hpb.get) (by omega), hbd.get ((ebc.trans hnd.ext).get hxb) (by omega), (hswb.of ((ebc.trans hnd.ext).old _ (by have := hs0.lt; have := e0b.size; omega))).of (hbd.old _ (by have := hs0.lt; have := he3.size; omega))⟩, ?_⟩
          refine sgo 1000 rfl trivial (seq_tail ?_)
          refine ops_store (b := h3.size) (vs := [v13]) (cs' := [I (stOf l (firsts l)[k]).ends, S (outsTo l (firsts l)[k] c ++ [UInt8.ofNat c]), v13]) tabOk rfl rfl rfl hoe.one.1 rfl (by simp [hoe.one.2]) (hbd.get ((ebc.trans hnd.ext).get hpb.get) (by omega)) (by simp) rfl ?_
          intro he hpe
          have se := hpe.size
          have sm := hge.size
          have sd := hnd.size
          have sc := ebc.size
          have e3e : Ext h3 he := Bel.trans (Bel.trans (e3b.trans (ebc.trans hnd.ext)) (hbd.mono (by omega))) (hpe.bel (Nat.le_refl _))
          replace hoe := hoe.put hpe (by omega)
          refine ops_nil ?_
          refine x_out ?_
          repeat refine x_seq ?_
          refine goes rfl ⟨by first | omega | (simp only [inK]; omega) | (rw [List.length_append]; simp only [List.length_cons, List.length_nil]; omega) | (simp only [List.length_cons, List.length_nil]; omega), trivial⟩ ?_
          refine x_next (c + 1, v13) ⟨rfl, rfl, rfl, rfl, rfl, rfl, rfl, rfl, trivial⟩ ⟨⟨e3e, by omega, by show _ = some (Obj.cells ⟨[_, S (outsTo l (firsts l)[k] (c + 1)), v13]⟩ 43 (0, 0)); rw [outsTo_succ hc.1 (by omega), if_neg hf0]; exact hpe.get, by show Own _ _ 3 1 v13 (outsTo l (firsts l)[k] (c + 1)).length _; rw [outsTo_succ hc.1 (by omega), if_neg hf0]; simpa using hoe⟩, (by show 97 ≤ c + 1 ∧ c + 1 ≤ 123; omega)⟩ (by show 123 - (c + 1) < 123 - c; omega)
      · repeat refine x_seq ?_
        refine x_exit_loop hK2 rfl rfl ?_
        repeat refine x_seq ?_
        refine x_reg ?_
        refine go 1 rfl trivial ?_
        refine ops_loads tabOk rfl rfl rfl rfl rfl (show Cells h7 ⟨h3.size, 0, none⟩ [I (stOf l (firsts l)[k]).ends, S (outs l (firsts l)[k]), nv] from fun j u hj => by rw [add_head, hcell_block hb7, outsTo_all (by omega)]; simpa using hj) ?_
        refine ops_buildSlice (cs := [I (stOf l (firsts l)[k]).ends, S (outs l (firsts l)[k]), nv]) tabOk rfl rfl rfl rfl rfl rfl rfl rfl rfl ?_
        intro h8 hn8
        have e38 : Ext h3 h8 := e37.trans hn8.ext
        have hL := hst.ext e38
        refine ops_append tabOk rfl rfl rfl rfl rfl rfl rfl rfl hL.1 (new_app hn8 rfl) (by simp only [List.all_cons, ho7.one.2]; rfl) ⟨by omega, show _ * 48 ≤ _ by omega⟩ (by have := e38.size; omega) rfl ?_
        intro v9 h9 ho9 hg9 _
        have hn9o : Own (h.size + 1) h8 3 1 nv (stOf l (firsts l)[k]).next.length ((stOf l (firsts l)[k]).next.map I) := by
          have := own_mono (ho7.ext hn8.ext) (show h.size + 1 ≤ h3.size + 1 by omega)
          rw [outsTo_all (by omega)] at this
          simpa [stOf] using this
        have hst9 := hL.app (p := (stOf l (firsts l)[k], nv)) hn9o ho9 hg9
        have hbx9 := hg9.keep (e38.get hbox) (fun e => by have := (hL.1.lt _ e.symm).1; omega)
        refine go 1000 rfl trivial (ops_nil ?_)
        refine x_out_scope ?_
        refine x_out ?_
        repeat refine x_seq ?_
        refine goes rfl ⟨by first | omega | (simp only [inK]; omega) | (rw [List.length_append]; simp only [List.length_cons, List.length_nil]; omega) | (simp only [List.length_cons, List.length_nil]; omega), trivial⟩ ?_
        refine x_next (k + 1, v9, L ++ [(stOf l (firsts l)[k], nv)]) ⟨rfl, rfl, rfl, rfl, rfl, trivial⟩ ⟨⟨Bel.trans (he3.trans e38) ((hL.1.bel hg9 (by have := e38.size; omega)).mono (by omega)), by have := hg9.size; have := e38.size; omega, hbx9, hst9⟩, (by show k + 1 ≤ _; omega), by show (L ++ [(stOf l (firsts l)[k], nv)]).map (·.1) = ((firsts l).take (k + 1)).map (stOf l); rw [take_snoc hlt, List.map_append, hP, List.map_append]; rfl⟩ (by show (firsts l).length - (k + 1) < (firsts l).length - k; omega)
    · have e36 := e35
      have hb6 : h5[h3.size]? = some (.cells ⟨[I (stOf l (firsts l)[k]).ends, S [], .slice none 0 0]⟩ 43 (0, 0)) := by rw [show (stOf l (firsts l)[k]).ends = 0 from by unfold stOf; rw [if_neg (by simpa using c2)]]; exact hp5.get
      repeat refine x_seq ?_
      refine x_skip ?_
      repeat refine x_seq ?_
      refine x_label ?_
      repeat refine x_seq ?_
      refine goes rfl trivial ?_
      repeat refine x_seq ?_
      refine x_block ?_
      repeat refine x_seq ?_
      refine x_loop (fun y : Nat × Value => [(1, .pointer (some ⟨h.size, 0, none⟩)), (3, vo), (5, S (firsts l)[k]), (6, .pointer (some ⟨h3.size, 0, none⟩)), (7, .int .u8 (y.1 : Int)), (13, .slice (some q) (firsts l).length cf), (14, I (firsts l).length), (15, I k)]) (fun y h' => (Ext h3 h' ∧ h3.size + 1 ≤ h'.size ∧ h'[h3.size]? = some (.cells ⟨[I (stOf l (firsts l)[k]).ends, S (outsTo l (firsts l)[k] y.1), y.2]⟩ 43 (0, 0)) ∧ Own (h3.size + 1) h' 3 1 y.2 (outsTo l (firsts l)[k] y.1).length (((outsTo l (firsts l)[k] y.1).map fun c => ixOf l (form l ((firsts l)[k] ++ [c]))).map I)) ∧ (97 ≤ y.1 ∧ y.1 ≤ 123)) (fun y => 123 - y.1) (97, .slice none 0 0) ⟨rfl, rfl, rfl, rfl, rfl, rfl, rfl, rfl, trivial⟩ ⟨⟨e36, by omega, hb6, Own.nil _ _ _ _⟩, by decide⟩ ?_
      rintro ⟨c, nv⟩ h7 ⟨⟨e37, s37, hb7, ho7⟩, hc⟩ K3 hK3
      dsimp only at hb7 ho7 hc ⊢
      have hol := outsTo_len (l := l) (w := (firsts l)[k]) (c := c)
      have e07 : Ext h h7 := he3.trans e37
      repeat refine x_seq ?_
      refine goes rfl trivial ?_
      repeat refine x_seq ?_
      refine x_ifd rfl (fun c5 => ?_) (fun c5 => ?_)
      · repeat refine x_seq ?_
        refine x_skip ?_
        repeat refine x_seq ?_
        refine x_block ?_
        repeat refine x_seq ?_
        refine goes rfl ⟨by first | omega | (simp only [inK]; omega) | (rw [List.length_append]; simp only [List.length_cons, List.length_nil]; omega) | (simp only [List.length_cons, List.length_nil]; omega), by first | omega | (simp only [inK]; omega) | (rw [List.length_append]; simp only [List.length_cons, List.length_nil]; omega) | (simp only [List.length_cons, List.length_nil]; omega), by first | omega | (simp only [inK]; omega) | (rw [List.length_append]; simp only [List.length_cons, List.length_nil]; omega) | (simp only [List.length_cons, List.length_nil]; omega), trivial⟩ ?_
        repeat refine x_seq ?_
        have hc7 : hcell h7 ⟨h.size, 0, none⟩ = some (.pointer (some ⟨bs, 0, none⟩)) := by rw [hcell_block (e37.get hbox)]; rfl
        have hs7 := hs0.ext e07
        refine x_reg ?_
        refine ops_load tabOk rfl rfl rfl rfl hc7 ?_
        refine go 2 rfl trivial ?_
        refine ops_loads tabOk rfl rfl rfl rfl rfl hs7.cells ?_
        refine go 1 rfl trivial ?_
        refine ops_call rfl rfl rfl (w50 ((firsts l)[k] ++ [UInt8.ofNat c]) hn (by simp; omega) (hl.ext e07)) ?_
        rintro _ h8 ⟨rfl, e8⟩
        refine ops_alloc tabOk rfl rfl rfl ?_
        intro h9 hn9
        refine ops_store (vs := [S (form l ((firsts l)[k] ++ [UInt8.ofNat c]))]) (cs' := [S (form l ((firsts l)[k] ++ [UInt8.ofNat c]))]) tabOk rfl rfl rfl rfl rfl rfl hn9.get (by simp) rfl ?_
        intro ha hpa
        have s9 := hn9.size
        have sa := hpa.size
        have s8 := e8.size
        have e7a : Ext h7 ha := Bel.trans (e8.trans hn9.ext) (hpa.bel e8.size)
        have hca : hcell ha ⟨h8.size, 0, none⟩ = some (S (form l ((firsts l)[k] ++ [UInt8.ofNat c]))) := by rw [hcell_block hpa.get]; rfl
        have hba := e7a.get hb7
        have hoa := ho7.ext e7a
        have e0a : Ext h ha := e07.trans e7a
        have z7a := e7a.size
        refine ops_nil ?_
        repeat refine x_seq ?_
        refine x_reg ?_
        refine ops_load tabOk rfl rfl rfl rfl hca ?_
        refine go 1000 rfl trivial (ops_nil ?_)
        repeat refine x_seq ?_
        refine x_ifd rfl (fun c6 => ?_) (fun c6 => ?_)
        · have hf0 : form l ((firsts l)[k] ++ [UInt8.ofNat c]) = [] := c6
          have e39 := e37.trans e7a
          have hb9 := hba
          have ho9 := hoa
          repeat refine x_seq ?_
          refine x_exit rfl ?_
          repeat refine x_seq ?_
          refine goes rfl ⟨by first | omega | (simp only [inK]; omega) | (rw [List.length_append]; simp only [List.length_cons, List.length_nil]; omega) | (simp only [List.length_cons, List.length_nil]; omega), trivial⟩ ?_
          refine x_next (c + 1, nv) ⟨rfl, rfl, rfl, rfl, rfl, rfl, rfl, rfl, trivial⟩ ⟨⟨e39, by omega, by show _ = some (Obj.cells ⟨[_, S (outsTo l (firsts l)[k] (c + 1)), nv]⟩ 43 (0, 0)); rw [outsTo_succ hc.1 (by omega), if_pos hf0, List.append_nil]; exact hb9, by show Own _ _ 3 1 nv (outsTo l (firsts l)[k] (c + 1)).length _; rw [outsTo_succ hc.1 (by omega), if_pos hf0, List.append_nil]; exact ho9⟩, (by show 97 ≤ c + 1 ∧ c + 1 ≤ 123; omega)⟩ (by show 123 - (c + 1) < 123 - c; omega)
        · have hf0 : ¬ form l ((firsts l)[k] ++ [UInt8.ofNat c]) = [] := c6
          repeat refine x_seq ?_
          refine x_skip ?_
          repeat refine x_seq ?_
          refine x_reg ?_
          refine go 1 rfl trivial ?_
          refine ops_load tabOk rfl rfl rfl rfl (show hcell ha ((⟨h3.size, 0, none⟩ : Addr).add 1) = some (S (outsTo l (firsts l)[k] c)) by rw [add_head, hcell_block hba]; rfl) ?_
          refine go 5 rfl ⟨by first | omega | (simp only [inK]; omega) | (rw [List.length_append]; simp only [List.length_cons, List.length_nil]; omega) | (simp only [List.length_cons, List.length_nil]; omega), by first | omega | (simp only [inK]; omega) | (rw [List.length_append]; simp only [List.length_cons, List.length_nil]; omega) | (simp only [List.length_cons, List.length_nil]; omega), by first | omega | (simp only [inK]; omega) | (rw [List.length_append]; simp only [List.length_cons, List.length_nil]; omega) | (simp only [List.length_cons, List.length_nil]; omega), trivial⟩ ?_
          refine ops_store (b := h3.size) (vs := [S (outsTo l (firsts l)[k] c ++ [UInt8.ofNat c])]) (cs' := [I (stOf l (firsts l)[k]).ends, S (outsTo l (firsts l)[k] c ++ [UInt8.ofNat c]), nv]) tabOk rfl rfl rfl rfl rfl rfl hba (by simp) rfl ?_
          intro hb hpb
          have sb := hpb.size
          have hob : Own (h3.size + 1) hb 3 1 nv (outsTo l (firsts l)[k] c).length (((outsTo l (firsts l)[k] c).map fun c => ixOf l (form l ((firsts l)[k] ++ [c]))).map I) := hoa.put hpb (by omega)
          have e3b : Ext h3 hb := Bel.trans (e37.trans e7a) (hpb.bel (Nat.le_refl _))
          have e0b : Ext h hb := he3.trans e3b
          have hf9 : hb[h8.size]? = some (.cells ⟨[S (form l ((firsts l)[k] ++ [UInt8.ofNat c]))]⟩ 9 (0, 0)) := hpb.keep hpa.get (by omega)
          have hxb : hb[h.size]? = some (.cells ⟨[.pointer (some ⟨bs, 0, none⟩)]⟩ 57 (0, 0)) := e3b.get hbox
          have hswb := hsw.of (e0b.old _ hs0.lt)
          refine ops_nil ?_
          repeat refine x_seq ?_
          refine x_draw [(0, true), (1, true), (2, true), (3, true), (4, true), (5, true), (6, true), (7, false), (8, false), (9, false), (10, true)] [11] (fun (h' : Hp) => h'[h3.size]? = some (Obj.cells ⟨[I (stOf l (firsts l)[k]).ends, S (outsTo l (firsts l)[k] c ++ [UInt8.ofNat c]), nv]⟩ 43 (0, 0)) ∧ h'[h.size]? = some (Obj.cells ⟨[.pointer (some ⟨bs, 0, none⟩)]⟩ 57 (0, 0)) ∧ ShW bs v l.flatten.length (.slice (some q) (firsts l).length cf) h') mixed (by kernel_rfl) rfl rfl ⟨hpb.get, hxb, hswb⟩ ?_
          refine sgo 1 rfl trivial ?_
          refine seq_load tabOk rfl rfl rfl rfl (fun _ e => by rw [add_head, hcell_block e.1]; rfl) ?_
          refine seq_load tabOk rfl rfl rfl rfl (fun _ e => by rw [hcell_block e.2.1]; rfl) ?_
          refine sgo 2 rfl trivial ?_
          refine seq_load tabOk rfl rfl rfl rfl (fun _ e => e.2.2.vf) ?_
          refine sgo 1 rfl trivial ?_
          refine seq_act (ops_call rfl rfl rfl (w72 (by omega) (hvf0.ext e0b) 73 #[.pointer (some ⟨h.size, 0, none⟩), .pointer (some ⟨h8.size, 0, none⟩)] (fun v => decide (form l v = form l ((firsts l)[k] ++ [UInt8.ofNat c]))) (fun x hx h' he' => w73 x hn (by have := firsts_word hn hx; omega) (hl.ext (e0b.trans he')) (hs0.ext (e0b.trans he')) (he'.get hxb) (he'.get hf9))) ?_)
          rintro _ hc9 ⟨rfl, ebc⟩
          refine ops_nil ⟨⟨ebc.get hpb.get, ebc.get hxb, hswb.of (ebc.old _ (by have := hs0.lt; have := e0b.size; omega))⟩, ?_⟩
          refine seq_act (ops_buildSlice (cs := [I (ixOf l (form l ((firsts l)[k] ++ [UInt8.ofNat c])))]) tabOk rfl rfl rfl rfl rfl rfl rfl rfl rfl ?_)
          intro hd hnd
          refine ops_nil ⟨⟨(ebc.trans hnd.ext).get hpb.get, (ebc.trans hnd.ext).get hxb, hswb.of ((ebc.trans hnd.ext).old _ (by have := hs0.lt; have := e0b.size; omega))⟩, ?_⟩
          refine seq_act (ops_append tabOk rfl rfl rfl rfl rfl rfl rfl rfl ((hob.ext ebc).ext hnd.ext) (new_app hnd rfl) rfl ⟨by omega, show _ * 8 ≤ _ by omega⟩ (by have := ebc.size; have := hnd.size; omega) rfl ?_)
          intro v13 hm hoe hge _
          have hbd : Bel (h3.size + 1) hd hm := ((hob.ext ebc).ext hnd.ext).bel hge (by have := ebc.size; have := hnd.size; omega)
          refine ops_nil ⟨⟨hbd.get ((ebc.trans hnd.ext).get hpb.get) (by omega), hbd.get ((ebc.trans hnd.ext).get hxb) (by omega), (hswb.of ((ebc.trans hnd.ext).old _ (by have := hs0.lt; have := e0b.size; omega))).of (hbd.old _ (by have := hs0.lt; have := he3.size; omega))⟩, ?_⟩
          refine sgo 1000 rfl trivial (seq_tail ?_)
          refine ops_store (b := h3.size) (vs := [v13]) (cs' := [I (stOf l (firsts l)[k]).ends, S (outsTo l (firsts l)[k] c ++ [UInt8.ofNat c]), v13]) tabOk rfl rfl rfl hoe.one.1 rfl (by simp [hoe.one.2]) (hbd.get ((ebc.trans hnd.ext).get hpb.get) (by omega)) (by simp) rfl ?_
          intro he hpe
          have se := hpe.size
          have sm := hge.size
          have sd := hnd.size
          have sc := ebc.size
          have e3e : Ext h3 he := Bel.trans (Bel.trans (e3b.trans (ebc.trans hnd.ext)) (hbd.mono (by omega))) (hpe.bel (Nat.le_refl _))
          replace hoe := hoe.put hpe (by omega)
          refine ops_nil ?_
          refine x_out ?_
          repeat refine x_seq ?_
          refine goes rfl ⟨by first | omega | (simp only [inK]; omega) | (rw [List.length_append]; simp only [List.length_cons, List.length_nil]; omega) | (simp only [List.length_cons, List.length_nil]; omega), trivial⟩ ?_
          refine x_next (c + 1, v13) ⟨rfl, rfl, rfl, rfl, rfl, rfl, rfl, rfl, trivial⟩ ⟨⟨e3e, by omega, by show _ = some (Obj.cells ⟨[_, S (outsTo l (firsts l)[k] (c + 1)), v13]⟩ 43 (0, 0)); rw [outsTo_succ hc.1 (by omega), if_neg hf0]; exact hpe.get, by show Own _ _ 3 1 v13 (outsTo l (firsts l)[k] (c + 1)).length _; rw [outsTo_succ hc.1 (by omega), if_neg hf0]; simpa using hoe⟩, (by show 97 ≤ c + 1 ∧ c + 1 ≤ 123; omega)⟩ (by show 123 - (c + 1) < 123 - c; omega)
      · repeat refine x_seq ?_
        refine x_exit_loop hK3 rfl rfl ?_
        repeat refine x_seq ?_
        refine x_reg ?_
        refine go 1 rfl trivial ?_
        refine ops_loads tabOk rfl rfl rfl rfl rfl (show Cells h7 ⟨h3.size, 0, none⟩ [I (stOf l (firsts l)[k]).ends, S (outs l (firsts l)[k]), nv] from fun j u hj => by rw [add_head, hcell_block hb7, outsTo_all (by omega)]; simpa using hj) ?_
        refine ops_buildSlice (cs := [I (stOf l (firsts l)[k]).ends, S (outs l (firsts l)[k]), nv]) tabOk rfl rfl rfl rfl rfl rfl rfl rfl rfl ?_
        intro h8 hn8
        have e38 : Ext h3 h8 := e37.trans hn8.ext
        have hL := hst.ext e38
        refine ops_append tabOk rfl rfl rfl rfl rfl rfl rfl rfl hL.1 (new_app hn8 rfl) (by simp only [List.all_cons, ho7.one.2]; rfl) ⟨by omega, show _ * 48 ≤ _ by omega⟩ (by have := e38.size; omega) rfl ?_
        intro v9 h9 ho9 hg9 _
        have hn9o : Own (h.size + 1) h8 3 1 nv (stOf l (firsts l)[k]).next.length ((stOf l (firsts l)[k]).next.map I) := by
          have := own_mono (ho7.ext hn8.ext) (show h.size + 1 ≤ h3.size + 1 by omega)
          rw [outsTo_all (by omega)] at this
          simpa [stOf] using this
        have hst9 := hL.app (p := (stOf l (firsts l)[k], nv)) hn9o ho9 hg9
        have hbx9 := hg9.keep (e38.get hbox) (fun e => by have := (hL.1.lt _ e.symm).1; omega)
        refine go 1000 rfl trivial (ops_nil ?_)
        refine x_out_scope ?_
        refine x_out ?_
        repeat refine x_seq ?_
        refine goes rfl ⟨by first | omega | (simp only [inK]; omega) | (rw [List.length_append]; simp only [List.length_cons, List.length_nil]; omega) | (simp only [List.length_cons, List.length_nil]; omega), trivial⟩ ?_
        refine x_next (k + 1, v9, L ++ [(stOf l (firsts l)[k], nv)]) ⟨rfl, rfl, rfl, rfl, rfl, trivial⟩ ⟨⟨Bel.trans (he3.trans e38) ((hL.1.bel hg9 (by have := e38.size; omega)).mono (by omega)), by have := hg9.size; have := e38.size; omega, hbx9, hst9⟩, (by show k + 1 ≤ _; omega), by show (L ++ [(stOf l (firsts l)[k], nv)]).map (·.1) = ((firsts l).take (k + 1)).map (stOf l); rw [take_snoc hlt, List.map_append, hP, List.map_append]; rfl⟩ (by show (firsts l).length - (k + 1) < (firsts l).length - k; omega)
  · repeat refine x_seq ?_
    refine x_exit_loop hK1 rfl rfl ?_
    repeat refine x_seq ?_
    refine goes rfl trivial ?_
    repeat refine x_seq ?_
    exact x_ret (at_ret rfl rfl rfl rfl ⟨by have h9 := hst.sts; rw [hP, List.take_of_length_le (by omega)] at h9; exact h9, he3⟩ (.inl rfl))

end Go.Proofs.YtmfgiabmmdbmoaaGreatDoor

namespace Go.Proofs.YtmfgiabmmdbmoaaGreatDoor
open Go.Gw Go.Ix Go.Sort

theorem openErr_nil (l : List Bs) : openErr l [] = checkList l := by
  unfold openErr; split
  · rfl
  · rename_i h; simp only [ne_eq, Decidable.not_not] at h; rw [h]; rfl
def buildL (l : List Bs) : List St × Int := if checkList l ≠ 0 then ([], checkList l) else (statesL l, 0)
def apartR (l : List Bs) : List Bs × Int := if checkList l ≠ 0 then ([], checkList l) else if l = [] then ([], 0) else (firsts l, 0)
theorem flat_zero {l : List Bs} (h : checkList l = 0) : l.flatten.length = 0 ↔ l = [] := by
  constructor
  · intro h0
    cases l with
    | nil => rfl
    | cons s r =>
      have := List.length_pos_iff.2 ((ok_of h).ne s (by simp))
      rw [List.flatten_cons, List.length_append] at h0
      omega
  · rintro rfl; rfl
theorem sts_nil (h : Hp) : Sts h (.slice none 0 0) [] := ⟨none, 0, rfl, Nat.le_refl _, fun i hi => by cases hi⟩
def apartOk (l ws : List Bs) : Bool := decide ((∀ w ∈ ws, form l w ≠ []) ∧ (ws.map (form l)).Nodup)
def apartN (l ws : List Bs) : Int × Int :=
  if checkList l ≠ 0 then (0, checkList l) else if 301 < ws.length then (0, 6) else if wordsErr ws ≠ 0 then (0, wordsErr ws) else if apartOk l ws = true then (ws.length, 0) else (0, 25)
theorem apartOk_at {l ws : List Bs} {k : Nat} (hk : k < ws.length) (h : form l ws[k] = [] ∨ form l ws[k] ∈ (ws.take k).map (form l)) : apartOk l ws = false := by
  unfold apartOk
  rw [decide_eq_false_iff_not]
  rintro ⟨h1, h2⟩
  rcases h with h | h
  · exact h1 _ (List.getElem_mem hk) h
  · rw [List.mem_map] at h
    obtain ⟨w, hw, he⟩ := h
    rw [List.mem_take_iff_getElem] at hw
    obtain ⟨j, hj, rfl⟩ := hw
    have h3 := List.pairwise_iff_getElem.1 h2 j k (by simp; omega) (by simpa using hk) (by omega)
    simp only [List.getElem_map] at h3
    exact h3 he
theorem apartOk_step {l ws : List Bs} {k : Nat} (hk : k < ws.length) (h0 : apartOk l (ws.take k) = true) (h1 : ¬ form l ws[k] = []) (h2 : form l ws[k] ∉ (ws.take k).map (form l)) : apartOk l (ws.take (k + 1)) = true := by
  unfold apartOk at *
  rw [decide_eq_true_eq] at *
  rw [take_snoc hk]
  refine ⟨fun w hw => ?_, ?_⟩
  · rcases List.mem_append.1 hw with hw | hw
    · exact h0.1 w hw
    · rw [List.mem_singleton] at hw; subst hw; exact h1
  · rw [List.map_append]
    refine List.nodup_append.2 ⟨h0.2, by simp, fun a ha b hb e => ?_⟩
    simp only [List.map_cons, List.map_nil, List.mem_singleton] at hb
    subst hb; subst e; exact h2 ha

theorem Sl.of_put {h h' : Hp} {b : Nat} {e : TypeId} {fz : Nat × Nat} {cs : List Value} (hp : Put h h' b (.cells ⟨cs⟩ e fz)) {n c : Nat} (hnl : n = cs.length) (hc : n ≤ c) : Sl h' (.slice (some ⟨b, 0, none⟩) n c) cs := by
  subst hnl
  refine ⟨_, c, rfl, hc, fun i x hi => ⟨_, rfl, ?_⟩⟩
  rw [add_head, hcell_block hp.get]
  simpa using hi
/-- burin/index.Build -/
theorem ok28 : FnOk Tryz.prog 28 := fnok Tryz.func28 (by kernel_rfl) rfl
set_option maxRecDepth 10000 in
theorem w28 {h : Hp} {v : Value} {l : List Bs} (hn : Small l) (hl : Strs h v l) : CallsH Tryz.prog 28 #[v] h (fun r h' => ∃ rv, r = .tuple #[rv, I (buildL l).2] ∧ Sts h' rv (buildL l).1 ∧ Ext h h') := by
  refine enter ok28 Tryz.func28 rfl Tryz.ntmps28 (by simp) (fun w0 => ?_)
  repeat refine x_seq ?_
  refine goes rfl trivial ?_
  repeat refine x_seq ?_
  refine x_reg ?_
  refine go 1 rfl trivial ?_
  refine ops_call rfl rfl rfl (w34' (ws := []) hn ⟨by simp, by simp⟩ hl (Sl.nil _)) ?_
  rintro _ h2 ⟨pv, rfl, he2, hsh⟩
  rw [openErr_nil] at hsh ⊢
  refine go 1000 rfl trivial (ops_nil ?_)
  repeat refine x_seq ?_
  refine goes rfl trivial ?_
  repeat refine x_seq ?_
  refine x_ifd rfl (fun c1 => ?_) (fun c1 => ?_)
  · repeat refine x_seq ?_
    refine goes rfl trivial ?_
    repeat refine x_seq ?_
    exact x_ret (at_ret rfl rfl rfl rfl ⟨_, by unfold buildL; rw [if_pos (by omega)]; rfl, by unfold buildL; rw [if_pos (by omega)]; exact sts_nil _, he2⟩ (.inl rfl))
  · repeat refine x_seq ?_
    refine x_skip ?_
    repeat refine x_seq ?_
    have h0 : checkList l = 0 := by omega
    have hS2 : Small2 l := small2_ok h0
    obtain ⟨bs, rfl, hsv⟩ := hsh h0
    refine x_reg ?_
    refine go 1 rfl trivial ?_
    refine ops_call rfl rfl rfl (w51 hS2 (hl.ext he2) hsv) ?_
    rintro rv h3 ⟨hs3, he3⟩
    refine go 1000 rfl trivial (ops_nil ?_)
    repeat refine x_seq ?_
    exact x_ret (at_ret rfl rfl rfl rfl ⟨rv, by unfold buildL; rw [if_neg (by omega)]; rfl, by unfold buildL; rw [if_neg (by omega)]; exact hs3, he2.trans he3⟩ (.inl rfl))

/-- burin/index.Apart -/
theorem ok25 : FnOk Tryz.prog 25 := fnok Tryz.func25 (by kernel_rfl) rfl
set_option maxRecDepth 10000 in
theorem w25 {h : Hp} {v : Value} {l : List Bs} (hn : Small l) (hl : Strs h v l) : CallsH Tryz.prog 25 #[v] h (fun r h' => ∃ rv, r = .tuple #[rv, I (apartR l).2] ∧ Strs h' rv (apartR l).1 ∧ Ext h h') := by
  refine enter ok25 Tryz.func25 rfl Tryz.ntmps25 (by simp) (fun w0 => ?_)
  repeat refine x_seq ?_
  refine goes rfl trivial ?_
  repeat refine x_seq ?_
  refine x_reg ?_
  refine go 1 rfl trivial ?_
  refine ops_call rfl rfl rfl (w34' (ws := []) hn ⟨by simp, by simp⟩ hl (Sl.nil _)) ?_
  rintro _ h2 ⟨pv, rfl, he2, hsh⟩
  rw [openErr_nil] at hsh ⊢
  refine go 1000 rfl trivial (ops_nil ?_)
  repeat refine x_seq ?_
  refine goes rfl trivial ?_
  repeat refine x_seq ?_
  refine x_ifd rfl (fun c1 => ?_) (fun c1 => ?_)
  · repeat refine x_seq ?_
    refine goes rfl trivial ?_
    repeat refine x_seq ?_
    exact x_ret (at_ret rfl rfl rfl rfl ⟨_, by unfold apartR; rw [if_pos (by omega)]; rfl, by unfold apartR; rw [if_pos (by omega)]; exact Sl.nil _, he2⟩ (.inl rfl))
  · repeat refine x_seq ?_
    refine x_skip ?_
    repeat refine x_seq ?_
    have h0 : checkList l = 0 := by omega
    have hS2 : Small2 l := small2_ok h0
    obtain ⟨bs, rfl, hsv⟩ := hsh h0
    obtain ⟨vf, hsw, hvf⟩ := hsv
    have hswx := hsw
    obtain ⟨cs, hcs, hcl, hcn, hcsum⟩ := hsw
    have hfl := firsts_len hS2
    have hvf0 := hvf
    obtain ⟨af, cf, rfl, hcf, -⟩ := hvf.op
    refine x_reg ?_
    refine go 3 rfl trivial ?_
    refine ops_loads (vs := cs.map I) tabOk rfl rfl (by rw [List.length_map, hcl]) rfl rfl (fun j u hj => ?_) ?_
    · rw [add_head, add_at, hcell_block hcs]; rw [List.getElem?_map] at hj; have hj2 : j < cs.length := by rcases Nat.lt_or_ge j cs.length with h9 | h9; (exact h9); (rw [List.getElem?_eq_none h9] at hj; cases hj)
      have h9 := zsh_at (vl := v) (vf := .slice af (firsts l).length cf) hj2; rw [List.getElem?_eq_getElem hj2] at hj; simpa using h9.trans hj
    refine go 1 rfl trivial ?_
    refine ops_eq (b := decide (cs = List.replicate 26 0)) (v := List.replicate 26 (I 0)) rfl rfl (by kernel_rfl) (fun w => by rw [show (List.replicate 26 (I 0)) = (List.replicate 26 (0 : Int)).map I from by simp]; exact run_equal_ints (n := 26) (e := 3) (tab_look tabOk (t := 72) rfl).1.1 (tab_look tabOk (t := 3) rfl).1 ⟨_, (tab_look tabOk (t := 3) rfl).info.choose_spec.1⟩ (by kernel_rfl) cs _ hcl (by simp) w) rfl ?_
    refine ops_nil ?_
    repeat refine x_seq ?_
    refine x_ifd rfl (fun c2 => ?_) (fun c2 => ?_)
    · have hl9 : l = [] := (flat_zero h0).1 (by have h9 := (sum_zero hcn).2 (by rw [c2]; intro c hc; exact List.eq_of_mem_replicate hc); omega)
      repeat refine x_seq ?_
      refine goes rfl trivial ?_
      repeat refine x_seq ?_
      exact x_ret (at_ret rfl rfl rfl rfl ⟨_, by unfold apartR; rw [if_neg (by omega), if_pos hl9]; rfl, by unfold apartR; rw [if_neg (by omega), if_pos hl9]; exact Sl.nil _, he2⟩ (.inl rfl))
    · have hl9 : l ≠ [] := fun e => c2 (by subst e; have h9 := (sum_zero hcn).1 (by rw [hcsum]; rfl); exact List.eq_replicate_iff.2 ⟨hcl, h9⟩)
      repeat refine x_seq ?_
      refine x_skip ?_
      repeat refine x_seq ?_
      refine x_reg ?_
      refine go 3 rfl trivial ?_
      refine ops_load tabOk rfl rfl rfl rfl hswx.vf ?_
      refine go 1 rfl trivial ?_
      refine ops_make tabOk rfl rfl rfl rfl rfl rfl rfl ⟨by omega, by omega, by show (16 : Int) * ((firsts l).length : Int) ≤ 281474976710656; omega, by omega⟩ rfl ?_
      intro h3 hn3
      refine go 1000 rfl trivial (ops_nil ?_)
      repeat refine x_seq ?_
      refine x_reg ?_
      refine go 4 rfl trivial ?_
      refine ops_load tabOk rfl rfl rfl rfl (hn3.ext.cell hswx.vf) ?_
      refine ops_copy (g := h2.size) (o := 0) (cs' := (firsts l).map S) tabOk rfl rfl rfl rfl (hvf0.ext hn3.ext) hn3.get (by rw [List.length_map]; rfl) (by simp) (all_one_S _) (by unfold patch; simp) rfl ?_
      intro h4 hp4
      refine ops_nil ?_
      repeat refine x_seq ?_
      refine goes rfl trivial ?_
      repeat refine x_seq ?_
      exact x_ret (at_ret rfl rfl rfl rfl ⟨_, by unfold apartR; rw [if_neg (by omega), if_neg hl9]; rfl, by unfold apartR; rw [if_neg (by omega), if_neg hl9]; exact Sl.of_put hp4 (by simp) (by simp), he2.trans (Bel.trans hn3.ext (hp4.bel (Nat.le_refl _)))⟩ (.inl rfl))

/-- burin/index.CheckApart -/
theorem ok26 : FnOk Tryz.prog 26 := fnok Tryz.func26 (by kernel_rfl) rfl
set_option maxRecDepth 10000 in
theorem w26 {h : Hp} {v v' : Value} {l ws : List Bs} (hn : Small l) (hn' : Small ws) (hl : Strs h v l) (hl' : Strs h v' ws) : CallsH Tryz.prog 26 #[v, v'] h (fun r h' => r = .tuple #[I (apartN l ws).1, I (apartN l ws).2] ∧ Ext h h') := by
  have hl0 := hl'
  obtain ⟨aw, cw, rfl, hcw, hlw⟩ := hl'.op
  have hn1 := hn'.1
  refine enter ok26 Tryz.func26 rfl Tryz.ntmps26 (by simp) (fun w0 => ?_)
  repeat refine x_seq ?_
  refine goes rfl trivial ?_
  repeat refine x_seq ?_
  refine x_reg ?_
  refine go 1 rfl trivial ?_
  refine ops_call rfl rfl rfl (w34' (ws := []) hn ⟨by simp, by simp⟩ hl (Sl.nil _)) ?_
  rintro _ h2 ⟨pv, rfl, he2, hsh⟩
  rw [openErr_nil] at hsh ⊢
  refine go 1000 rfl trivial (ops_nil ?_)
  repeat refine x_seq ?_
  refine x_block ?_
  repeat refine x_seq ?_
  refine goes rfl trivial ?_
  repeat refine x_seq ?_
  refine x_ifd rfl (fun c1 => ?_) (fun c1 => ?_)
  · repeat refine x_seq ?_
    refine goes rfl trivial ?_
    repeat refine x_seq ?_
    exact x_ret (at_ret rfl rfl rfl rfl ⟨by unfold apartN; rw [if_pos (by omega)]; rfl, he2⟩ (.inl rfl))
  · repeat refine x_seq ?_
    refine goes rfl trivial ?_
    repeat refine x_seq ?_
    refine x_ifd rfl (fun c2 => ?_) (fun c2 => ?_)
    · repeat refine x_seq ?_
      refine goes rfl trivial ?_
      repeat refine x_seq ?_
      exact x_ret (at_ret rfl rfl rfl rfl ⟨by unfold apartN; rw [if_neg (by omega), if_pos (by omega)]; rfl, he2⟩ (.inl rfl))
    · repeat refine x_seq ?_
      refine x_skip ?_
      refine x_out ?_
      repeat refine x_seq ?_
      have h0 : checkList l = 0 := by omega
      have hS2 : Small2 l := small2_ok h0
      obtain ⟨bs, rfl, hsv⟩ := hsh h0
      obtain ⟨vf, hsw, hvf⟩ := hsv
      refine x_reg ?_
      refine go 1 rfl trivial ?_
      refine ops_call rfl rfl rfl (w49 hn' (hl0.ext he2)) ?_
      rintro _ h3 ⟨rfl, he3⟩
      have he13 := he2.trans he3
      refine go 1000 rfl trivial (ops_nil ?_)
      repeat refine x_seq ?_
      refine goes rfl trivial ?_
      repeat refine x_seq ?_
      refine x_ifd rfl (fun c3 => ?_) (fun c3 => ?_)
      · repeat refine x_seq ?_
        refine goes rfl trivial ?_
        repeat refine x_seq ?_
        exact x_ret (at_ret rfl rfl rfl rfl ⟨by unfold apartN; rw [if_neg (by omega), if_neg (by omega), if_pos (by omega)]; rfl, he13⟩ (.inl rfl))
      · repeat refine x_seq ?_
        refine x_skip ?_
        repeat refine x_seq ?_
        refine goes rfl trivial ?_
        repeat refine x_seq ?_
        refine goes rfl trivial ?_
        repeat refine x_seq ?_
        refine x_block ?_
        repeat refine x_seq ?_
        refine x_loop (fun x : Nat × Value => [(1, .slice aw ws.length cw), (6, .pointer (some ⟨bs, 0, none⟩)), (9, x.2), (31, .slice aw ws.length cw), (32, I ws.length), (33, I x.1)]) (fun x h' => (Ext h h' ∧ Ext h3 h' ∧ Strs h' x.2 ((ws.take x.1).map (form l))) ∧ (x.1 ≤ ws.length) ∧ apartOk l (ws.take x.1) = true) (fun x => ws.length - x.1) (0, .slice none 0 0) ⟨rfl, rfl, rfl, rfl, rfl, rfl, trivial⟩ ⟨⟨he13, Ext.refl _, Sl.nil _⟩, by omega, by rfl⟩ ?_
        rintro ⟨k, vo⟩ h5 ⟨⟨he5, he35, hs5⟩, hk, hP⟩ K1 hK1
        dsimp only at hs5 hk hP ⊢
        repeat refine x_seq ?_
        refine goes rfl trivial ?_
        repeat refine x_seq ?_
        refine x_ifd rfl (fun c4 => ?_) (fun c4 => ?_)
        · repeat refine x_seq ?_
          refine x_skip ?_
          repeat refine x_seq ?_
          refine x_block ?_
          repeat refine x_seq ?_
          have hlt : k < ws.length := by omega
          obtain ⟨q, rfl, hq⟩ := hlw k hlt
          have hq := he5.cell hq
          have hs0 := (hsw.sh0.ext he3).ext he35
          refine x_reg ?_
          refine go 1 rfl ⟨by first | omega | (simp only [inK]; omega), trivial⟩ ?_
          refine ops_load tabOk rfl rfl rfl rfl hq ?_
          refine go 1000 rfl trivial (ops_nil ?_)
          repeat refine x_seq ?_
          refine x_reg ?_
          refine go 3 rfl trivial ?_
          refine ops_loads tabOk rfl rfl rfl rfl rfl hs0.cells ?_
          refine go 1 rfl trivial ?_
          refine ops_call rfl rfl rfl (w50 ws[k] hS2 (hn'.at hlt) (hl.ext he5)) ?_
          rintro _ h6 ⟨rfl, he6⟩
          have he16 := he5.trans he6
          have hs6 := hs5.ext he6
          refine go 1000 rfl trivial (ops_nil ?_)
          repeat refine x_seq ?_
          refine x_reg ?_
          refine go 3 rfl trivial ?_
          refine ops_dec 45 rfl (fun c5 => ?_) (fun c5 => ?_)
          · refine go 1000 rfl trivial (ops_nil ?_)
            repeat refine x_seq ?_
            refine x_true rfl ?_
            repeat refine x_seq ?_
            refine goes rfl trivial ?_
            repeat refine x_seq ?_
            exact x_ret (at_ret_loop hK1 (at_ret rfl rfl rfl rfl ⟨by unfold apartN; rw [if_neg (by omega), if_neg (by omega), if_neg (by omega), if_neg (by rw [apartOk_at hlt (.inl c5)]; simp)]; rfl, he16⟩ (.inl rfl)))
          · refine go 2 rfl trivial ?_
            refine ops_guard_yes rfl rfl rfl ?_
            refine ops_call rfl rfl rfl (w44 (form l ws[k]) (by rw [List.length_map, List.length_take]; omega) hs6) ?_
            rintro _ h7 ⟨rfl, e7⟩
            obtain rfl := e7.symm
            refine go 1000 rfl trivial (ops_nil ?_)
            repeat refine x_seq ?_
            refine x_if rfl (fun c6 => ?_) (fun c6 => ?_)
            · repeat refine x_seq ?_
              refine goes rfl trivial ?_
              repeat refine x_seq ?_
              exact x_ret (at_ret_loop hK1 (at_ret rfl rfl rfl rfl ⟨by unfold apartN; rw [if_neg (by omega), if_neg (by omega), if_neg (by omega), if_neg (by rw [apartOk_at hlt (.inr (by simpa using c6))]; simp)]; rfl, he16⟩ (.inl rfl)))
            · repeat refine x_seq ?_
              refine x_skip ?_
              repeat refine x_seq ?_
              obtain ⟨ao, co, rfl, hco, -⟩ := hs6.op
              have htk : ((ws.take k).map (form l)).length ≤ ws.length := by rw [List.length_map, List.length_take]; omega
              have htk2 : (((ws.take k).map (form l)).map S).length ≤ ws.length := by rw [List.length_map]; exact htk
              refine x_reg ?_
              refine go 7 rfl ⟨by first | omega | (simp only [inK]; omega), trivial⟩ ?_
              refine ops_buildSlice (cs := [S (form l ws[k])]) tabOk rfl rfl rfl rfl rfl rfl rfl rfl rfl ?_
              intro h8 hn8
              refine ops_append_cut (m := 0) tabOk rfl rfl rfl rfl rfl rfl (cut_sl (hs6.ext hn8.ext)) (Sl.of_new hn8 rfl (Nat.le_refl _)) rfl ⟨by omega, show _ * 16 ≤ _ from by omega⟩ rfl ?_
              intro v9 h9 he9 hs9
              refine go 1000 rfl trivial (ops_nil ?_)
              refine x_out ?_
              repeat refine x_seq ?_
              refine goes rfl ⟨by first | omega | (simp only [inK]; omega), trivial⟩ ?_
              refine x_next (k + 1, v9) ⟨rfl, rfl, rfl, rfl, rfl, rfl, trivial⟩ ⟨⟨(he16.trans hn8.ext).trans he9, ((he35.trans he6).trans hn8.ext).trans he9, by show Strs _ v9 ((ws.take (k + 1)).map (form l)); rw [take_snoc hlt, List.map_append]; unfold Strs; rw [List.map_append]; exact hs9⟩, by show k + 1 ≤ _; omega, apartOk_step hlt hP c5 (by simpa using c6)⟩ (by show ws.length - (k + 1) < ws.length - k; omega)
        · repeat refine x_seq ?_
          refine x_exit_loop hK1 rfl rfl ?_
          repeat refine x_seq ?_
          refine goes rfl trivial ?_
          repeat refine x_seq ?_
          exact x_ret (at_ret rfl rfl rfl rfl ⟨by unfold apartN; rw [if_neg (by omega), if_neg (by omega), if_neg (by omega), if_pos (by rw [List.take_of_length_le (by omega)] at hP; exact hP)]; rfl, he5⟩ (.inl rfl))

end Go.Proofs.YtmfgiabmmdbmoaaGreatDoor

namespace Go.Proofs.YtmfgiabmmdbmoaaGreatDoor
open Go.Gw Go.Ix Go.Sort

theorem rising_ge {l : Bs} (h1 : letters l = true) (h2 : rising l = true) : ∀ i (hi : i < l.length), 97 + i ≤ l[i].toNat
  | 0, hi => (letter_at h1 hi).1
  | i + 1, hi => by
    have := rising_ge h1 h2 i (by omega)
    have := (rising_iff l).1 h2 i hi
    omega
theorem rising_len {l : Bs} (h1 : letters l = true) (h2 : rising l = true) : l.length ≤ 26 := by
  rcases Nat.eq_zero_or_pos l.length with h | h
  · omega
  · have h3 := rising_ge h1 h2 (l.length - 1) (by omega)
    have h4 := (letter_at h1 (show l.length - 1 < l.length by omega)).2
    omega
theorem no_ends {s : List St} (g : GoodS s) : (s.any fun x => !decide (0 ≤ x.ends ∧ x.ends ≤ 1)) = false := by
  rw [List.any_eq_false]; intro x hx; rcases g.ends x hx with h | h <;> simp [h]
theorem no_uneven {s : List St} (g : GoodS s) : (s.any fun x => decide ((x.letters.length : Int) ≠ x.next.length)) = false := by
  rw [List.any_eq_false]; intro x hx; simp [g.len x hx]
theorem no_strange {s : List St} (g : GoodS s) : (s.any fun x => !letters x.letters || !rising x.letters) = false := by
  rw [List.any_eq_false]; intro x hx; simp [g.lets x hx, g.ris x hx]
theorem no_out {l : List Int} {a b : Int} (h : ∀ n ∈ l, a ≤ n ∧ n ≤ b) : decide (∀ n ∈ l, a ≤ n ∧ n ≤ b) = true := decide_eq_true h
theorem good_next {s : List St} (g : GoodS s) {x : St} (hx : x ∈ s) : x.next.length ≤ 26 := by
  rw [← g.len x hx]; exact rising_len (g.lets x hx) (g.ris x hx)

/-- burin/index.CheckStates -/
theorem ok52 : FnOk Tryz.prog 52 := fnok Tryz.func52 (by kernel_rfl) rfl
set_option maxRecDepth 10000 in
theorem w52 {h : Hp} {v : Value} {s : List St} (g : GoodS s) (hl : Sts h v s) : CallsH Tryz.prog 52 #[v] h (fun r h' => r = I 0 ∧ Ext h h') := by
  have hl0 := hl
  obtain ⟨a, cap, rfl, hcap, hl⟩ := hl
  have g1 := g.lo
  have g2 := g.hi
  refine enter ok52 Tryz.func52 rfl Tryz.ntmps52 (by simp) (fun w0 => ?_)
  repeat refine x_seq ?_
  refine goes rfl trivial ?_
  repeat refine x_seq ?_
  refine goes rfl trivial ?_
  repeat refine x_seq ?_
  refine goes rfl trivial ?_
  repeat refine x_seq ?_
  refine goes rfl trivial ?_
  repeat refine x_seq ?_
  refine x_block ?_
  repeat refine x_seq ?_
  refine x_reg ?_
  refine go 2 rfl trivial ?_
  refine ops_buildSlice (cs := [I s.length]) tabOk rfl rfl rfl rfl rfl rfl rfl rfl rfl ?_
  intro h1 hn1
  refine ops_call rfl rfl rfl (w37 (l := [(s.length : Int)]) 1 301 (by simp) (Sl.of_new hn1 rfl (Nat.le_refl _))) ?_
  rintro _ h2 ⟨rfl, he2⟩
  have he12 := hn1.ext.trans he2
  refine go 1000 rfl trivial (ops_nil ?_)
  repeat refine x_seq ?_
  refine x_if rfl (fun c1 => ?_) (fun c1 => ?_)
  · repeat refine x_seq ?_
    refine goes rfl trivial ?_
    repeat refine x_seq ?_
    exact absurd c1 (by simp; omega)
  · repeat refine x_seq ?_
    refine x_reg ?_
    refine go 2 rfl trivial ?_
    refine ops_call rfl rfl rfl (w78 (by omega) (hl0.ext he12) 74 #[] (fun x => !decide (0 ≤ x.ends ∧ x.ends ≤ 1)) (fun x hx h' nv he hi => w74 hi)) ?_
    rintro _ h3 ⟨rfl, he3⟩
    have he13 := he12.trans he3
    refine go 1000 rfl trivial (ops_nil ?_)
    repeat refine x_seq ?_
    refine x_if rfl (fun c2 => ?_) (fun c2 => ?_)
    · repeat refine x_seq ?_
      refine goes rfl trivial ?_
      repeat refine x_seq ?_
      rw [no_ends g] at c2; cases c2
    · repeat refine x_seq ?_
      refine x_reg ?_
      refine go 2 rfl trivial ?_
      refine ops_call rfl rfl rfl (w78 (by omega) (hl0.ext he13) 75 #[] (fun x => decide ((x.letters.length : Int) ≠ x.next.length)) (fun x hx h' nv he hi => w75 hi)) ?_
      rintro _ h4 ⟨rfl, he4⟩
      have he14 := he13.trans he4
      refine go 1000 rfl trivial (ops_nil ?_)
      repeat refine x_seq ?_
      refine x_if rfl (fun c3 => ?_) (fun c3 => ?_)
      · repeat refine x_seq ?_
        refine goes rfl trivial ?_
        repeat refine x_seq ?_
        rw [no_uneven g] at c3; cases c3
      · repeat refine x_seq ?_
        refine x_reg ?_
        refine go 2 rfl trivial ?_
        refine ops_call rfl rfl rfl (w78 (by omega) (hl0.ext he14) 76 #[] (fun x => !letters x.letters || !rising x.letters) (fun x hx h' nv he hi => w76 (by have := rising_len (g.lets x hx) (g.ris x hx); omega))) ?_
        rintro _ h5 ⟨rfl, he5⟩
        have he15 := he14.trans he5
        refine go 1000 rfl trivial (ops_nil ?_)
        repeat refine x_seq ?_
        refine x_if rfl (fun c4 => ?_) (fun c4 => ?_)
        · repeat refine x_seq ?_
          refine goes rfl trivial ?_
          repeat refine x_seq ?_
          rw [no_strange g] at c4; cases c4
        · repeat refine x_seq ?_
          refine x_skip ?_
          refine x_out ?_
          repeat refine x_seq ?_
          refine goes rfl trivial ?_
          repeat refine x_seq ?_
          refine x_block ?_
          repeat refine x_seq ?_
          refine x_loop (fun k : Nat => [(0, .slice a s.length cap), (26, .slice a s.length cap), (27, I s.length), (28, I k)]) (fun k h' => (Ext h h') ∧ (k ≤ s.length)) (fun k => s.length - k) 0 ⟨rfl, rfl, rfl, rfl, trivial⟩ ⟨he15, by omega⟩ ?_
          rintro k h6 ⟨he6, hk⟩ K1 hK1
          repeat refine x_seq ?_
          refine goes rfl trivial ?_
          repeat refine x_seq ?_
          refine x_ifd rfl (fun c5 => ?_) (fun c5 => ?_)
          · repeat refine x_seq ?_
            refine x_skip ?_
            repeat refine x_seq ?_
            refine x_block ?_
            repeat refine x_seq ?_
            have hlt : k < s.length := by omega
            obtain ⟨q, rfl, nv, hc, hi⟩ := hl k hlt
            refine x_reg ?_
            refine go 2 rfl ⟨by first | omega | (simp only [inK]; omega), trivial⟩ ?_
            refine ops_loads tabOk rfl rfl rfl rfl rfl (fun j u hj => he6.cell (hc j u hj)) ?_
            refine ops_alloc tabOk rfl rfl rfl ?_
            intro h7 hn7
            refine go 1 rfl trivial ?_
            refine ops_store (vs := [I s[k].ends, S s[k].letters, nv]) (cs' := [I s[k].ends, S s[k].letters, nv]) tabOk rfl rfl rfl rfl rfl (by simp only [List.all_cons, (show nv.oneCell' = true by obtain ⟨_, _, rfl, _⟩ := hi; rfl)]; rfl) hn7.get (by simp) rfl ?_
            intro h8 hp8
            have e68 : Ext h6 h8 := Bel.trans hn7.ext (hp8.bel (Nat.le_refl _))
            refine ops_nil ?_
            repeat refine x_seq ?_
            refine x_reg ?_
            refine go 6 rfl ⟨by first | omega | (simp only [inK]; omega), by first | omega | (simp only [inK]; omega), trivial⟩ ?_
            refine ops_load tabOk rfl rfl rfl rfl (show hcell h8 ((⟨h6.size, 0, none⟩ : Addr).add 2) = some nv by rw [add_head, hcell_block hp8.get]; rfl) ?_
            refine ops_call rfl rfl rfl (w37 (l := s[k].next) ((k : Int) + 1) ((s.length : Int) - 1) (by have := good_next g (List.getElem_mem hlt); omega) ((hi.ext he6).ext e68)) ?_
            rintro _ h9 ⟨rfl, he9⟩
            refine go 1000 rfl trivial (ops_nil ?_)
            repeat refine x_seq ?_
            refine x_if rfl (fun c6 => ?_) (fun c6 => ?_)
            · repeat refine x_seq ?_
              refine goes rfl trivial ?_
              repeat refine x_seq ?_
              rw [no_out (fun n hn => by have := g.next k hlt n hn; omega)] at c6; cases c6
            · repeat refine x_seq ?_
              refine x_skip ?_
              refine x_out ?_
              repeat refine x_seq ?_
              refine goes rfl ⟨by first | omega | (simp only [inK]; omega), trivial⟩ ?_
              refine x_next (k + 1) ⟨rfl, rfl, rfl, rfl, trivial⟩ ⟨((he6.trans e68).trans he9), by omega⟩ (by omega)
          · repeat refine x_seq ?_
            refine x_exit_loop hK1 rfl rfl ?_
            repeat refine x_seq ?_
            refine goes rfl trivial ?_
            repeat refine x_seq ?_
            exact x_ret (at_ret rfl rfl rfl rfl ⟨rfl, he6⟩ (.inl rfl))

end Go.Proofs.YtmfgiabmmdbmoaaGreatDoor
