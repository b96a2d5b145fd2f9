/-
  A part of the proofs of the laws of the index: what the functions of this program compute. Conditions: none beyond those that its theorems name.
-/
import Derived.Test.YtmfgiabmmdbmoaaGreatDoorGwId2
import Derived.Test.YtmfgiabmmdbmoaaGreatDoorGwKey11
namespace Go.Proofs.YtmfgiabmmdbmoaaGreatDoor
open Go.Gw Go.Ix

/-- burin/index.newShelf$2 -/
theorem ok86 : FnOk Tryz.prog 86 := fnok Tryz.func86 (by kernel_rfl) rfl
set_option maxRecDepth 10000 in
theorem w86 {h : Hp} {b1 bs : Nat} {vl : Value} {l : List Bs} (a b : Bs) (hn : Small2 l) (ha : a.length ≤ 1000) (hb : b.length ≤ 1000) (hl : Strs h vl l) (hs : Sh0 bs vl h) (h1 : h[b1]? = some (.cells ⟨[.pointer (some ⟨bs, 0, none⟩)]⟩ 57 (0, 0))) : CallsH Tryz.prog 86 #[S a, S b, .pointer (some ⟨b1, 0, none⟩)] h (fun v h' => v = I (orI [(longest l b : Int) - longest l a, Lib.compareBytes a b]) ∧ Ext h h') := by
  have hlb := longest_le hn b
  have hla := longest_le hn a
  refine enter ok86 Tryz.func86 rfl Tryz.ntmps86 (by simp) (fun w0 => ?_)
  repeat refine x_seq ?_
  refine goes rfl trivial ?_
  repeat refine x_seq ?_
  refine x_draw [(0, true), (1, true), (3, true), (4, true), (7, true), (8, true), (2, false), (5, false), (6, true), (9, false), (10, false), (11, false), (12, true)] [] (Ext _) mixed (by kernel_rfl) rfl rfl (Ext.refl _) ?_
  refine seq_load tabOk rfl rfl rfl rfl (fun _ e => e.cell (show hcell h ⟨b1, 0, none⟩ = some (.pointer (some ⟨bs, 0, none⟩)) by rw [hcell_block h1]; rfl)) ?_
  refine sgo 1 rfl trivial ?_
  refine seq_load tabOk rfl rfl rfl rfl (fun _ e => e.cell (show hcell h ⟨b1, 0, none⟩ = some (.pointer (some ⟨bs, 0, none⟩)) by rw [hcell_block h1]; rfl)) ?_
  refine sgo 3 rfl trivial ?_
  refine seq_act (ops_call rfl rfl rfl (w87 b hn (by omega) hl hs) ?_)
  rintro _ h2 ⟨rfl, he2⟩
  refine ops_nil ⟨he2, ?_⟩
  refine seq_act (ops_call rfl rfl rfl (w87 a hn (by omega) (hl.ext he2) (hs.ext he2)) ?_)
  rintro _ h3 ⟨rfl, he3⟩
  refine ops_nil ⟨he2.trans he3, ?_⟩
  refine sgo 1 rfl ⟨by first | omega | (simp only [inK]; omega), trivial⟩ ?_
  refine seq_act (ops_call rfl rfl rfl (w61 a b) ?_)
  rintro _ _ ⟨rfl, rfl⟩
  refine ops_nil ⟨he2.trans he3, ?_⟩
  refine seq_act (ops_buildSlice tabOk rfl rfl rfl rfl rfl rfl rfl rfl rfl ?_)
  intro h4 hn4
  refine ops_nil ⟨(he2.trans he3).trans hn4.ext, ?_⟩
  refine seq_act (ops_call rfl rfl rfl (w60 (l := [(longest l b : Int) - longest l a, Lib.compareBytes a b]) (by simp) (Sl.of_new hn4 rfl (Nat.le_refl _))) ?_)
  rintro _ _ ⟨rfl, rfl⟩
  refine ops_nil ⟨(he2.trans he3).trans hn4.ext, ?_⟩
  refine sgo 1000 rfl trivial (seq_tail ?_)
  refine ops_nil ?_
  repeat refine x_seq ?_
  exact x_ret (at_ret rfl rfl rfl rfl ⟨rfl, (he2.trans he3).trans hn4.ext⟩ (.inl rfl))

/-- burin/index.newShelf$1 -/
theorem ok84 : FnOk Tryz.prog 84 := fnok Tryz.func84 (by kernel_rfl) rfl
set_option maxRecDepth 10000 in
theorem w84 {h : Hp} {b1 b2 bm bs : Nat} {vl : Value} {l : List Bs} {M : List (Key × Bs)} (w : Bs) (hn : Small2 l) (hw : w.length ≤ 1000) (hl : Strs h vl l) (hs : Sh0 bs vl h) (h1 : h[b1]? = some (.cells ⟨[.pointer (some ⟨bs, 0, none⟩)]⟩ 57 (0, 0))) (h2 : h[b2]? = some (.cells ⟨[.map (some bm)]⟩ 106 (0, 0))) (hM : MapAt encK h bm (M.map fS)) (hnd : (M.map (·.1)).Nodup) (hne : b2 ≠ bm) : CallsH Tryz.prog 84 #[S w, .pointer (some ⟨b1, 0, none⟩), .pointer (some ⟨b2, 0, none⟩)] h (fun _ h' => Gr h h' (some bm) ∧ MapAt encK h' bm ((keepW l M w).map fS)) := by
  have hbm := hM.lt
  have hb2 := lt_of_get h2
  refine enter ok84 Tryz.func84 rfl Tryz.ntmps84 (by simp) (fun w0 => ?_)
  repeat refine x_seq ?_
  refine x_reg ?_
  refine ops_load tabOk rfl rfl rfl rfl (show hcell h ⟨b1, 0, none⟩ = some (.pointer (some ⟨bs, 0, none⟩)) by rw [hcell_block h1]; rfl) ?_
  refine go 1 rfl trivial ?_
  refine ops_call rfl rfl rfl (w85 w hn (by omega) hl hs) ?_
  rintro _ hx2 ⟨rfl, he2⟩
  refine ops_alloc tabOk rfl rfl rfl ?_
  intro h3 hn3
  refine ops_store (vs := [.bool (decide (w ∈ l)), S (form l w)]) (cs' := [.bool (decide (w ∈ l)), S (form l w)]) tabOk rfl rfl rfl rfl rfl rfl hn3.get (by simp) rfl ?_
  intro h4 hp4
  have s2 := he2.size
  have he4 : Ext h h4 := Bel.trans (he2.trans hn3.ext) (hp4.bel he2.size)
  have hc2 : hcell h4 ⟨b2, 0, none⟩ = some (.map (some bm)) := by rw [hcell_block (he4.get h2)]; rfl
  have hc4 : Cells h4 ⟨Array.size hx2, 0, none⟩ [.bool (decide (w ∈ l)), S (form l w)] := fun j u hj => by rw [add_head, hcell_block hp4.get]; simpa using hj
  have hM4 : MapAt encK h4 bm (M.map fS) := hM.of (he4.old _ hbm)
  refine ops_nil ?_
  repeat refine x_seq ?_
  refine x_reg ?_
  refine ops_load tabOk rfl rfl rfl rfl hc2 ?_
  refine ops_loads tabOk rfl rfl rfl rfl rfl hc4 ?_
  refine ops_lookup (a := formP l w) tabOk rfl rfl rfl keyOk108 rfl rfl hM4 rfl ?_
  rw [getM_map, show ((getW (formP l w) M).map S).getD (S []) = S ((getW (formP l w) M).getD []) by cases getW (formP l w) M <;> rfl, Option.isSome_map]
  refine go 1000 rfl trivial (ops_nil ?_)
  repeat refine x_seq ?_
  refine x_reg ?_
  refine go 3 rfl trivial ?_
  refine ops_bool 18 rfl (fun c1 => ?_) (fun c1 => ?_)
  · refine go 1000 rfl trivial (ops_nil ?_)
    repeat refine x_seq ?_
    refine x_true rfl ?_
    repeat refine x_seq ?_
    refine x_reg ?_
    refine ops_load tabOk rfl rfl rfl rfl hc2 ?_
    refine ops_loads tabOk rfl rfl rfl rfl rfl hc4 ?_
    refine ops_delete (a := formP l w) tabOk rfl rfl keyOk108 rfl rfl hM4 rfl ?_
    rintro h5 ⟨_, hp5⟩ hM5
    rw [delM_map] at hM5
    refine ops_nil ?_
    repeat refine x_seq ?_
    refine x_reg ?_
    refine ops_load tabOk rfl rfl rfl rfl (show hcell h5 ⟨b2, 0, none⟩ = some (.map (some bm)) by rw [hcell_block (hp5.keep (he4.get h2) hne)]; rfl) ?_
    refine ops_loads tabOk rfl rfl rfl rfl rfl (fun j u hj => by rw [add_head, hcell_block (hp5.keep hp4.get (by omega))]; simpa using hj) ?_
    refine go 1 rfl trivial ?_
    refine ops_insert (a := formP l w) (v := S w) tabOk rfl rfl keyOk108 rfl rfl rfl hM5 (by rw [getM_map, getW_del hnd]; rfl) ?_
    rintro h6 ⟨_, hp6⟩ hM6
    refine ops_nil ?_
    exact x_end (at_ret rfl rfl rfl rfl ⟨⟨by rw [hp6.size, hp5.size]; exact he4.size, fun k hk hne => by have hkb : k ≠ bm := fun e => hne (by rw [e]); rw [hp6.other k hkb, hp5.other k hkb]; exact he4.old k hk⟩, by unfold keepW; rw [if_pos (by rw [Bool.or_eq_true]; exact .inl c1)]; simpa using hM6⟩ (.inr rfl))
  · refine go 1000 rfl trivial (ops_nil ?_)
    repeat refine x_seq ?_
    refine x_if rfl (fun c2 => ?_) (fun c2 => ?_)
    · repeat refine x_seq ?_
      refine x_reg ?_
      refine ops_load tabOk rfl rfl rfl rfl hc2 ?_
      refine ops_loads tabOk rfl rfl rfl rfl rfl hc4 ?_
      refine ops_delete (a := formP l w) tabOk rfl rfl keyOk108 rfl rfl hM4 rfl ?_
      rintro h5 ⟨_, hp5⟩ hM5
      rw [delM_map] at hM5
      refine ops_nil ?_
      repeat refine x_seq ?_
      refine x_reg ?_
      refine ops_load tabOk rfl rfl rfl rfl (show hcell h5 ⟨b2, 0, none⟩ = some (.map (some bm)) by rw [hcell_block (hp5.keep (he4.get h2) hne)]; rfl) ?_
      refine ops_loads tabOk rfl rfl rfl rfl rfl (fun j u hj => by rw [add_head, hcell_block (hp5.keep hp4.get (by omega))]; simpa using hj) ?_
      refine go 1 rfl trivial ?_
      refine ops_insert (a := formP l w) (v := S w) tabOk rfl rfl keyOk108 rfl rfl rfl hM5 (by rw [getM_map, getW_del hnd]; rfl) ?_
      rintro h6 ⟨_, hp6⟩ hM6
      refine ops_nil ?_
      exact x_end (at_ret rfl rfl rfl rfl ⟨⟨by rw [hp6.size, hp5.size]; exact he4.size, fun k hk hne => by have hkb : k ≠ bm := fun e => hne (by rw [e]); rw [hp6.other k hkb, hp5.other k hkb]; exact he4.old k hk⟩, by unfold keepW; rw [if_pos (by rw [Bool.or_eq_true]; exact .inr c2)]; simpa using hM6⟩ (.inr rfl))
    · repeat refine x_seq ?_
      refine x_skip ?_
      exact x_end (at_ret rfl rfl rfl rfl ⟨he4.gr _, by unfold keepW; rw [if_neg (by simp only [Bool.or_eq_true, not_or]; exact ⟨by rw [c1]; simp, by show ¬ Op.bytesLess _ _ = true; rw [c2]; simp⟩)]; exact hM4⟩ (.inr rfl))

end Go.Proofs.YtmfgiabmmdbmoaaGreatDoor
