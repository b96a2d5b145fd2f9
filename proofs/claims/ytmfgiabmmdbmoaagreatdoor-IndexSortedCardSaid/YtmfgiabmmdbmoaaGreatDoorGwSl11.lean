/-
  A part of the proofs of the laws of the index: what the functions of this program compute. Conditions: none beyond those that its theorems name.
-/
import Derived.Test.YtmfgiabmmdbmoaaGreatDoorGwSeat
import Derived.Test.YtmfgiabmmdbmoaaGreatDoorGwSh
import Derived.Test.YtmfgiabmmdbmoaaGreatDoorGwIx
import Derived.Test.YtmfgiabmmdbmoaaGreatDoorShelf
/-
  THE LIBRARY'S CONTRACTS, off the shelf, in our words: Compare, Trim, Sort, Compact, SortFunc.
-/
namespace Go.Proofs.YtmfgiabmmdbmoaaGreatDoor
open Go.Gw Go.Ix Go.Sort Go.Proofs

theorem ok61 : FnOk Tryz.prog 61 := fnok Tryz.func61 (by kernel_rfl) rfl
theorem w61 {h : Hp} (a b : Bs) : CallsH Tryz.prog 61 #[S a, S b] h (fun v h' => v = I (Lib.compareBytes a b) ∧ h' = h) :=
  callsH_same ok61 (fun w => Tryz.strings_Compare ⟨⟨a⟩⟩ ⟨⟨b⟩⟩ w)

theorem ok103 : FnOk Tryz.prog 103 := fnok Tryz.func103 (by kernel_rfl) rfl
theorem w103 {h : Hp} (s c : Bs) (hs : s.length ≤ 1000000) (h2 : 2 ≤ c.length) (hc : c.length ≤ 1000) (hasc : ∀ (j : Nat) b, c[j]? = some b → b.toNat < 128) :
    CallsH Tryz.prog 103 #[S s, S c] h (fun v h' => v = S (Lib.trimS s c) ∧ Ext h h') := by
  refine ⟨ok103, fun w hw => ?_⟩
  subst hw
  have h116 : (Tryz.prog.info? 142).map (fun i => (i.zero, i.size)) = some (some (.agg (Array.replicate 256 (.bool false))), 256) := by kernel_rfl
  rcases Nat.eq_zero_or_pos s.length with h0 | h0
  · have hs0 : s = [] := List.eq_nil_of_length_eq_zero h0
    subst hs0
    refine (Any.strings_Trim_empty Tryz.lays160 ⟨⟨[]⟩⟩ ⟨⟨c⟩⟩ w (.inl rfl)).mono ?_
    rintro _ _ ⟨rfl, rfl⟩
    exact ⟨_, rfl, Is.refl _, rfl, Ext.refl _⟩
  · refine (Any.strings_Trim_set Tryz.lays160 (zero_of_info h116).1 (zero_of_info h116).2 ⟨⟨s⟩⟩ ⟨⟨c⟩⟩ w h2 h0 (show s.length ≤ _ by omega) (show c.length < _ by omega) hasc).mono ?_
    rintro _ w' ⟨rfl, q, rfl⟩
    refine ⟨_, rfl, ⟨rfl, rfl, rfl, rfl, by show w.drawn ≤ w.drawn + q; omega⟩, rfl, ?_⟩
    exact (New.of w.heap _).ext.trans (New.of _ _).ext

theorem ok41 : FnOk Tryz.prog 41 := fnok Tryz.func41 (by kernel_rfl) rfl
theorem w41 {h : Hp} {B n : Nat} {v : Value} {l : List Bs} (own : Own B h 9 1 v n (l.map S)) (hn : n ≤ 4000000) :
    CallsH Tryz.prog 41 #[v] h (fun r h' => r = .tuple #[] ∧ Own B h' 9 1 v n ((l.mergeSort fun x y => decide (x ≤ y)).map S) ∧ Gr h h' v.ownBlock) := by
  refine ⟨ok41, fun w hw => ?_⟩
  subst hw
  have hlen : l.length = n := by have := own.1; simpa using this
  rcases own.2 with ⟨rfl, rfl⟩ | ⟨g, cap, cur, rfl, hB, hg, hnc, hcm, hcs, _⟩
  · refine (Tryz.slices_Sort_string_none none 0 w).mono ?_
    rintro _ _ ⟨rfl, rfl⟩
    have hl0 : l = [] := List.eq_nil_of_length_eq_zero hlen
    subst hl0
    exact ⟨_, rfl, Is.refl _, rfl, by rw [List.mergeSort_nil]; exact own, ⟨Nat.le_refl _, fun _ _ _ => rfl⟩⟩
  · have hc := Tryz.slices_Sort_string g 0 cap l w (holds_own S own) (lt_of_get hg) (by omega)
    rw [hlen] at hc
    refine hc.mono ?_
    rintro _ _ ⟨rfl, q, os, rfl⟩
    have h1 := own_putRow S own (l.mergeSort fun x y => decide (x ≤ y)) (by rw [List.length_mergeSort, hlen]) q os
    exact ⟨_, rfl, is_grow S w q g _ os, rfl, h1.1, h1.2⟩

theorem ok42 : FnOk Tryz.prog 42 := fnok Tryz.func42 (by kernel_rfl) rfl
theorem w42 {h : Hp} {B n : Nat} {v : Value} {l : List Bs} (own : Own B h 9 1 v n (l.map S)) (hn : n ≤ 4000000) :
    CallsH Tryz.prog 42 #[v] h (fun r h' => Strs h' r (Lib.compact l) ∧ Gr h h' v.ownBlock) := by
  refine ⟨ok42, fun w hw => ?_⟩
  subst hw
  have hlen : l.length = n := by have := own.1; simpa using this
  rcases own.2 with ⟨rfl, rfl⟩ | ⟨g, cap, cur, rfl, hB, hg, hnc, hcm, hcs, _⟩
  · refine (Tryz.slices_Compact_string_empty none 0 w).mono ?_
    rintro _ _ ⟨rfl, rfl⟩
    have hl0 : l = [] := List.eq_nil_of_length_eq_zero hlen
    subst hl0
    exact ⟨_, rfl, Is.refl _, Sl.nil _, ⟨Nat.le_refl _, fun _ _ _ => rfl⟩⟩
  · have hcl : (Lib.compact l).length ≤ l.length := by
      unfold Lib.compact Lib.compactUpTo
      rw [List.length_map]
      have := List.length_filter_le (Lib.keeps l.toArray) (List.range l.length)
      simpa using this
    have hc := Tryz.slices_Compact_string g 0 cap l w (holds_own S own) (by omega) (by omega)
    rw [hlen] at hc
    refine hc.mono ?_
    rintro _ _ ⟨rfl, q, rfl⟩
    have h1 := own_putRow S own (Lib.compact l ++ List.replicate (n - (Lib.compact l).length) []) (by simp; omega) q #[]
    rw [grow_empty] at h1
    refine ⟨_, rfl, ?_, ?_, h1.2⟩
    · have := is_grow S w q g (Lib.compact l ++ List.replicate (n - (Lib.compact l).length) []).toArray #[]
      rw [grow_empty] at this; exact this
    · refine ⟨some ⟨g, 0, none⟩, cap, by simp, by simp; omega, fun i x hi => ⟨_, rfl, ?_⟩⟩
      refine Own.cells h1.1 rfl i x ?_
      rw [List.map_append, List.getElem?_append_left (List.getElem?_eq_some_iff.1 hi).1]
      exact hi

theorem ok58 : FnOk Tryz.prog 58 := fnok Tryz.func58 (by kernel_rfl) rfl
/-- slices.SortFunc, by a comparison that may lay blocks. -/
theorem w58 {h : Hp} {B n fid : Nat} {v : Value} {cb : Array Value} {l : List Bs} (cf : Bs → Bs → Int) (own : Own B h 9 1 v n (l.map S)) (hn : n ≤ 2000000) (hB : B ≤ h.size) (hl : ∀ s ∈ l, s.length ≤ 1000) (hf : FnOk Tryz.prog fid)
    (hO : SWO (ltOf cf)) (hT : ∀ x y, ltOf cf x y = false → ltOf cf y x = false → x = y)
    (hcl : ∀ x y : Bs, x.length ≤ 1000 → y.length ≤ 1000 → ∀ h', Bel B h h' → CallsH Tryz.prog fid (#[S x, S y] ++ cb) h' (fun v h'' => v = I (cf x y) ∧ Ext h' h'')) :
    CallsH Tryz.prog 58 #[v, .func (.func fid) #[] cb] h (fun r h' => r = .tuple #[] ∧ Own B h' 9 1 v n ((l.mergeSort fun x y => !ltOf cf y x).map S) ∧ Gr h h' v.ownBlock) := by
  refine ⟨ok58, fun w hw => ?_⟩
  subst hw
  have hlen : l.length = n := by have := own.1; simpa using this
  have none_case : ∀ p cap, n = 0 → v = .slice p 0 cap → Calls Tryz.prog 58 #[v, .func (.func fid) #[] cb] w fun e w' => ∃ v', e = .returned v' ∧ Is w w'.heap w' ∧ v' = .tuple #[] ∧ Own B w'.heap 9 1 v n ((l.mergeSort fun x y => !ltOf cf y x).map S) ∧ Gr w.heap w'.heap v.ownBlock := by
    intro p cap hn0 hv
    subst hv
    have hs := AnyF.slices_SortFunc_none (P := Tryz.prog) (ρ := Tryz.sortF_ren) { Tryz.sortF with } p cap (.func (.func fid) #[] cb) w
    refine (show Calls Tryz.prog 58 _ _ _ from hs).mono ?_
    rintro _ _ ⟨rfl, rfl⟩
    have hl0 : l = [] := List.eq_nil_of_length_eq_zero (by rw [hlen, hn0])
    subst hl0
    exact ⟨_, rfl, Is.refl _, rfl, by rw [List.mergeSort_nil]; exact own, ⟨Nat.le_refl _, fun _ _ _ => rfl⟩⟩
  rcases Nat.eq_zero_or_pos n with hn0 | hn0
  · rcases own.2 with ⟨rfl, _⟩ | ⟨g, cap, cur, rfl, _⟩
    · exact none_case none 0 hn0 rfl
    · subst hn0; exact none_case _ cap rfl rfl
  · rcases own.2 with ⟨rfl, rfl⟩ | ⟨g, cap, cur, rfl, hBg, hg, hnc, hcm, hcs, _⟩
    · omega
    · let α := {s : Bs // s.length ≤ 1000}
      haveI : Inhabited α := ⟨⟨[], by simp⟩⟩
      let la : List α := l.pmap (fun s hs => ⟨s, hs⟩) hl
      have hla : la.map Subtype.val = l := by simp [la, List.map_pmap]
      let enc : α → Value := fun a => S a.1
      have henc : la.map enc = l.map S := by rw [← hla, List.map_map]; rfl
      have hlal : la.length = n := by rw [← hlen, ← hla, List.length_map]
      let cfa : α → α → Int := fun a b => cf a.1 b.1
      have own' : Own B w.heap 9 1 (.slice (some ⟨g, 0, none⟩) n cap) n (la.map enc) := by rw [henc]; exact own
      have hOa : SWO (ltOf cfa) := ⟨fun x => hO.irrefl x.1, fun x y z => hO.trans x.1 y.1 z.1, fun x y z => hO.ntrans x.1 y.1 z.1⟩
      have hcmp : CmpLays1 Tryz.prog fid cb enc cfa g 0 la.toArray.size w := by
        intro m os dk hdk x y
        have hsz : dk.toList.length = n := by rw [← hlal]; simpa using hdk
        have h1 := own_putRow enc own' dk.toList hsz m os
        have h2 : Bel B w.heap (sortWorld enc w g 0 m dk os).heap := Own.bel own h1.2 hB
        have h3 := hcl x.1 y.1 x.2 y.2 _ h2
        refine (h3.2 _ rfl).mono ?_
        rintro _ w' ⟨_, rfl, hi, rfl, he⟩
        refine ⟨rfl, ?_⟩
        obtain ⟨q, os', e⟩ := grow_of_is hi he
        exact ⟨q, os', e⟩
      have hc := Any.slices_SortFunc_total Tryz.sortF enc (fun _ => rfl) cfa hOa fid cb g 0 cap la.toArray w (hf) hcmp (holds_own enc own') (lt_of_get hg) (by simp; omega) (fun x y h1 h2 => Subtype.ext (hT x.1 y.1 h1 h2))
      have hsz : la.toArray.size = n := by simpa using hlal
      rw [hsz] at hc
      refine (show Calls Tryz.prog 58 _ _ _ from hc).mono ?_
      rintro _ _ ⟨rfl, q, os, rfl⟩
      have hms : (la.mergeSort fun x y => !ltOf cfa y x).map enc = (l.mergeSort fun x y => !ltOf cf y x).map S := by
        have h4 : (la.mergeSort fun x y => !ltOf cfa y x).map Subtype.val = l.mergeSort fun x y => !ltOf cf y x := by
          conv => rhs; rw [← hla]
          rw [List.map_mergeSort]
          intro a _ b _
          rfl
        rw [← h4, List.map_map]; rfl
      have h1 := own_putRow enc own' (la.mergeSort fun x y => !ltOf cfa y x) (by rw [List.length_mergeSort, hlal]) q os
      refine ⟨_, rfl, is_grow enc w q g _ os, rfl, ?_, h1.2⟩
      rw [← hms]
      exact h1.1
end Go.Proofs.YtmfgiabmmdbmoaaGreatDoor
