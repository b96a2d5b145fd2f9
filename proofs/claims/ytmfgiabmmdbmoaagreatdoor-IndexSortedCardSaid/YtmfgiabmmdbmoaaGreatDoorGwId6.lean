/-
  A part of the proofs of the laws of the index: what the functions of this program compute. Conditions: none beyond those that its theorems name.
-/
import Derived.Test.YtmfgiabmmdbmoaaGreatDoorGwId5
namespace Go.Proofs.YtmfgiabmmdbmoaaGreatDoor
open Go.Gw Go.Ix Go.Sort

/-- The shelf in block bs: the list, counts with a sum, the first words. -/
def ShW (bs : Nat) (vl : Value) (n : Nat) (vf : Value) (h : Hp) : Prop :=
  ∃ cs : List Int, h[bs]? = some (.cells ⟨zsh vl cs vf⟩ 74 (0, 0)) ∧ cs.length = 26 ∧ (∀ c ∈ cs, 0 ≤ c) ∧ cs.sum = n
theorem ShW.sh0 {bs : Nat} {vl vf : Value} {n : Nat} {h : Hp} (s : ShW bs vl n vf h) : Sh0 bs vl h := by obtain ⟨cs, hs, _⟩ := s; exact ⟨_, hs⟩
theorem ShW.of {bs : Nat} {vl vf : Value} {n : Nat} {h h' : Hp} (s : ShW bs vl n vf h) (e : h'[bs]? = h[bs]?) : ShW bs vl n vf h' := by obtain ⟨cs, hs, r⟩ := s; exact ⟨cs, e.trans hs, r⟩
theorem ShW.vf {bs : Nat} {vl vf : Value} {n : Nat} {h : Hp} (s : ShW bs vl n vf h) : hcell h ⟨bs, 27, none⟩ = some vf := by
  obtain ⟨cs, hs, hl, _⟩ := s; rw [hcell_block hs]; have := zsh_vf vl vf cs; rw [hl] at this; simpa using this
/-- While the letters are counted. -/
def Cnt (h : Hp) (vl : Value) (n : Nat) (h' : Hp) : Prop :=
  Ext h h' ∧ h.size + 2 ≤ h'.size ∧ h'[h.size + 1]? = some (.cells ⟨[.pointer (some ⟨h.size, 0, none⟩)]⟩ 57 (0, 0)) ∧ ShW h.size vl n (.slice none 0 0) h'
theorem Cnt.ext {h : Hp} {vl : Value} {n : Nat} {h1 h2 : Hp} (c : Cnt h vl n h1) (e : Ext h1 h2) : Cnt h vl n h2 := by
  obtain ⟨a, b, d, s⟩ := c
  exact ⟨a.trans e, Nat.le_trans b e.size, e.get d, s.of (e.old _ (by omega))⟩
/-- While the words are kept. -/
def Kp (h : Hp) (vl : Value) (n b2 bm : Nat) (l : List Bs) (ws : List Bs) (h' : Hp) : Prop :=
  Cnt h vl n h' ∧ h'[b2]? = some (.cells ⟨[.map (some bm)]⟩ 106 (0, 0)) ∧ MapAt encK h' bm ((kp l ws).map fS)
theorem Kp.ext {h : Hp} {vl : Value} {n b2 bm : Nat} {l ws : List Bs} {h1 h2 : Hp} (c : Kp h vl n b2 bm l ws h1) (e : Ext h1 h2) : Kp h vl n b2 bm l ws h2 := by
  obtain ⟨a, b, m⟩ := c
  exact ⟨a.ext e, e.get b, m.of (e.old _ m.lt)⟩
theorem Kp.step {h : Hp} {vl : Value} {n b2 bm : Nat} {l ws : List Bs} {h1 h2 : Hp} {w : Bs} (c : Kp h vl n b2 bm l ws h1) (g : Gr h1 h2 (some bm)) (hb : h.size + 2 ≤ bm) (hb2 : b2 ≠ bm) (m : MapAt encK h2 bm ((keepW l (kp l ws) w).map fS)) : Kp h vl n b2 bm l (ws ++ [w]) h2 := by
  obtain ⟨⟨a1, a2, a3, a4⟩, b, _⟩ := c
  refine ⟨⟨⟨Nat.le_trans a1.size g.size, fun k hk => (g.other k (by omega) (by simp; omega)).trans (a1.old k hk)⟩, Nat.le_trans a2 g.size, g.keep a3 (by simp; omega), a4.of (g.other _ (by omega) (by simp; omega))⟩, g.keep b (by simpa using hb2), ?_⟩
  rw [kp_snoc]; exact m

/-- Another block than these has turned. -/
theorem Kp.put {h : Hp} {vl : Value} {n b2 bm it : Nat} {l ws : List Bs} {h1 h2 : Hp} {o : Obj} (c : Kp h vl n b2 bm l ws h1) (p : Put h1 h2 it o) (hi : h.size + 2 ≤ it) (h2' : it ≠ b2) (hm : it ≠ bm) : Kp h vl n b2 bm l ws h2 := by
  obtain ⟨⟨a1, a2, a3, a4⟩, b, m⟩ := c
  exact ⟨⟨Bel.trans a1 (p.bel (by omega)), by rw [p.size]; exact a2, p.keep a3 (by omega), a4.of (p.other _ (by omega))⟩, p.keep b (Ne.symm h2'), m.of (p.other _ (Ne.symm hm))⟩

/-- While the words are gathered. -/
def RM (h : Hp) (vl : Value) (n it bm B : Nat) (vs : List Value) (x : List (Key × Value) × List Bs × Value) (h' : Hp) : Prop :=
  Ext h h' ∧ B ≤ h'.size ∧ h'[h.size + 1]? = some (.cells ⟨[.pointer (some ⟨h.size, 0, none⟩)]⟩ 57 (0, 0)) ∧ ShW h.size vl n x.2.2 h' ∧ IterM encK h' it bm x.1 ∧ Own B h' 9 1 x.2.2 x.2.1.length (x.2.1.map S) ∧ (x.2.1.map S ++ x.1.map (·.2)).Perm vs

/-- burin/index.newShelf -/
theorem ok56 : FnOk Tryz.prog 56 := fnok Tryz.func56 (by kernel_rfl) rfl
set_option maxRecDepth 10000 in
theorem w56 {h : Hp} {v : Value} {l : List Bs} (hn : Small2 l) (hlt0 : ∀ s ∈ l, letters s = true) (hl : Strs h v l) : CallsH Tryz.prog 56 #[v] h (fun r h' => r = .pointer (some ⟨h.size, 0, none⟩) ∧ Ext h h' ∧ ∃ vf, ShW h.size v l.flatten.length vf h' ∧ Strs h' vf (firsts l)) := by
  have hl0 := hl
  obtain ⟨a, cap, rfl, hcap, hl⟩ := hl.op
  have hn1 := hn.1
  refine enter ok56 Tryz.func56 rfl Tryz.ntmps56 (by simp) (fun w0 => ?_)
  repeat refine x_seq ?_
  refine goes rfl trivial ?_
  repeat refine x_seq ?_
  refine x_reg ?_
  refine go 3 rfl trivial ?_
  refine ops_box (zs := zsh (.slice a l.length cap) (List.replicate 26 0) (.slice none 0 0)) rfl rfl rfl ?_
  intro h1 hn1b
  refine ops_alloc tabOk rfl rfl rfl ?_
  intro h2 hn2
  have s1 := hn1b.size
  rw [s1]
  refine ops_store (cs' := [.pointer (some ⟨h.size, 0, none⟩)]) tabOk rfl rfl rfl rfl rfl rfl (by rw [← s1]; exact hn2.get) (by simp) rfl ?_
  intro h3 hp3
  have s2 := hn2.size
  have s3 := hp3.size
  have hs30 : h3[h.size]? = some (.cells ⟨zsh (.slice a l.length cap) (List.replicate 26 0) (.slice none 0 0)⟩ 74 (0, 0)) := hp3.keep (hn2.ext.get hn1b.get) (by omega)
  have e30 : Ext h h3 := Bel.trans (hn1b.ext.trans hn2.ext) (hp3.bel (by omega))
  refine ops_nil ?_
  repeat refine x_seq ?_
  refine x_reg ?_
  refine ops_load tabOk rfl rfl rfl rfl (show hcell h3 ⟨h.size + 1, 0, none⟩ = some (.pointer (some ⟨h.size, 0, none⟩)) by rw [hcell_block hp3.get]; rfl) ?_
  refine go 3 rfl trivial ?_
  refine ops_clear (g := h.size) (o := 1) (z := I 0) (cs' := zsh (.slice a l.length cap) (List.replicate 26 0) (.slice none 0 0)) tabOk rfl rfl rfl rfl rfl rfl hs30 (by rw [zsh_len]; simp) rfl rfl ?_
  intro h4 hp4
  have s4 := hp4.size
  have hC4 : Cnt h (.slice a l.length cap) 0 h4 := ⟨Bel.trans e30 (hp4.bel (by omega)), by omega, hp4.keep hp3.get (by omega), List.replicate 26 0, hp4.get, rfl, by simp, rfl⟩
  refine ops_nil ?_
  repeat refine x_seq ?_
  refine goes rfl trivial ?_
  repeat refine x_seq ?_
  refine x_block ?_
  repeat refine x_seq ?_
  refine x_loop (fun k : Nat => [(0, .slice a l.length cap), (3, .pointer (some ⟨h.size + 1, 0, none⟩)), (23, .slice a l.length cap), (24, I l.length), (25, I k)]) (fun k h' => (Cnt h (.slice a l.length cap) ((l.take k).flatten.length) h') ∧ (k ≤ l.length)) (fun k => l.length - k) 0 ⟨rfl, rfl, rfl, rfl, rfl, trivial⟩ ⟨hC4, by omega⟩ ?_
  rintro k hb ⟨hC, hk⟩ K1 hK1
  repeat refine x_seq ?_
  refine goes rfl trivial ?_
  repeat refine x_seq ?_
  refine x_ifd rfl (fun c1 => ?_) (fun c1 => ?_)
  · repeat refine x_seq ?_
    refine x_skip ?_
    repeat refine x_seq ?_
    refine x_block ?_
    repeat refine x_seq ?_
    have hlt : k < l.length := by omega
    obtain ⟨q, rfl, hq⟩ := hl k hlt
    have hq := hC.1.cell hq
    have hfl : (l.take (k + 1)).flatten.length = (l.take k).flatten.length + l[k].length := by rw [take_snoc hlt, List.flatten_append, List.length_append]; simp
    have hfb := flat_len hn k
    refine x_reg ?_
    refine go 1 rfl ⟨by first | omega | (simp only [inK]; omega), trivial⟩ ?_
    refine ops_load tabOk rfl rfl rfl rfl (by assumption) ?_
    refine go 1000 rfl trivial (ops_nil ?_)
    repeat refine x_seq ?_
    refine x_reg ?_
    refine go 1 rfl trivial ?_
    refine ops_toBytes tabOk rfl rfl rfl rfl rfl rfl rfl rfl ?_
    intro c2 hc he2 hS0
    have hC2 := hC.ext he2
    have hsz := hC.2.1
    refine go 1000 rfl trivial (ops_nil ?_)
    repeat refine x_seq ?_
    refine x_block ?_
    repeat refine x_seq ?_
    refine x_loop (fun j : Nat => [(0, .slice (some q) l.length cap), (3, .pointer (some ⟨h.size + 1, 0, none⟩)), (23, .slice (some q) l.length cap), (24, I l.length), (25, I k), (30, .slice (some ⟨hb.size, 0, none⟩) l[k].length c2), (31, I l[k].length), (32, I j)]) (fun j h' => (Cnt h (.slice (some q) l.length cap) ((l.take k).flatten.length + j) h' ∧ Sl h' (.slice (some ⟨hb.size, 0, none⟩) l[k].length c2) (l[k].map U)) ∧ (j ≤ l[k].length)) (fun j => l[k].length - j) 0 ⟨rfl, rfl, rfl, rfl, rfl, rfl, rfl, rfl, trivial⟩ ⟨⟨hC2, hS0⟩, by omega⟩ ?_
    rintro j hd ⟨⟨hD, hS0⟩, hj⟩ K2 hK2
    have hS : True ∧ ∀ i (hi : i < l[k].length), ∃ p, (some ⟨hb.size, 0, none⟩ : Option Addr) = some p ∧ hcell hd (p.add i) = some (U l[k][i]) := ⟨trivial, fun i hi => sl_bytes hS0 i hi⟩
    repeat refine x_seq ?_
    refine goes rfl trivial ?_
    repeat refine x_seq ?_
    refine x_ifd rfl (fun c2 => ?_) (fun c2 => ?_)
    · repeat refine x_seq ?_
      refine x_skip ?_
      repeat refine x_seq ?_
      refine x_block ?_
      repeat refine x_seq ?_
      have hlj : j < l[k].length := by omega
      obtain ⟨_, e, hb8⟩ := hS.2 j hlj
      cases e
      refine x_reg ?_
      refine go 1 rfl ⟨by first | omega | (simp only [inK]; omega), trivial⟩ ?_
      refine ops_load tabOk rfl rfl rfl rfl (by assumption) ?_
      refine go 1000 rfl trivial (ops_nil ?_)
      repeat refine x_seq ?_
      obtain ⟨he9, hz9, hp9, cs, hcs, hcl, hcn, hsm⟩ := hD
      have hD : Cnt h (.slice (some q) l.length cap) ((l.take k).flatten.length + j) hd := ⟨he9, hz9, hp9, cs, hcs, hcl, hcn, hsm⟩
      have hlet : 97 ≤ l[k][j].toNat ∧ l[k][j].toNat ≤ 122 := letter_at (hlt0 _ (List.getElem_mem hlt)) hlj
      have hi : l[k][j].toNat - 97 < cs.length := by omega
      have hti : ((l[k][j].toNat : Int) - 97).toNat = l[k][j].toNat - 97 := by omega
      have ha : (((⟨h.size, 0, none⟩ : Addr).add 1).add (scl ((l[k][j].toNat : Int) - 97).toNat 1)) = ⟨h.size, 1 + (l[k][j].toNat - 97), none⟩ := by rw [hti]; show ((⟨h.size, 0, none⟩ : Addr).add 1).add (l[k][j].toNat - 97) = _; rw [add_head, add_at]
      have hcell1 : hcell hd (((⟨h.size, 0, none⟩ : Addr).add 1).add (scl ((l[k][j].toNat : Int) - 97).toNat 1)) = some (I cs[l[k][j].toNat - 97]) := by rw [ha, hcell_block hcs]; simpa using zsh_at hi
      have hle1 := le_sum hcn hi
      have hge1 := hcn _ (List.getElem_mem hi)
      have hk1 := hn.at hlt
      refine x_draw [(0, true), (1, true), (2, true), (3, true), (4, true), (5, true), (6, true), (7, true), (8, true), (9, true), (10, true)] [11] (Ext _) mixed (by kernel_rfl) rfl rfl (Ext.refl _) ?_
      refine seq_load tabOk rfl rfl rfl rfl (fun _ e => e.cell (show hcell hd ⟨h.size + 1, 0, none⟩ = some (.pointer (some ⟨h.size, 0, none⟩)) by rw [hcell_block hD.2.2.1]; rfl)) ?_
      refine sgo 5 rfl ⟨by first | omega | (simp only [inK]; omega), by first | omega | (simp only [inK]; omega), trivial⟩ ?_
      refine seq_load tabOk rfl rfl rfl rfl (fun _ e => e.cell hcell1) ?_
      refine sgo 1000 rfl ⟨by first | omega | (simp only [inK]; omega), by first | omega | (simp only [inK]; omega), trivial⟩ (seq_tail ?_)
      refine ops_storeA (vs := [I (cs[l[k][j].toNat - 97] + 1)]) tabOk rfl rfl ha rfl rfl rfl rfl hcs (by rw [zsh_len]; simp; omega) (zsh_set (by omega) _) ?_
      intro he hpe
      have hse := hpe.size
      refine ops_nil ?_
      refine x_out ?_
      repeat refine x_seq ?_
      refine goes rfl ⟨by first | omega | (simp only [inK]; omega), trivial⟩ ?_
      refine x_next (j + 1) ⟨rfl, rfl, rfl, rfl, rfl, rfl, rfl, rfl, trivial⟩ ⟨⟨⟨Bel.trans he9 (hpe.bel (Nat.le_refl _)), by omega, hpe.keep hp9 (by omega), _, hpe.get, by simpa using hcl, nonneg_set hcn (by omega), by rw [sum_set hi, hsm]; omega⟩, hpe.sl hS0 (by simp [Value.ownBlock]; omega)⟩, by omega⟩ (by omega)
    · repeat refine x_seq ?_
      refine x_exit_loop hK2 rfl rfl ?_
      refine x_out ?_
      repeat refine x_seq ?_
      refine goes rfl ⟨by first | omega | (simp only [inK]; omega), trivial⟩ ?_
      refine x_next (k + 1) ⟨rfl, rfl, rfl, rfl, rfl, trivial⟩ ⟨by rw [hfl, ← show j = l[k].length by omega]; exact hD, by omega⟩ (by omega)
  · repeat refine x_seq ?_
    refine x_exit_loop hK1 rfl rfl ?_
    rw [List.take_of_length_le (by omega)] at hC
    have hz0 := hC.2.1
    repeat refine x_seq ?_
    refine x_reg ?_
    refine ops_makeMap (enc := encK) rfl ?_
    rintro h5 ⟨_, hn5⟩ hM5
    refine ops_alloc tabOk rfl rfl rfl ?_
    intro h6 hn6
    refine ops_store (cs' := [.map (some hb.size)]) tabOk rfl rfl rfl rfl rfl rfl hn6.get (by simp) rfl ?_
    intro h7 hp7
    have s5 := hn5.size
    have s6 := hn6.size
    have s7 := hp7.size
    have e57 : Ext hb h7 := Bel.trans (hn5.ext.trans hn6.ext) (hp7.bel (by omega))
    have hK0 : Kp h (.slice a l.length cap) l.flatten.length h5.size hb.size l [] h7 := ⟨hC.ext e57, hp7.get, (hM5.of (hn6.ext.old _ (by omega))).of (hp7.other _ (by omega))⟩
    refine ops_nil ?_
    repeat refine x_seq ?_
    refine goes rfl trivial ?_
    repeat refine x_seq ?_
    refine x_reg ?_
    refine go 1 rfl trivial ?_
    refine ops_call rfl rfl rfl (w84 (M := kp l []) [] hn (by simp) (hl0.ext hK0.1.1) hK0.1.2.2.2.sh0 hK0.1.2.2.1 hK0.2.1 hK0.2.2 (kp_nodup l []) (by omega)) ?_
    rintro _ h8 ⟨hg8, hM8⟩
    have hK8 : Kp h (.slice a l.length cap) l.flatten.length h5.size hb.size l (allTo l 0) h8 := by have := hK0.step hg8 hz0 (by omega) hM8; simpa [allTo] using this
    refine ops_nil ?_
    repeat refine x_seq ?_
    refine goes rfl trivial ?_
    repeat refine x_seq ?_
    refine x_block ?_
    repeat refine x_seq ?_
    refine x_loop (fun k : Nat => [(3, .pointer (some ⟨h.size + 1, 0, none⟩)), (8, .pointer (some ⟨h5.size, 0, none⟩)), (9, .func (.func 84) #[] #[.pointer (some ⟨h.size + 1, 0, none⟩), .pointer (some ⟨h5.size, 0, none⟩)]), (53, .slice a l.length cap), (54, I l.length), (55, I k)]) (fun k h' => (Kp h (.slice a l.length cap) l.flatten.length h5.size hb.size l (allTo l k) h') ∧ (k ≤ l.length)) (fun k => l.length - k) 0 ⟨rfl, rfl, rfl, rfl, rfl, rfl, trivial⟩ ⟨hK8, by omega⟩ ?_
    rintro k hd ⟨hK, hk⟩ K3 hK3
    repeat refine x_seq ?_
    refine goes rfl trivial ?_
    repeat refine x_seq ?_
    refine x_ifd rfl (fun c3 => ?_) (fun c3 => ?_)
    · repeat refine x_seq ?_
      refine x_skip ?_
      repeat refine x_seq ?_
      refine x_block ?_
      repeat refine x_seq ?_
      have hlt : k < l.length := by omega
      obtain ⟨q, rfl, hq⟩ := hl k hlt
      have hq := hK.1.1.cell hq
      refine x_reg ?_
      refine go 1 rfl ⟨by first | omega | (simp only [inK]; omega), trivial⟩ ?_
      refine ops_load tabOk rfl rfl rfl rfl (by assumption) ?_
      refine go 1000 rfl trivial (ops_nil ?_)
      repeat refine x_seq ?_
      refine x_reg ?_
      refine go 1 rfl trivial ?_
      refine ops_rangeStr tabOk rfl rfl rfl rfl ?_
      intro hr hnr
      have hsr := hnr.size
      have hzd := hK.1.2.1
      have hbm := hK.2.2.lt
      have hb2l := lt_of_get hK.2.1
      have hasc : ∀ b ∈ l[k], b.toNat < 128 := fun b hb => by have := List.all_eq_true.1 (hlt0 _ (List.getElem_mem hlt)) b hb; simp [lett] at this; omega
      refine ops_nil ?_
      repeat refine x_seq ?_
      refine x_block ?_
      repeat refine x_seq ?_
      refine x_loop (fun j : Nat => [(3, .pointer (some ⟨h.size + 1, 0, none⟩)), (8, .pointer (some ⟨h5.size, 0, none⟩)), (9, .func (.func 84) #[] #[.pointer (some ⟨h.size + 1, 0, none⟩), .pointer (some ⟨h5.size, 0, none⟩)]), (11, S l[k]), (53, .slice (some q) l.length cap), (54, I l.length), (55, I k), (60, .pointer (some ⟨hd.size, 0, none⟩))]) (fun j h' => (Kp h (.slice (some q) l.length cap) l.flatten.length h5.size hb.size l (allTo l k ++ prefixesOf l[k] j) h' ∧ h'[hd.size]? = some (.stringIter ⟨⟨l[k]⟩⟩ j)) ∧ (j ≤ l[k].length)) (fun j => l[k].length - j) 0 ⟨rfl, rfl, rfl, rfl, rfl, rfl, rfl, rfl, trivial⟩ ⟨⟨by simpa [prefixesOf] using hK.ext hnr.ext, hnr.get⟩, by omega⟩ ?_
      rintro j hj1 ⟨⟨hKj, hit⟩, hj⟩ K4 hK4
      repeat refine x_seq ?_
      refine x_reg ?_
      refine ops_nextStr rfl hit rfl hasc ?_ ?_
      · intro hlj hx hpx
        have hKx := hKj.put hpx (by omega) (by omega) (by omega)
        have hle2 := hn.at hlt
        refine go 1000 rfl trivial (ops_nil ?_)
        repeat refine x_seq ?_
        refine x_true rfl ?_
        repeat refine x_seq ?_
        refine x_skip ?_
        repeat refine x_seq ?_
        refine x_block ?_
        repeat refine x_seq ?_
        refine goes rfl trivial ?_
        repeat refine x_seq ?_
        refine x_reg ?_
        refine go 5 rfl ⟨by first | omega | (simp only [inK]; omega), by first | omega | (simp only [inK]; omega), trivial⟩ ?_
        refine ops_call rfl rfl rfl (w84 (l[k].take ((j : Int) + 1).toNat) hn (by rw [List.length_take]; omega) (hl0.ext hKx.1.1) hKx.1.2.2.2.sh0 hKx.1.2.2.1 hKx.2.1 hKx.2.2 (kp_nodup l _) (by omega)) ?_
        rintro _ hy ⟨hgy, hMy⟩
        have hKy := hKx.step hgy hz0 (by omega) hMy
        have ej : ((j : Int) + 1).toNat = j + 1 := by omega
        rw [ej, List.append_assoc, ← prefixesOf_succ] at hKy
        refine ops_nil ?_
        refine x_out ?_
        refine x_next (j + 1) ⟨rfl, rfl, rfl, rfl, rfl, rfl, rfl, rfl, trivial⟩ ⟨⟨hKy, hgy.keep hpx.get (by simp; omega)⟩, by omega⟩ (by omega)
      · intro hge
        refine go 1000 rfl trivial (ops_nil ?_)
        repeat refine x_seq ?_
        refine x_false rfl ?_
        repeat refine x_seq ?_
        refine x_exit_loop hK4 rfl rfl ?_
        refine x_out ?_
        repeat refine x_seq ?_
        refine goes rfl ⟨by first | omega | (simp only [inK]; omega), trivial⟩ ?_
        refine x_next (k + 1) ⟨rfl, rfl, rfl, rfl, rfl, rfl, trivial⟩ ⟨by rw [allTo_succ hlt, ← show j = l[k].length by omega]; exact hKj, by omega⟩ (by omega)
    · repeat refine x_seq ?_
      refine x_exit_loop hK3 rfl rfl ?_
      rw [allTo_all (by omega)] at hK
      have hbl := hK.2.2.lt
      have hK12 := hK.1.2.1
      repeat refine x_seq ?_
      refine x_reg ?_
      refine ops_load tabOk rfl rfl rfl rfl (show hcell hd ⟨h5.size, 0, none⟩ = some (.map (some hb.size)) by rw [hcell_block hK.2.1]; rfl) ?_
      refine ops_rangeMap (enc := encK) tabOk rfl rfl rfl hK.2.2 rfl ?_
      rintro hz ⟨_, hnz⟩ hIz
      have hszz := hnz.size
      have hRM0 : RM h (.slice a l.length cap) l.flatten.length hd.size hb.size hz.size (((kp l (allW l)).map fS).map (·.2)) ((kp l (allW l)).map fS, [], .slice none 0 0) hz := ⟨hK.1.1.trans hnz.ext, Nat.le_refl _, hnz.ext.get hK.1.2.2.1, hK.1.2.2.2.of (hnz.ext.old _ (by omega)), hIz, Own.nil _ _ _ _, by simp⟩
      have hcount := allW_count hn
      have hcount2 := kp_count l (allW l)
      refine ops_nil ?_
      repeat refine x_seq ?_
      refine x_block ?_
      repeat refine x_seq ?_
      refine x_loop (fun x : List (Key × Value) × List Bs × Value => [(3, .pointer (some ⟨h.size + 1, 0, none⟩)), (72, .pointer (some ⟨hd.size, 0, none⟩))]) (fun x h' => (RM h (.slice a l.length cap) l.flatten.length hd.size hb.size hz.size (((kp l (allW l)).map fS).map (·.2)) x h') ∧ (True)) (fun x => x.1.length) ((kp l (allW l)).map fS, [], .slice none 0 0) ⟨rfl, rfl, trivial⟩ ⟨hRM0, trivial⟩ ?_
      rintro ⟨rem, outs, vf⟩ hx ⟨⟨r1, r2, r3, r4, r5, r6, r7⟩, -⟩ K5 hK5
      repeat refine x_seq ?_
      refine x_reg ?_
      refine ops_nextMap rfl r5 (by omega) rfl ?_ ?_
      · dsimp only at r1 r2 r3 r4 r5 r6 r7
        rintro ⟨kk, vv⟩ rem' hx2 hperm ⟨_, hpx⟩ hIx hEx
        have hmem : vv ∈ ((kp l (allW l)).map fS).map (·.2) := r7.subset (List.mem_append_right _ (List.mem_map.2 ⟨(kk, vv), hperm.mem_iff.2 (by simp), rfl⟩))
        obtain ⟨w, rfl⟩ : ∃ w, vv = S w := by obtain ⟨p, hp, rfl⟩ := List.mem_map.1 hmem; obtain ⟨p', _, rfl⟩ := List.mem_map.1 hp; exact ⟨_, rfl⟩
        have hlen7 := r7.length_eq
        simp only [List.length_append, List.length_map] at hlen7
        have hs2 := hpx.size
        have q3 := hpx.keep r3 (by omega)
        have q4 := r4.of (hpx.other _ (by omega))
        have q6 := r6.put hpx (by omega)
        have q1 : Ext h hx2 := Bel.trans r1 (hpx.bel (by omega))
        refine go 1000 rfl trivial (ops_nil ?_)
        repeat refine x_seq ?_
        refine x_true rfl ?_
        repeat refine x_seq ?_
        refine x_skip ?_
        repeat refine x_seq ?_
        refine x_block ?_
        repeat refine x_seq ?_
        refine x_reg ?_
        refine ops_entry rfl hEx rfl ?_
        refine go 1000 rfl trivial (ops_nil ?_)
        repeat refine x_seq ?_
        refine x_draw [(0, true), (1, true), (2, true), (3, true), (4, true), (5, true), (6, false), (7, false), (8, true), (9, true)] [10] (fun h' => hcell h' ⟨h.size + 1, 0, none⟩ = some (.pointer (some ⟨h.size, 0, none⟩)) ∧ hcell h' ⟨h.size, 27, none⟩ = some vf) mixed (by kernel_rfl) rfl rfl ⟨by rw [hcell_block q3]; rfl, q4.vf⟩ ?_
        refine seq_load tabOk rfl rfl rfl rfl (fun _ e => e.1) ?_
        refine seq_load tabOk rfl rfl rfl rfl (fun _ e => e.1) ?_
        refine sgo 2 rfl trivial ?_
        refine seq_load tabOk rfl rfl rfl rfl (fun _ e => e.2) ?_
        refine sgo 1 rfl trivial ?_
        refine seq_act (ops_buildSlice (cs := [S w]) tabOk rfl rfl rfl rfl rfl rfl rfl rfl rfl ?_)
        intro hy hny
        have hsy := hny.size
        have hoy := q6.ext hny.ext
        refine ops_nil ⟨⟨by rw [hcell_block (hny.ext.get q3)]; rfl, (q4.of (hny.ext.old _ (by omega))).vf⟩, ?_⟩
        refine seq_act (ops_append tabOk rfl rfl rfl rfl rfl rfl rfl rfl hoy (Sl.of_new hny rfl (Nat.le_refl _)).app rfl (by constructor <;> simp <;> omega) (by omega) rfl ?_)
        intro vg hg howng hgrg _
        have hsg := hgrg.size
        have hbg : Bel hz.size hy hg := hoy.bel hgrg (by omega)
        obtain ⟨cs, hcs, hcl, hcn, hsm⟩ := q4
        have hcs2 := hbg.get (hny.ext.get hcs) (by omega)
        refine ops_nil ⟨⟨by rw [hcell_block (hbg.get (hny.ext.get q3) (by omega))]; rfl, ShW.vf (n := l.flatten.length) ⟨cs, hcs2, hcl, hcn, hsm⟩⟩, ?_⟩
        refine sgo 1000 rfl trivial (seq_tail ?_)
        refine ops_store (b := h.size) (o := 27) (vs := [vg]) (cs' := zsh (.slice a l.length cap) cs vg) tabOk rfl rfl rfl howng.one.1 rfl (by simp [howng.one.2]) hcs2 (by rw [zsh_len]; simp; omega) (by have := zsh_last (.slice a l.length cap) vf vg cs; rw [hcl] at this; exact this) ?_
        intro hh hph
        have hsh := hph.size
        refine ops_nil ?_
        refine x_out ?_
        refine x_next (rem', outs ++ [w], vg) ⟨rfl, rfl, trivial⟩ ⟨⟨Bel.trans (Bel.trans (Bel.trans q1 (hny.ext.mono q1.size)) (hbg.mono (by omega))) (hph.bel (Nat.le_refl _)), by omega, hph.keep (hbg.get (hny.ext.get q3) (by omega)) (by omega), ⟨cs, hph.get, hcl, hcn, hsm⟩, hIx.of ((hph.other _ (by omega)).trans ((hbg.old _ (by omega)).trans (hny.ext.old _ (by omega)))) ((hph.other _ (by omega)).trans ((hbg.old _ (by omega)).trans (hny.ext.old _ (by omega)))), by simpa using howng.put hph (by omega), by rw [List.map_append, List.append_assoc]; exact ((List.Perm.append_left _ (hperm.map (·.2))).symm).trans r7⟩, trivial⟩ (by have := hperm.length_eq; simp at this; show rem'.length < rem.length; omega)
      · dsimp only at r1 r2 r3 r4 r5 r6 r7
        intro hrem
        subst hrem
        have hout : outs.length ≤ 1000001 := by have := r7.length_eq; simp only [List.length_map, List.map_nil, List.append_nil] at this; omega
        have hpo : outs.Perm ((kp l (allW l)).map (·.2)) := by have h9 := r7; simp only [List.map_nil, List.append_nil, List.map_map] at h9; exact perm_S (by rw [List.map_map]; exact h9)
        have hol : ∀ s ∈ outs, s.length ≤ 1000 := fun s hs => by obtain ⟨p, hp, rfl⟩ := List.mem_map.1 (hpo.subset hs); exact allW_len hn _ (kp_mem l _ p hp)
        refine go 1000 rfl trivial (ops_nil ?_)
        repeat refine x_seq ?_
        refine x_false rfl ?_
        repeat refine x_seq ?_
        refine x_exit_loop hK5 rfl rfl ?_
        repeat refine x_seq ?_
        refine x_reg ?_
        refine ops_load tabOk rfl rfl rfl rfl (show hcell hx ⟨h.size + 1, 0, none⟩ = some (.pointer (some ⟨h.size, 0, none⟩)) by rw [hcell_block r3]; rfl) ?_
        refine go 2 rfl trivial ?_
        refine ops_load tabOk rfl rfl rfl rfl r4.vf ?_
        refine go 1 rfl trivial ?_
        refine ops_call rfl rfl rfl (w58 (cb := #[.pointer (some ⟨h.size + 1, 0, none⟩)]) (cfF (rank l)) r6 (by omega) r2 hol ok86 (swoF _) (totF _) (fun x y hlx hly h' hb' => CallsH.mono (w86 x y hn hlx hly (hl0.bel (show Bel h.size h h' from Bel.trans r1 (hb'.mono (by omega))) (Nat.le_refl _)) (r4.of (hb'.old _ (by omega))).sh0 (hb'.get r3 (by omega))) (by rintro _ _ ⟨rfl, he⟩; refine ⟨?_, he⟩; unfold cfF rank; rw [show (-(longest l x : Int)) - (-(longest l y : Int)) = (longest l y : Int) - longest l x by omega]))) ?_
        rintro _ hs ⟨rfl, ho9, hg9⟩
        have hb9 : Bel hz.size hx hs := r6.bel hg9 r2
        refine ops_nil ?_
        repeat refine x_seq ?_
        refine x_reg ?_
        refine ops_load tabOk rfl rfl rfl rfl (show hcell hs ⟨h.size + 1, 0, none⟩ = some (.pointer (some ⟨h.size, 0, none⟩)) by rw [hcell_block (hb9.get r3 (by omega))]; rfl) ?_
        refine go 1000 rfl trivial (ops_nil ?_)
        repeat refine x_seq ?_
        exact x_ret (at_ret rfl rfl rfl rfl ⟨rfl, Bel.trans r1 (hb9.mono (by omega)), vf, r4.of (hb9.old _ (by omega)), by have h9 := ho9.strs; rw [show firsts l = srt (rank l) outs from srt_eq _ hpo.symm]; exact h9⟩ (.inl rfl))

end Go.Proofs.YtmfgiabmmdbmoaaGreatDoor
