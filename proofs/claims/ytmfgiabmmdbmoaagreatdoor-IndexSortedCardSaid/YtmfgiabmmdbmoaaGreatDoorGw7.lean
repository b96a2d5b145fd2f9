/-
  A part of the proofs of the laws of the index: what the functions of this program compute. Conditions: none beyond those that its theorems name.
-/
import Derived.Test.YtmfgiabmmdbmoaaGreatDoorGw6
import Derived.Laws.IdiomStrings
import Derived.Laws.IdiomRangeMap
import Derived.Laws.RangeString
/-
  THE GROUND OF THE WALKS (7): maps; ranges over strings and maps; strings and their bytes; equality of what has parts.
-/
namespace Go.Gw

section
variable {C : Cx} {T : List (Nat × TI)} {all rest : List Oper} {K : Env → Hp → Prop} {E : Env} {h : Hp} {ty : TypeId} {pos : String} {af : Array Edge} {d : Tmp} {dst : Option Tmp} {t : TypeId}

theorem set_put {w0 w : World} {h : Hp} (hw : Is w0 h w) {b : Nat} {x : Obj} (hb : h[b]? = some x) (o : Obj) : Is w0 (h.setIfInBounds b o) { w with heap := w.heap.setIfInBounds b o } ∧ Put h (h.setIfInBounds b o) b o :=
  ⟨⟨by rw [← hw.heap], hw.os, hw.tape, hw.output, hw.drawn⟩, ⟨by simp, by have := lt_of_get hb; simp [this], fun k hk => by simp [Ne.symm hk]⟩⟩

/-! ### Strings -/
abbrev U (b : UInt8) : Value := .int .u8 b.toNat

theorem ops_toBytes {s : TypeId} {x : Operand} {l : Bs} {ti tis tie : TI} {e esz eb : Nat} (hT : TabOk C.P T) (hs : lookT T s = some tis) (hsk : tis.kind = .str) (ht : lookT T t = some ti) (hk' : ti.kind = .slice e esz eb) (hte : lookT T e = some tie) (htek : tie.kind = .int .u8)
    (hx : ev E x = some (S l)) (hd : Nat.blt d C.n = true)
    (hk : ∀ c h', Ext h h' → Sl h' (.slice (some ⟨h.size, 0, none⟩) l.length c) (l.map U) → Ops C all rest K ((d, .slice (some ⟨h.size, 0, none⟩) l.length c) :: E) h') :
    Ops C all (⟨some d, .convert s t x, ty, pos, af, none⟩ :: rest) K E h := by
  have h1 := (tab_look hT hs).1
  have h2 := (tab_look hT ht).1
  have h3 := (tab_look hT hte).1
  rw [hsk] at h1; rw [hk'] at h2; rw [htek] at h3
  refine ops_some rfl (by simp) fun a w hA hw => ?_
  have hw' := hw.heap
  subst hw'
  have hr := run_bytes_of_string (P := C.P) w s t e ⟨⟨l⟩⟩ h1 h2.1 h3
  have hsz : (ByteArray.mk ⟨l⟩).size = l.length := rfl
  rw [hsz] at hr
  generalize hcap : grownCap w l.length 0 e = cap at hr
  have hge := grownCap_ge w l.length 0 e
  rw [hcap] at hge
  have hn := New.of w.heap (.cells (bytesRow ⟨⟨l⟩⟩ cap) e ((bytesRow ⟨⟨l⟩⟩ cap).size, (bytesRow ⟨⟨l⟩⟩ cap).size + 1))
  refine ⟨.slice (some ⟨w.heap.size, 0, none⟩) l.length cap, w.drew.alloc (.cells (bytesRow ⟨⟨l⟩⟩ cap) e ((bytesRow ⟨⟨l⟩⟩ cap).size, (bytesRow ⟨⟨l⟩⟩ cap).size + 1)), w.heap.push _, by simp only [execOp, ev_eval hA hx]; exact run_value _ _ _ _ hr, ⟨rfl, hw.os, hw.tape, hw.output, Nat.le_succ_of_le hw.drawn⟩, hd, hk cap _ hn.ext ⟨some ⟨w.heap.size, 0, none⟩, cap, by simp, by simpa using hge, fun j u hj => ⟨_, rfl, ?_⟩⟩⟩
  rw [add_head, hcell_block hn.get]
  have hlt : j < l.length := by have := (List.getElem?_eq_some_iff.1 hj).1; simpa using this
  rw [← hj]
  simp [bytesRow, Array.getElem?_append, hlt, hsz]

theorem ops_fromBytes {s : TypeId} {x : Operand} {y : Value} {l : Bs} {ti tis tie : TI} {e esz eb : Nat} (hT : TabOk C.P T) (hs : lookT T s = some tis) (hsk : tis.kind = .slice e esz eb) (ht : lookT T t = some ti) (hk' : ti.kind = .str) (hte : lookT T e = some tie) (htek : tie.kind = .int .u8)
    (hx : ev E x = some y) (hy : Sl h y (l.map U)) (hd : Nat.blt d C.n = true)
    (hk : Ops C all rest K ((d, S l) :: E) h) :
    Ops C all (⟨some d, .convert s t x, ty, pos, af, none⟩ :: rest) K E h := by
  have h1 := (tab_look hT hs).1
  have h2 := (tab_look hT ht).1
  have h3 := (tab_look hT hte).1
  rw [hsk] at h1; rw [hk'] at h2; rw [htek] at h3
  refine ops_value (v := S l) rfl (by simp) hd (fun a w hA hw => ⟨w, ?_, hw⟩) hk
  obtain ⟨ad, cap, rfl, hc, hcells⟩ := hy
  simp only [List.length_map] at hx hc
  simp only [execOp, ev_eval hA hx]
  cases ad with
  | none =>
    have hl : l = [] := by
      cases l with
      | nil => rfl
      | cons u us => obtain ⟨_, hq, _⟩ := hcells 0 (U u) rfl; cases hq
    subst hl
    refine run_value _ _ _ _ ?_
    rw [run_convert_bytes_string w s t e none _ cap h1.1 h3 h2]
    rfl
  | some p =>
    refine run_value _ _ _ _ (run_convert_bytes_back (P := C.P) w s t e p cap l h1.1 h3 h2 fun j hj => ?_)
    obtain ⟨q, hq, hcell⟩ := hcells j (U l[j]) (by simp [hj])
    cases hq
    exact (cell_of hw.heap _).trans hcell

theorem ops_rangeStr {ti : TI} {x : Operand} {l : Bs} (hT : TabOk C.P T) (ht : lookT T t = some ti) (hk' : ti.kind = .str) (hx : ev E x = some (S l)) (hd : Nat.blt d C.n = true)
    (hk : ∀ h', New h h' (.stringIter ⟨⟨l⟩⟩ 0) → Ops C all rest K ((d, .pointer (some ⟨h.size, 0, none⟩)) :: E) h') : Ops C all (⟨some d, .range t x, ty, pos, af, none⟩ :: rest) K E h := by
  have h1 := (tab_look hT ht).1
  rw [hk'] at h1
  refine ops_value (h' := h.push (.stringIter ⟨⟨l⟩⟩ 0)) (v := .pointer (some ⟨h.size, 0, none⟩)) rfl (by simp) hd (fun a w hA hw => ⟨w.alloc (.stringIter ⟨⟨l⟩⟩ 0), ?_, is_alloc hw _⟩) (hk _ (New.of h _))
  have e := hw.heap; subst e
  have hr := run_range_string (P := C.P) w t ⟨⟨l⟩⟩ h1
  simp only [execOp, ev_eval hA hx]
  exact run_value _ _ _ _ hr

theorem ops_nextStr {x : Operand} {it p : Nat} {l : Bs} (hx : ev E x = some (.pointer (some ⟨it, 0, none⟩))) (hit : h[it]? = some (.stringIter ⟨⟨l⟩⟩ p)) (hd : Nat.blt d C.n = true)
    (hasc : ∀ b ∈ l, b.toNat < 128)
    (hk : ∀ (hlt : p < l.length) h', Put h h' it (.stringIter ⟨⟨l⟩⟩ (p + 1)) → Ops C all rest K ((d, .tuple #[.bool true, I p, .int .i32 (l[p].toNat : Int)]) :: E) h')
    (hend : ¬ p < l.length → Ops C all rest K ((d, .tuple #[.bool false]) :: E) h) : Ops C all (⟨some d, .next x true, ty, pos, af, none⟩ :: rest) K E h := by
  by_cases hlt : p < l.length
  · obtain ⟨hw2, hp⟩ := set_put (w := mkW h) (w0 := mkW h) ⟨rfl, rfl, rfl, rfl, Nat.le_refl _⟩ hit (.stringIter ⟨⟨l⟩⟩ (p + 1))
    refine ops_value (v := .tuple #[.bool true, I p, .int .i32 (l[p].toNat : Int)]) (h' := h.setIfInBounds it (.stringIter ⟨⟨l⟩⟩ (p + 1))) rfl (by simp) hd (fun a w hA hw => ?_) (hk hlt _ hp)
    have hit' : w.heap[it]? = some (.stringIter ⟨⟨l⟩⟩ p) := by rw [hw.heap]; exact hit
    refine ⟨{ w with heap := w.heap.setIfInBounds it (.stringIter ⟨⟨l⟩⟩ (p + 1)) }, ?_, (set_put hw hit _).1⟩
    have h2 : p < (ByteArray.mk ⟨l⟩).size := hlt
    have h3 : ((ByteArray.mk ⟨l⟩)[p]'h2) = l[p] := rfl
    have hdec := decode_ascii ⟨⟨l⟩⟩ p h2 (by rw [h3]; exact hasc _ (List.getElem_mem hlt))
    rw [h3] at hdec
    simp [execOp, ev_eval hA hx, Instr.next, getObj, setObj, Sem.run, hit', h2, hdec, goInt]
  · refine ops_value (v := .tuple #[.bool false]) rfl (by simp) hd (fun a w hA hw => ⟨w, ?_, hw⟩) (hend hlt)
    have hit' : w.heap[it]? = some (.stringIter ⟨⟨l⟩⟩ p) := by rw [hw.heap]; exact hit
    have h2 : ¬ p < (ByteArray.mk ⟨l⟩).size := hlt
    simp [execOp, ev_eval hA hx, Instr.next, getObj, Sem.run, hit', h2]

/-! ### Maps -/

/-- The keys of a map: their encoding, and that the model tells them apart. -/
structure KeyOk {κ : Type} [DecidableEq κ] (P : Program) (k : TypeId) (enc : κ → Value) : Prop where
  inj : ∀ {a b : κ}, enc a = enc b → a = b
  chk : ∀ (w : World) (em : Bool) (a : κ), (Instr.checkKey em 10000 k (enc a)).run P w = .ok () w
  eq : ∀ (w : World) (a b : κ), (Op.equal k (enc a) (enc b)).run P w = .ok (decide (a = b)) w
  now : ∃ dk, P.underlying k = some dk ∧ ((∀ a b, Instr.sameNow dk (enc a) (enc b) = some (decide (a = b))) ∨ (∀ a b, Instr.sameNow dk (enc a) (enc b) = none))

variable {κ : Type} {enc : κ → Value}
section
variable [DecidableEq κ]

def findM (a : κ) : List (κ × Value) → Nat → Option (Nat × Value)
  | [], _ => none
  | (b, v) :: M, i => if a = b then some (i, v) else findM a M (i + 1)

def getM (a : κ) : List (κ × Value) → Option Value
  | [] => none
  | (b, v) :: M => if a = b then some v else getM a M
def delM (a : κ) : List (κ × Value) → List (κ × Value)
  | [] => []
  | (b, v) :: M => if a = b then M else (b, v) :: delM a M

theorem findM_get (a : κ) : ∀ (M : List (κ × Value)) (i : Nat), (findM a M i).map (·.2) = getM a M
  | [], _ => rfl
  | (b, v) :: M, i => by
    simp only [findM, getM]
    split
    · rfl
    · exact findM_get a M (i + 1)

/-- The entries of a map as pairs. -/
def enM (enc : κ → Value) (es : List MapEntry) (M : List (κ × Value)) : Prop := es.map (fun e => (e.key, e.val)) = M.map (fun p => (enc p.1, p.2))

theorem run_findKey {P : Program} {k : TypeId} (hK : KeyOk P k enc) (w : World) (a : κ) (es : List MapEntry) (M : List (κ × Value)) (hM : enM enc es M) : (Instr.findKey k (enc a) es).run P w = .ok (findM a M 0) w := by
  obtain ⟨dk, hu, hn⟩ := hK.now
  have ask : ∀ (es : List MapEntry) (M : List (κ × Value)) (i : Nat), enM enc es M → (Instr.findAsking k (enc a) es i).run P w = .ok (findM a M i) w := by
    intro es
    induction es with
    | nil => intro M i hM; cases M with
      | nil => simp [Instr.findAsking, findM]
      | cons p M => simp [enM] at hM
    | cons e es ih => intro M i hM; cases M with
      | nil => simp [enM] at hM
      | cons p M =>
        obtain ⟨b, v⟩ := p
        simp only [enM, List.map_cons, List.cons.injEq, Prod.mk.injEq] at hM
        obtain ⟨⟨h1, h2⟩, h3⟩ := hM
        simp only [Instr.findAsking, Sem.run_bind, h1, hK.eq, Result.andThen_ok, findM]
        by_cases hab : a = b
        · simp [hab, h2]
        · simp [hab, ih M (i + 1) h3]
  have now : ∀ (es : List MapEntry) (M : List (κ × Value)) (i : Nat), enM enc es M → (∀ a b, Instr.sameNow dk (enc a) (enc b) = some (decide (a = b))) → Instr.findNow dk (enc a) es i = some (findM a M i) := by
    intro es
    induction es with
    | nil => intro M i hM _; cases M with
      | nil => simp [Instr.findNow, findM]
      | cons p M => simp [enM] at hM
    | cons e es ih => intro M i hM hs; cases M with
      | nil => simp [enM] at hM
      | cons p M =>
        obtain ⟨b, v⟩ := p
        simp only [enM, List.map_cons, List.cons.injEq, Prod.mk.injEq] at hM
        obtain ⟨⟨h1, h2⟩, h3⟩ := hM
        simp only [Instr.findNow, h1, hs, findM]
        by_cases hab : a = b
        · simp [hab, h2]
        · simp [hab, ih M (i + 1) h3 hs]
  simp only [Instr.findKey, Sem.run_bind, run_underlying' hu, Result.andThen_ok]
  rcases hn with hs | hs
  · rw [now es M 0 hM hs]; rfl
  · cases es with
    | nil => cases M with
      | nil => rfl
      | cons p M => simp [enM] at hM
    | cons e es => cases M with
      | nil => simp [enM] at hM
      | cons p M =>
        obtain ⟨b, v⟩ := p
        have hM' := hM
        simp only [enM, List.map_cons, List.cons.injEq, Prod.mk.injEq] at hM'
        have hno : Instr.findNow dk (enc a) (e :: es) 0 = none := by simp only [Instr.findNow, hM'.1.1, hs]
        rw [hno]
        exact ask (e :: es) ((b, v) :: M) 0 hM

end
/-- The map in block b holds M. -/
def MapAt (enc : κ → Value) (h : Hp) (b : Nat) (M : List (κ × Value)) : Prop :=
  ∃ es clock, h[b]? = some (.map es clock) ∧ enM enc es.toList M ∧ (∀ x ∈ es.toList, x.born < clock) ∧ (es.toList.map (·.born)).Nodup

theorem MapAt.lt {b : Nat} {M : List (κ × Value)} (m : MapAt enc h b M) : b < h.size := by obtain ⟨_, _, hb, _⟩ := m; exact lt_of_get hb
theorem MapAt.of {h' : Hp} {b : Nat} {M : List (κ × Value)} (m : MapAt enc h b M) (e : h'[b]? = h[b]?) : MapAt enc h' b M := by
  obtain ⟨es, clock, hb, rest⟩ := m; exact ⟨es, clock, e.trans hb, rest⟩

theorem ops_makeMap (hd : Nat.blt d C.n = true)
    (hk : ∀ h', (∃ o, New h h' o) → MapAt enc h' h.size [] → Ops C all rest K ((d, .map (some h.size)) :: E) h') : Ops C all (⟨some d, .makeMap t none, ty, pos, af, none⟩ :: rest) K E h := by
  refine ops_value (h' := h.push (.map #[] 0)) (v := .map (some h.size)) rfl (by simp) hd (fun a w hA hw => ⟨w.alloc (.map #[] 0), ?_, is_alloc hw _⟩) (hk _ ⟨_, New.of h _⟩ ⟨#[], 0, (New.of h _).get, rfl, by simp, by simp⟩)
  have e := hw.heap; subst e
  simp [execOp, Instr.makeMap]

section
variable [DecidableEq κ]
theorem ops_lookup {ti tie : TI} {k e : Nat} {m x : Operand} {b : Nat} {a : κ} {M : List (κ × Value)} (hT : TabOk C.P T) (ht : lookT T t = some ti) (hk' : ti.kind = .map k e) (hte : lookT T e = some tie) (hK : KeyOk C.P k enc)
    (hm : ev E m = some (.map (some b))) (hx : ev E x = some (enc a)) (hM : MapAt enc h b M) (hd : Nat.blt d C.n = true)
    (hk : Ops C all rest K ((d, .tuple #[(getM a M).getD tie.zero, .bool (getM a M).isSome]) :: E) h) : Ops C all (⟨some d, .lookup t m x true, ty, pos, af, none⟩ :: rest) K E h := by
  have h1 := (tab_look hT ht).1
  rw [hk'] at h1
  obtain ⟨i, hi, _, _, hzi⟩ := (tab_look hT hte).info
  refine ops_value (v := .tuple #[(getM a M).getD tie.zero, .bool (getM a M).isSome]) rfl (by simp) hd (fun a' w hA hw => ⟨w, ?_, hw⟩) hk
  obtain ⟨es, clock, hb, hen, _, _⟩ := hM
  have hb' : w.heap[b]? = some (.map es clock) := by rw [hw.heap]; exact hb
  have hf := run_findKey hK w a es.toList M hen
  have hg : (getObj b).run C.P w = .ok (.map es clock) w := by simp [getObj, Sem.run, hb']
  have hzr : (zeroValue e).run C.P w = .ok tie.zero w := by simp [zeroValue, run_typeInfo' hi, hzi]
  have hget := findM_get a M 0
  simp only [execOp, ev_eval hA hm, ev_eval hA hx, Instr.lookup]
  refine run_value _ _ _ _ ?_
  simp only [Sem.run_bind, run_underlying' h1, Result.andThen_ok, hg, Sem.run_pure, hK.chk, hf]
  cases hfm : findM a M 0 with
  | none => rw [hfm] at hget; simp only [Option.map_none] at hget; simp [hzr, ← hget]
  | some p => obtain ⟨j, v⟩ := p; rw [hfm] at hget; simp only [Option.map_some] at hget; simp [← hget]

theorem enM_del (a : κ) : ∀ (es : List MapEntry) (M : List (κ × Value)), enM enc es M → ∀ i j v, findM a M i = some (j, v) → i ≤ j ∧ enM enc (es.eraseIdx (j - i)) (delM a M)
  | [], [], _, i, j, v, hf => by simp [findM] at hf
  | [], _ :: _, hM, _, _, _, _ => by simp [enM] at hM
  | _ :: _, [], hM, _, _, _, _ => by simp [enM] at hM
  | e :: es, (b, u) :: M, hM, i, j, v, hf => by
    simp only [enM, List.map_cons, List.cons.injEq] at hM
    simp only [findM] at hf
    simp only [delM]
    split at hf
    · rename_i hab
      cases hf
      rw [if_pos hab]
      exact ⟨Nat.le_refl _, by simpa [enM] using hM.2⟩
    · rename_i hab
      obtain ⟨h1, h2⟩ := enM_del a es M hM.2 (i + 1) j v hf
      rw [if_neg hab]
      refine ⟨by omega, ?_⟩
      rw [show j - i = (j - (i + 1)) + 1 by omega, List.eraseIdx_cons_succ]
      simp only [enM, List.map_cons, List.cons.injEq]
      exact ⟨hM.1, h2⟩

theorem delM_none (a : κ) : ∀ (M : List (κ × Value)) (i : Nat), findM a M i = none → delM a M = M
  | [], _, _ => rfl
  | (b, v) :: M, i, hf => by
    simp only [findM] at hf
    split at hf
    · cases hf
    · rename_i hab; simp only [delM, hab, if_false, delM_none a M (i + 1) hf]

theorem ops_delete {ti : TI} {k e : Nat} {t' : TypeId} {m x : Operand} {b : Nat} {a : κ} {M : List (κ × Value)} (hT : TabOk C.P T) (ht : lookT T t = some ti) (hk' : ti.kind = .map k e) (hK : KeyOk C.P k enc)
    (hm : ev E m = some (.map (some b))) (hx : ev E x = some (enc a)) (hM : MapAt enc h b M) (hd : dstOk C.n dst = true)
    (hk : ∀ h', (∃ o, Put h h' b o) → MapAt enc h' b (delM a M) → Ops C all rest K (bind dst (.tuple #[]) E) h') :
    Ops C all (⟨dst, .call { callee := .builtin .delete, args := ⟨[m, x]⟩, argTypes := ⟨[t, t']⟩ }, ty, pos, af, none⟩ :: rest) K E h := by
  have h1 := (tab_look hT ht).1
  rw [hk'] at h1
  obtain ⟨es, clock, hb, hen, hcl, hnd⟩ := hM
  refine ops_some rfl (by simp) fun a' w hA hw => ?_
  have hb' : w.heap[b]? = some (.map es clock) := by rw [hw.heap]; exact hb
  have hf := run_findKey hK w a es.toList M hen
  have hg : (getObj b).run C.P w = .ok (.map es clock) w := by simp [getObj, Sem.run, hb']
  have hset : ∀ o, (setObj b o).run C.P w = .ok () { w with heap := w.heap.setIfInBounds b o } := fun o => by simp [setObj, Sem.run, hb']
  cases hfm : findM a M 0 with
  | none =>
    have hs := set_put hw hb (.map es clock)
    refine ⟨.tuple #[], _, _, ?_, hs.1, hd, hk _ ⟨_, hs.2⟩ ⟨es, clock, hs.2.get, by rw [delM_none a M 0 hfm]; exact hen, hcl, hnd⟩⟩
    simp [execOp, resolve, invoke, builtin, ev_eval hA hm, ev_eval hA hx, Builtin.delete_, run_underlying' h1, hg, hK.chk, hf, hfm, hset]
  | some p =>
    obtain ⟨j, v⟩ := p
    have hs := set_put hw hb (.map (es.eraseIdxIfInBounds j) clock)
    have hdel := (enM_del a es.toList M hen 0 j v hfm).2
    have hlist : (es.eraseIdxIfInBounds j).toList = es.toList.eraseIdx j := by
      unfold Array.eraseIdxIfInBounds
      split
      · simp
      · rename_i hlt; rw [List.eraseIdx_of_length_le (by simpa using hlt)]
    refine ⟨.tuple #[], _, _, ?_, hs.1, hd, hk _ ⟨_, hs.2⟩ ⟨_, clock, hs.2.get, by rw [hlist]; exact hdel, fun x hx => hcl x (by rw [hlist] at hx; exact List.mem_of_mem_eraseIdx hx), ?_⟩⟩
    · simp [execOp, resolve, invoke, builtin, ev_eval hA hm, ev_eval hA hx, Builtin.delete_, run_underlying' h1, hg, hK.chk, hf, hfm, hset]
    · rw [hlist]; exact List.Nodup.sublist ((List.eraseIdx_sublist _ _).map _) hnd

/-- A key that is not there yet. -/
theorem ops_insert {ti : TI} {k e : Nat} {m x y : Operand} {b : Nat} {a : κ} {v : Value} {M : List (κ × Value)} (hT : TabOk C.P T) (ht : lookT T t = some ti) (hk' : ti.kind = .map k e) (hK : KeyOk C.P k enc)
    (hm : ev E m = some (.map (some b))) (hx : ev E x = some (enc a)) (hy : ev E y = some v) (hM : MapAt enc h b M) (hno : getM a M = none)
    (hk : ∀ h', (∃ o, Put h h' b o) → MapAt enc h' b (M ++ [(a, v)]) → Ops C all rest K E h') :
    Ops C all (⟨none, .mapUpdate t m x y, ty, pos, af, none⟩ :: rest) K E h := by
  have h1 := (tab_look hT ht).1
  rw [hk'] at h1
  obtain ⟨es, clock, hb, hen, hcl, hnd⟩ := hM
  have hs0 := set_put (w := mkW h) (w0 := mkW h) ⟨rfl, rfl, rfl, rfl, Nat.le_refl _⟩ hb (.map (es.push { key := enc a, val := v, born := clock }) (clock + 1))
  have hfm : findM a M 0 = none := by
    have := findM_get a M 0; rw [hno] at this; simpa using this
  refine ops_done (h' := h.setIfInBounds b (.map (es.push { key := enc a, val := v, born := clock }) (clock + 1))) rfl (by simp) rfl (fun a' w hA hw => ?_) (hk _ ⟨_, hs0.2⟩ ⟨_, _, hs0.2.get, ?_, ?_, ?_⟩)
  · have hb' : w.heap[b]? = some (.map es clock) := by rw [hw.heap]; exact hb
    have hf := run_findKey hK w a es.toList M hen
    have hg : (getObj b).run C.P w = .ok (.map es clock) w := by simp [getObj, Sem.run, hb']
    have hset : ∀ o, (setObj b o).run C.P w = .ok () { w with heap := w.heap.setIfInBounds b o } := fun o => by simp [setObj, Sem.run, hb']
    refine ⟨_, ?_, (set_put hw hb _).1⟩
    simp [execOp, ev_eval hA hm, ev_eval hA hx, ev_eval hA hy, Instr.mapUpdate, run_underlying' h1, hg, hK.chk, hf, hfm, hset]
  · simp only [enM] at hen ⊢; simp [hen]
  · intro x hx; simp only [Array.toList_push, List.mem_append, List.mem_singleton] at hx
    rcases hx with hx | rfl
    · have := hcl x hx; omega
    · simp
  · simp only [Array.toList_push, List.map_append, List.map_cons, List.map_nil]
    rw [List.nodup_append]
    refine ⟨hnd, by simp, fun u hu z hz => ?_⟩
    simp only [List.mem_singleton] at hz
    subst hz
    obtain ⟨y', hy', rfl⟩ := List.mem_map.1 hu
    have := hcl y' hy'; omega

end
/-- The iterator in block it, over the map in block b: these are still to come. -/
def IterM (enc : κ → Value) (h : Hp) (it b : Nat) (rem : List (κ × Value)) : Prop :=
  ∃ es clock since seen last, h[b]? = some (.map es clock) ∧ h[it]? = some (.mapIter (some b) since seen last) ∧ (∀ x ∈ es.toList, x.born < since) ∧ since ≤ last ∧ (es.toList.map (·.born)).Nodup ∧ enM enc (leftOf es seen).toList rem ∧ clock = last

/-- The entry that came last. -/
def EntryAt (h : Hp) (it : Nat) (k v : Value) : Prop :=
  ∃ m es clock since seen stamp e, h[m]? = some (.map es clock) ∧ h[it]? = some (.mapIter (some m) since seen clock) ∧ seen.back? = some stamp ∧ es.find? (·.born == stamp) = some e ∧ e.key = k ∧ e.val = v

theorem IterM.of {h' : Hp} {it b : Nat} {rem : List (κ × Value)} (m : IterM enc h it b rem) (e1 : h'[b]? = h[b]?) (e2 : h'[it]? = h[it]?) : IterM enc h' it b rem := by
  obtain ⟨es, clock, since, seen, last, hb, hi, rest⟩ := m; exact ⟨es, clock, since, seen, last, e1.trans hb, e2.trans hi, rest⟩

theorem ops_rangeMap {ti : TI} {k e : Nat} {x : Operand} {b : Nat} {M : List (κ × Value)} (hT : TabOk C.P T) (ht : lookT T t = some ti) (hk' : ti.kind = .map k e) (hx : ev E x = some (.map (some b))) (hM : MapAt enc h b M) (hd : Nat.blt d C.n = true)
    (hk : ∀ h', (∃ o, New h h' o) → IterM enc h' h.size b M → Ops C all rest K ((d, .pointer (some ⟨h.size, 0, none⟩)) :: E) h') : Ops C all (⟨some d, .range t x, ty, pos, af, none⟩ :: rest) K E h := by
  have h1 := (tab_look hT ht).1
  rw [hk'] at h1
  obtain ⟨es, clock, hb, hen, hcl, hnd⟩ := hM
  have hn := New.of h (.mapIter (some b) clock #[] clock)
  refine ops_value (h' := h.push (.mapIter (some b) clock #[] clock)) (v := .pointer (some ⟨h.size, 0, none⟩)) rfl (by simp) hd (fun a w hA hw => ⟨w.alloc (.mapIter (some b) clock #[] clock), ?_, is_alloc hw _⟩)
    (hk _ ⟨_, hn⟩ ⟨es, clock, clock, #[], clock, by rw [hn.old b (lt_of_get hb)]; exact hb, hn.get, hcl, Nat.le_refl _, hnd, ?_, rfl⟩)
  · have e := hw.heap; subst e
    have hr := run_range_map (P := C.P) w t k _ b es clock h1 hb
    simp only [execOp, ev_eval hA hx]
    exact run_value _ _ _ _ hr
  · have : leftOf es #[] = es := by unfold leftOf; exact Array.filter_eq_self.2 (fun x hx => by simp)
    rw [this]; exact hen

theorem enM_nil_left {es : List MapEntry} {M : List (κ × Value)} (hM : enM enc es M) : es.length = M.length := by
  have := congrArg List.length hM; simpa using this

theorem map_erase {α β : Type} (f : α → β) : ∀ (l : List α) (j : Nat), (l.map f).eraseIdx j = (l.eraseIdx j).map f
  | [], _ => by simp
  | _ :: _, 0 => by simp
  | _ :: l, j + 1 => by simp [map_erase f l j]

theorem ops_nextMap {x : Operand} {it b : Nat} {rem : List (κ × Value)} (hx : ev E x = some (.pointer (some ⟨it, 0, none⟩))) (hit : IterM enc h it b rem) (hne : it ≠ b) (hd : Nat.blt d C.n = true)
    (hk : ∀ p rem' h', rem.Perm (p :: rem') → (∃ o, Put h h' it o) → IterM enc h' it b rem' → EntryAt h' it (enc p.1) p.2 → Ops C all rest K ((d, .tuple #[.bool true, enc p.1, p.2]) :: E) h')
    (hend : rem = [] → Ops C all rest K ((d, .tuple #[.bool false]) :: E) h) : Ops C all (⟨some d, .next x false, ty, pos, af, none⟩ :: rest) K E h := by
  obtain ⟨es, clock, since, seen, last, hb, hi, hold, hsl, hnd, hen, rfl⟩ := hit
  refine ops_some rfl (by simp) fun a w hA hw => ?_
  have hb' : w.heap[b]? = some (.map es clock) := by rw [hw.heap]; exact hb
  have hi' : w.heap[it]? = some (.mapIter (some b) since seen clock) := by rw [hw.heap]; exact hi
  have hgb : ∀ w' : World, w'.heap = w.heap → (getObj b).run C.P w' = .ok (.map es clock) w' := fun w' e => by simp [getObj, Sem.run, e, hb']
  have hgi : (getObj it).run C.P w = .ok (.mapIter (some b) since seen clock) w := by simp [getObj, Sem.run, hi']
  have hmem : ∀ x ∈ (leftOf es seen).toList, x.born < since := fun x hx => hold x (by unfold leftOf at hx; simp at hx ⊢; exact hx.1)
  have e1 : (leftOf es seen).filter (fun x => decide (x.born < since)) = leftOf es seen := Array.filter_eq_self.2 (fun x hx => by simpa using hmem x (by simpa using hx))
  have e2 : (leftOf es seen).filter (fun x => decide (x.born ≥ since)) = #[] := by
    rw [Array.filter_eq_empty_iff]
    intro x hx
    have := hmem x (by simpa using hx)
    simp
    omega
  have e0 : es.filter (fun e => !seen.contains e.born) = leftOf es seen := rfl
  by_cases h0 : (leftOf es seen).size = 0
  · have hL : leftOf es seen = #[] := Array.eq_empty_of_size_eq_zero h0
    have hrem : rem = [] := by
      have := enM_nil_left hen; rw [hL] at this; exact List.eq_nil_of_length_eq_zero (by simpa using this.symm)
    refine ⟨_, w, h, ?_, hw, hd, hend hrem⟩
    simp only [execOp, ev_eval hA hx, Instr.next]
    refine run_value _ _ _ _ ?_
    simp only [Sem.run_bind, hgi, Result.andThen_ok, hgb w rfl, next_test_false seen es since clock hold hsl, Bool.false_eq_true, if_false, e0, hL]
    simp [choose, Sem.run, Question.forced]
  · have hne0 : (leftOf es seen).isEmpty = false := by simp [Array.isEmpty, h0]
    have hch : ∃ (j : Nat) (w1 : World), j < (leftOf es seen).size ∧ w1.heap = w.heap ∧ Is C.w0 h w1 ∧ (choose (Question.mapNext (leftOf es seen).size)).run C.P w = .ok j w1 := by
      by_cases hf : (leftOf es seen).size ≤ 1
      · exact ⟨0, w, by omega, rfl, hw, by simp [choose, Sem.run, Question.forced, hf]⟩
      · exact ⟨_, w.drew, Nat.mod_lt _ (by omega), rfl, ⟨hw.heap, hw.os, hw.tape, hw.output, Nat.le_succ_of_le hw.drawn⟩, by
          simp only [choose, Sem.run, Question.forced, decide_eq_true_eq, hf, if_false, Question.cut]
          rfl⟩
    obtain ⟨j, w1, hj, hh1, hw1, hrun⟩ := hch
    have hi1 : w1.heap[it]? = some (.mapIter (some b) since seen clock) := by rw [hh1]; exact hi'
    have hs := set_put hw1 hi (.mapIter (some b) since (seen.push (leftOf es seen)[j].born) clock)
    have hset : (setObj it (.mapIter (some b) since (seen.push (leftOf es seen)[j].born) clock)).run C.P w1 = .ok () { w1 with heap := w1.heap.setIfInBounds it (.mapIter (some b) since (seen.push (leftOf es seen)[j].born) clock) } := by simp [setObj, Sem.run, hi1]
    -- which pair
    have hlen := enM_nil_left hen
    have hjr : j < rem.length := by rw [← hlen]; simpa using hj
    have hpair : ((leftOf es seen)[j].key, (leftOf es seen)[j].val) = (enc rem[j].1, rem[j].2) := by
      have hh := congrArg (fun l => l[j]?) hen
      simp only [List.getElem?_map] at hh
      rw [List.getElem?_eq_getElem hjr, List.getElem?_eq_getElem (by simpa using hj)] at hh
      simpa using hh
    have hperm : rem.Perm (rem[j] :: rem.eraseIdx j) := by
      rw [List.eraseIdx_eq_take_drop_succ]
      have := (List.perm_middle (a := rem[j]) (l₁ := rem.take j) (l₂ := rem.drop (j + 1)))
      rw [← List.drop_eq_getElem_cons hjr, List.take_append_drop] at this
      exact this
    have hndl : ((leftOf es seen).toList.map (·.born)).Nodup := by
      unfold leftOf
      rw [Array.toList_filter]
      exact List.Nodup.sublist (List.filter_sublist.map _) hnd
    have hleft : (leftOf es (seen.push (leftOf es seen)[j].born)).toList = (leftOf es seen).toList.eraseIdx j := by
      have g1 : leftOf es (seen.push (leftOf es seen)[j].born) = (leftOf es seen).filter (fun e => e.born != (leftOf es seen)[j].born) := by
        unfold leftOf
        rw [Array.filter_filter]
        congr 1
        funext e
        rw [contains_push]
        simp [Bool.not_or, bne]
        rw [Bool.and_comm]
      rw [g1, Array.toList_filter]
      have key : ∀ (l : List MapEntry) (j : Nat) (hj : j < l.length), (l.map (·.born)).Nodup → l.filter (fun e => e.born != l[j].born) = l.eraseIdx j := by
        intro l
        induction l with
        | nil => intro j hj; simp at hj
        | cons x l ih =>
          intro j hj hn
          simp only [List.map_cons, List.nodup_cons] at hn
          cases j with
          | zero =>
            simp only [List.getElem_cons_zero, List.eraseIdx_cons_zero, List.filter_cons, bne_self_eq_false, Bool.false_eq_true, if_false]
            refine List.filter_eq_self.2 fun y hy => ?_
            have : y.born ≠ x.born := fun e => hn.1 (e ▸ List.mem_map.2 ⟨y, hy, rfl⟩)
            simpa using this
          | succ j =>
            simp only [List.length_cons] at hj
            have hj' : j < l.length := by omega
            have hne' : (x.born != l[j].born) = true := by
              have : x.born ≠ l[j].born := fun e => hn.1 (e ▸ List.mem_map.2 ⟨l[j], List.getElem_mem hj', rfl⟩)
              simpa using this
            simp only [List.getElem_cons_succ, List.filter_cons, hne', if_true, List.eraseIdx_cons_succ]
            rw [ih j hj' hn.2]
      have := key (leftOf es seen).toList j (by simpa using hj) hndl
      simpa using this
    have hen' : enM enc (leftOf es (seen.push (leftOf es seen)[j].born)).toList (rem.eraseIdx j) := by
      rw [hleft]
      unfold enM at hen ⊢
      rw [← map_erase, hen, map_erase]
    have hb2 : (h.setIfInBounds it (.mapIter (some b) since (seen.push (leftOf es seen)[j].born) clock))[b]? = some (.map es clock) := by rw [hs.2.other b (Ne.symm hne)]; exact hb
    have hmemj : (leftOf es seen)[j] ∈ es.toList := by
      have : (leftOf es seen)[j] ∈ es.filter (fun e => !seen.contains e.born) := Array.getElem_mem hj
      have h2 := (Array.mem_filter.1 this).1
      exact Array.mem_toList_iff.2 h2
    have hfb : es.find? (·.born == (leftOf es seen)[j].born) = some (leftOf es seen)[j] := by rw [← Array.find?_toList]; exact find_born _ es.toList hnd hmemj
    simp only [Prod.mk.injEq] at hpair
    refine ⟨.tuple #[.bool true, enc rem[j].1, rem[j].2], _, _, ?_, hs.1, hd, hk rem[j] (rem.eraseIdx j) _ hperm ⟨_, hs.2⟩ ⟨es, clock, since, _, clock, hb2, hs.2.get, hold, hsl, hnd, hen', rfl⟩ ⟨b, es, clock, since, _, _, _, hb2, hs.2.get, Array.back?_push, hfb, hpair.1, hpair.2⟩⟩
    simp only [execOp, ev_eval hA hx, Instr.next]
    refine run_value _ _ _ _ ?_
    simp only [Sem.run_bind, hgi, Result.andThen_ok, hgb w rfl, next_test_false seen es since clock hold hsl, Bool.false_eq_true, if_false, e0, e1, e2, Array.append_empty, hne0, Array.empty_append, Array.size_map, hrun, Array.getElem?_map, Array.getElem?_eq_getElem hj, Option.map_some, hset, Sem.run_pure, hpair.1, hpair.2]

theorem ops_entry {x : Operand} {it : Nat} {k v : Value} (hx : ev E x = some (.pointer (some ⟨it, 0, none⟩))) (he : EntryAt h it k v) (hd : Nat.blt d C.n = true)
    (hk : Ops C all rest K ((d, .tuple #[k, v]) :: E) h) : Ops C all (⟨some d, .entry x, ty, pos, af, none⟩ :: rest) K E h := by
  obtain ⟨m, es, clock, since, seen, stamp, e, hb, hi, hback, hf, rfl, rfl⟩ := he
  refine ops_value (v := .tuple #[e.key, e.val]) rfl (by simp) hd (fun a w hA hw => ⟨w, ?_, hw⟩) hk
  have hgb : (getObj m).run C.P w = .ok (.map es clock) w := by simp [getObj, Sem.run, hw.heap, hb]
  have hgi : (getObj it).run C.P w = .ok (.mapIter (some m) since seen clock) w := by simp [getObj, Sem.run, hw.heap, hi]
  simp only [execOp, ev_eval hA hx, Instr.entry]
  refine run_value _ _ _ _ ?_
  simp only [Sem.run_bind, hgi, Result.andThen_ok, hback, hgb, bne_self_eq_false, Bool.false_eq_true, if_false, hf, Sem.run_pure]

/-! ### Equality of what has parts -/

theorem ops_eq {x y : Operand} {u v : List Value} {b : Bool} {q : TypeId} (hx : ev E x = some (.agg ⟨u⟩)) (hy : ev E y = some (.agg ⟨v⟩)) (hg : C.P.eqGuardType C.P.depth t = false)
    (heq : ∀ w, (Op.equal t (.agg ⟨u⟩) (.agg ⟨v⟩)).run C.P w = .ok b w) (hd : Nat.blt d C.n = true)
    (hk : Ops C all rest K ((d, .bool b) :: E) h) : Ops C all (⟨some d, .binOp .eql t x y q, ty, pos, af, none⟩ :: rest) K E h := by
  refine ops_value (v := .bool b) rfl (by simp) hd (fun a w hA hw => ⟨w, ?_, hw⟩) hk
  simp [execOp, ev_eval hA hx, ev_eval hA hy, eqGuard, hg, binOp, heq]
end
end Go.Gw
