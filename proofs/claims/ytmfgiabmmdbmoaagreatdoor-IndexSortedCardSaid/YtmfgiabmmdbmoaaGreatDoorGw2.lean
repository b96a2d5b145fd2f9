/-
  A part of the proofs of the laws of the index: what the functions of this program compute. Conditions: none beyond those that its theorems name.
-/
import Derived.Test.YtmfgiabmmdbmoaaGreatDoorGw1
import Derived.Lib.Strings
/-
  THE GROUND OF THE WALKS (2): the operations that only compute, evaluated by one function ('pv'); a run of them by one step ('ops_run').
-/
namespace Go.Gw

abbrev Bs := List UInt8
/-- A string as a value. -/
abbrev S (l : Bs) : Value := .string ⟨⟨l⟩⟩

inductive TK where
  | scal
  | bool
  | int (k : IntKind)
  | str
  | slice (e esz ebytes : Nat)
  | struct (fs : List (Nat × Nat × Bool))
  | arr (len e esz : Nat) (eagg : Bool)
  | map (k e : Nat)

structure TI where
  kind : TK
  size : Nat
  bytes : Nat
  zero : Value

def lookT : List (Nat × TI) → Nat → Option TI
  | [], _ => none
  | (k, v) :: E, t => bif Nat.beq k t then some v else lookT E t

def aggD : TypeDesc → Bool
  | .struct _ | .array _ _ => true
  | _ => false

def aggOf (P : Program) (t : Nat) : Bool := ((P.underlying t).map aggD).getD false

def KOk (P : Program) (t : Nat) : TK → Prop
  | .scal => ∃ d, P.underlying t = some d ∧ aggD d = false
  | .bool => P.underlying t = some .bool
  | .int k => P.underlying t = some (.int k)
  | .str => P.underlying t = some .string
  | .slice e esz eb => P.underlying t = some (.slice e) ∧ (P.info? e).map (fun i => (i.size, i.bytes)) = some (esz, eb)
  | .struct fs => ∃ gs : Array Field, P.underlying t = some (.struct gs) ∧ gs.toList.map (fun f => ((P.info? f.type).map (·.size)).map fun s => (f.offset, s, aggOf P f.type)) = fs.map some ∧ gs.toList.all (fun f => (P.underlying f.type).isSome) = true
  | .arr len e esz eagg => P.underlying t = some (.array len e) ∧ (P.info? e).map (·.size) = some esz ∧ (P.underlying e).map aggD = some eagg
  | .map k e => P.underlying t = some (.map k e)

def TIOk (P : Program) (t : Nat) (ti : TI) : Prop := KOk P t ti.kind ∧ (P.info? t).map (fun i => (i.size, i.bytes, i.zero)) = some (ti.size, ti.bytes, some ti.zero)

def TabOk (P : Program) : List (Nat × TI) → Prop
  | [] => True
  | (t, ti) :: T => TIOk P t ti ∧ TabOk P T

theorem tab_look {P : Program} {t : Nat} {ti : TI} : ∀ {T : List (Nat × TI)}, TabOk P T → lookT T t = some ti → TIOk P t ti
  | [], _, h => by simp [lookT] at h
  | (k, u) :: T, ⟨h1, h2⟩, h => by
    simp only [lookT] at h
    cases hb : Nat.beq k t with
    | true => simp only [hb, cond_true, Option.some.injEq] at h; subst h; have := Nat.eq_of_beq_eq_true hb; subst this; exact h1
    | false => simp only [hb, cond_false] at h; exact tab_look h2 h

section types
variable {P : Program} {w : World} {t : Nat}
theorem run_underlying' {d : TypeDesc} (h : P.underlying t = some d) : (underlying t).run P w = .ok d w := by
  simp [underlying, h]
theorem run_typeInfo' {i : TypeInfo} (h : P.info? t = some i) : (typeInfo t).run P w = .ok i w := by
  simp [typeInfo, h]
theorem run_sizeOf' {n : Nat} (h : (P.info? t).map (·.size) = some n) : (sizeOf t).run P w = .ok n w := by
  obtain ⟨i, h1, h2⟩ := Option.map_eq_some_iff.1 h
  simp [sizeOf, typeInfo, h1, h2]
theorem TIOk.info {ti : TI} (h : TIOk P t ti) : ∃ i, P.info? t = some i ∧ i.size = ti.size ∧ i.bytes = ti.bytes ∧ i.zero = some ti.zero := by
  obtain ⟨i, h1, h2⟩ := Option.map_eq_some_iff.1 h.2
  simp only [Prod.mk.injEq] at h2
  exact ⟨i, h1, h2.1, h2.2.1, h2.2.2⟩
theorem run_isAgg {d : TypeDesc} (h : P.underlying t = some d) : (isAgg t).run P w = .ok (aggD d) w := by
  simp only [isAgg, Sem.run_bind, run_underlying' h, Result.andThen_ok]
  cases d <;> rfl
end types

def inK : IntKind → Int → Prop
  | .i8, n => -128 ≤ n ∧ n ≤ 127
  | .i16, n => -32768 ≤ n ∧ n ≤ 32767
  | .i32, n => -2147483648 ≤ n ∧ n ≤ 2147483647
  | .i64, n => -9223372036854775808 ≤ n ∧ n ≤ 9223372036854775807
  | .u8, n => 0 ≤ n ∧ n ≤ 255
  | .u16, n => 0 ≤ n ∧ n ≤ 65535
  | .u32, n => 0 ≤ n ∧ n ≤ 4294967295
  | .u64, n => 0 ≤ n ∧ n ≤ 18446744073709551615

theorem wrap_inK {k : IntKind} {n : Int} (h : inK k n) : k.wrap n = n := by
  cases k <;> simp only [inK] at h <;> simp [IntKind.wrap, IntKind.signed, IntKind.bits] <;> omega

def bin (T : List (Nat × TI)) (op : BinOp) (t : Nat) : Value → Value → Option (Value × Option Prop)
  | .int k m, .int k' n =>
    if k = k' then
      match op with
      | .add => some (.int k (m + n), some (inK k (m + n)))
      | .sub => some (.int k (m - n), some (inK k (m - n)))
      | .mul => some (.int k (m * n), some (inK k (m * n)))
      | .quo => some (.int k (m / n), some (0 ≤ m ∧ 0 < n ∧ inK k (m / n)))
      | .rem => some (.int k (m % n), some (0 ≤ m ∧ 0 < n))
      | .eql => some (.bool (decide (m = n)), none)
      | .neq => some (.bool (decide (m ≠ n)), none)
      | .lss => some (.bool (decide (m < n)), none)
      | .leq => some (.bool (decide (m ≤ n)), none)
      | .gtr => some (.bool (decide (n < m)), none)
      | .geq => some (.bool (decide (n ≤ m)), none)
      | .shr => some (.int k (m / 2 ^ n.toNat), some (0 ≤ n ∧ n.toNat ≤ k.bits))
      | _ => none
    else none
  | .string ⟨⟨a⟩⟩, .string ⟨⟨b⟩⟩ =>
    match op with
    | .add => some (S (a ++ b), some (a.length + b.length ≤ 9223372036854775807))
    | .eql => some (.bool (decide (a = b)), none)
    | .neq => some (.bool (decide (a ≠ b)), none)
    | .lss => some (.bool (Op.bytesLess a b), none)
    | .leq => some (.bool (Op.bytesLess a b || decide (a = b)), none)
    | .gtr => some (.bool !(Op.bytesLess a b || decide (a = b)), none)
    | .geq => some (.bool !(Op.bytesLess a b), none)
    | _ => none
  | .bool a, .bool b =>
    match op, lookT T t with
    | .eql, some ⟨.bool, _, _, _⟩ => some (.bool (a == b), none)
    | .neq, some ⟨.bool, _, _, _⟩ => some (.bool (a != b), none)
    | _, _ => none
  | .slice a _ _, .slice none _ _ =>
    match op, lookT T t with
    | .eql, some ⟨.slice _ _ _, _, _, _⟩ => some (.bool a.isNone, none)
    | .neq, some ⟨.slice _ _ _, _, _, _⟩ => some (.bool (!a.isNone), none)
    | _, _ => none
  | _, _ => none

theorem toList_mk (a : List UInt8) : (ByteArray.mk ⟨a⟩).toList = a := Go.Lib.toList_data _
theorem beq_list (a b : List UInt8) : (a == b) = decide (a = b) := by
  by_cases h : a = b <;> simp [h]

theorem run_eqGuard_int {P : Program} (op : BinOp) (t : Nat) (xo yo : Operand) (k k' : IntKind) (m n : Int) (w : World) : (eqGuard op t xo yo (.int k m) (.int k' n)).run P w = .ok () w := by
  unfold eqGuard; split <;> rfl
theorem run_eqGuard_string {P : Program} (op : BinOp) (t : Nat) (xo yo : Operand) (m n : ByteArray) (w : World) : (eqGuard op t xo yo (.string m) (.string n)).run P w = .ok () w := by
  unfold eqGuard; split <;> rfl
theorem run_eqGuard_bool {P : Program} (op : BinOp) (t : Nat) (xo yo : Operand) (m n : Bool) (w : World) : (eqGuard op t xo yo (.bool m) (.bool n)).run P w = .ok () w := by
  unfold eqGuard; split <;> rfl

theorem run_equalIn_bool {P : Program} {t : Nat} (d : Nat) (h : P.underlying t = some .bool) (a b : Bool) (w : World) : (Op.equalIn (d + 1) t (.bool a) (.bool b)).run P w = .ok (a == b) w := by
  simp only [Op.equalIn, Sem.run_bind, run_underlying' h, Result.andThen_ok, Sem.run_pure]

theorem run_equalIn_slice {P : Program} {t e : Nat} (d : Nat) (h : P.underlying t = some (.slice e)) (a : Option Addr) (n c n' c' : Nat) (w : World) : (Op.equalIn (d + 1) t (.slice a n c) (.slice none n' c')).run P w = .ok a.isNone w := by
  simp only [Op.equalIn, Sem.run_bind, run_underlying' h, Result.andThen_ok]
  cases a <;> rfl

theorem max_i64 : IntKind.i64.max = 9223372036854775807 := by decide

theorem bin_sound {P : Program} {T : List (Nat × TI)} (hT : TabOk P T) {op : BinOp} {t : Nat} {x y v : Value} {c : Option Prop} (h : bin T op t x y = some (v, c)) (hc : ∀ φ, c = some φ → φ) (w : World) (xo yo : Operand) :
    (do eqGuard op t xo yo x y; binOp op t x y : Sem Value).run P w = .ok v w := by
  unfold bin at h
  split at h
  · rename_i k m k' n
    split at h
    · rename_i hk
      subst hk
      simp only [Sem.run_bind, run_eqGuard_int, Result.andThen_ok]
      split at h <;> first | (cases h; done) | skip
      all_goals (simp only [Option.some.injEq, Prod.mk.injEq] at h; obtain ⟨rfl, rfl⟩ := h)
      · have := hc _ rfl; simp [binOp, Op.intArith, wrap_inK this]
      · have := hc _ rfl; simp [binOp, Op.intArith, wrap_inK this]
      · have := hc _ rfl; simp [binOp, Op.intArith, wrap_inK this]
      · obtain ⟨h1, h2, h3⟩ := hc _ rfl
        have e : m.tdiv n = m / n := Int.tdiv_eq_ediv_of_nonneg h1
        have hn : n ≠ 0 := by omega
        simp [binOp, Op.intDiv, hn, e, wrap_inK h3]
      · obtain ⟨h1, h2⟩ := hc _ rfl
        have e : m.tmod n = m % n := Int.tmod_eq_emod_of_nonneg h1
        have hn : n ≠ 0 := by omega
        simp [binOp, Op.intDiv, hn, e]
      · simp only [binOp, Op.intCmp]; rw [if_neg (by simp)]; simp only [Sem.run_pure]; congr 2
      · simp only [binOp, Op.intCmp]; rw [if_neg (by simp)]; simp only [Sem.run_pure]; congr 2; by_cases e : m = n <;> simp [e]
      · simp only [binOp, Op.intCmp]; rw [if_neg (by simp)]; rfl
      · simp only [binOp, Op.intCmp]; rw [if_neg (by simp)]; rfl
      · simp only [binOp, Op.intCmp]; rw [if_neg (by simp)]; rfl
      · simp only [binOp, Op.intCmp]; rw [if_neg (by simp)]; rfl
      · obtain ⟨h1, h2⟩ := hc _ rfl
        have e : ¬ n < 0 := by omega
        have e2 : min n.toNat k.bits = n.toNat := Nat.min_eq_left h2
        have e3 : m.fdiv (2 ^ n.toNat) = m / 2 ^ n.toNat := Int.fdiv_eq_ediv_of_nonneg m (Int.le_of_lt (Int.pow_pos (by decide)))
        simp [binOp, Op.shift, e, e2, e3]
    · cases h
  · rename_i a b
    simp only [Sem.run_bind, run_eqGuard_string, Result.andThen_ok]
    split at h <;> first | (cases h; done) | skip
    all_goals (simp only [Option.some.injEq, Prod.mk.injEq] at h; obtain ⟨rfl, rfl⟩ := h)
    · have := hc _ rfl
      have e : ¬ ((((ByteArray.mk ⟨a⟩).size + (ByteArray.mk ⟨b⟩).size : Nat) : Int) > IntKind.i64.max) := by
        rw [max_i64]; simp [ByteArray.size]; omega
      simp only [binOp, Op.stringOp]
      rw [if_neg e]
      simp only [Sem.run_pure]
      congr 2
    all_goals simp [binOp, Op.stringOp, beq_list]
  · rename_i a b
    simp only [Sem.run_bind, run_eqGuard_bool, Result.andThen_ok]
    have key : ∀ {s b' z}, lookT T t = some ⟨.bool, s, b', z⟩ → (Op.equal t (.bool a) (.bool b)).run P w = .ok (a == b) w := fun hl => by
      have h1 := (tab_look hT hl).1
      simp only [KOk] at h1
      exact run_equalIn_bool 9999 h1 a b w
    split at h <;> first | (cases h; done) | skip
    all_goals (rename_i hl; simp only [Option.some.injEq, Prod.mk.injEq] at h; obtain ⟨rfl, rfl⟩ := h)
    · simp [binOp, key hl]
    · simp [binOp, key hl]; cases a <;> cases b <;> rfl
  · rename_i a n c n' c'
    have key : ∀ {e esz eb s b' z}, lookT T t = some ⟨.slice e esz eb, s, b', z⟩ → (Op.equal t (.slice a n c) (.slice none n' c')).run P w = .ok a.isNone w := fun hl => by
      have h1 := (tab_look hT hl).1
      simp only [KOk] at h1
      exact run_equalIn_slice 9999 h1.1 a n c n' c' w
    have hg : (eqGuard op t xo yo (.slice a n c) (.slice none n' c')).run P w = .ok () w := by unfold eqGuard; split <;> rfl
    simp only [Sem.run_bind, hg, Result.andThen_ok]
    split at h <;> first | (cases h; done) | skip
    all_goals (rename_i hl; simp only [Option.some.injEq, Prod.mk.injEq] at h; obtain ⟨rfl, rfl⟩ := h)
    · simp [binOp, key hl]
    · simp [binOp, key hl]
  · cases h

/-! ### One operation that only computes -/

/-- n elements of e cells each. -/
def scl (n : Nat) : Nat → Nat
  | 1 => n
  | e => n * e
theorem scl_eq (n e : Nat) : scl n e = n * e := by
  unfold scl; split <;> simp

def slA (a : Option Addr) (m l e : Nat) : Option Addr := if m = l then a else a.map (·.add (scl l e))

def sub0 (E : Env) (none' : Int) : Option Operand → Option Int
  | none => some none'
  | some x => match ev E x with
    | some (.int _ n) => some n
    | _ => none

def pvSliceS (E : Env) (l : Bs) : Option Operand → Option Operand → Option (Value × Option Prop)
  | none, none => some (S l, none)
  | some x, none => match ev E x with
    | some (.int _ i) => some (S (l.drop i.toNat), some (0 ≤ i ∧ i ≤ l.length))
    | _ => none
  | none, some y => match ev E y with
    | some (.int _ j) => some (S (l.take j.toNat), some (0 ≤ j ∧ j ≤ l.length))
    | _ => none
  | some x, some y => match ev E x, ev E y with
    | some (.int _ i), some (.int _ j) => some (S ((l.take j.toNat).drop i.toNat), some (0 ≤ i ∧ i ≤ j ∧ j ≤ l.length))
    | _, _ => none

def pvSlice (E : Env) (e : Nat) (a : Option Addr) (len cap : Nat) : Option Operand → Option Operand → Option Operand → Option (Value × Option Prop)
  | none, none, none => some (.slice a len cap, none)
  | some x, none, none => match ev E x with
    | some (.int _ i) => some (.slice (slA a cap i.toNat e) (len - i.toNat) (cap - i.toNat), some (0 ≤ i ∧ i ≤ len ∧ len ≤ cap))
    | _ => none
  | none, some y, none => match ev E y with
    | some (.int _ j) => some (.slice a j.toNat cap, some (0 ≤ j ∧ j ≤ cap))
    | _ => none
  | some x, some y, none => match ev E x, ev E y with
    | some (.int _ i), some (.int _ j) => some (.slice (slA a cap i.toNat e) (j.toNat - i.toNat) (cap - i.toNat), some (0 ≤ i ∧ i ≤ j ∧ j ≤ cap))
    | _, _ => none
  | none, some y, some z => match ev E y, ev E z with
    | some (.int _ j), some (.int _ m) => some (.slice a j.toNat m.toNat, some (0 ≤ j ∧ j ≤ m ∧ m ≤ cap))
    | _, _ => none
  | _, _, _ => none

def pvBuiltin (T : List (Nat × TI)) (b : Builtin) (ats : List TypeId) (vs : List Value) : Option (Value × Option Prop) :=
  match b, ats, vs with
  | .len, t :: _, [.string ⟨⟨l⟩⟩] => match lookT T t with
    | some ⟨.str, _, _, _⟩ => some (.int .i64 l.length, none)
    | _ => none
  | .len, t :: _, [.slice _ n _] => match lookT T t with
    | some ⟨.slice _ _ _, _, _, _⟩ => some (.int .i64 n, none)
    | _ => none
  | .cap, t :: _, [.slice _ _ c] => match lookT T t with
    | some ⟨.slice _ _ _, _, _, _⟩ => some (.int .i64 c, none)
    | _ => none
  | .max, _, [.int k x, .int _ y] => some (.int k (if y > x then y else x), none)
  | .max, _, [.int k x, .int _ y, .int _ z] => some (.int k (if z > (if y > x then y else x) then z else (if y > x then y else x)), none)
  | .min, _, [.int k x, .int _ y] => some (.int k (if y < x then y else x), none)
  | .min, _, [.int k x, .int _ y, .int _ z] => some (.int k (if z < (if y < x then y else x) then z else (if y < x then y else x)), none)
  | _, _, _ => none

def pvPart (cs : List Value) : Nat × Nat × Bool → Option Value
  | (off, _, false) => cs[off]?
  | (off, sz, true) => some (.agg ((cs.drop off).take sz).toArray)

/-- The cells from o on replaced. -/
def patch (cs : List Value) (o : Nat) (vs : List Value) : List Value := cs.take o ++ (vs ++ cs.drop (o + vs.length))

def fillS (place : Nat → Option (Nat × Nat)) : List Value → List (Nat × Value) → Option (List Value)
  | cs, [] => some cs
  | cs, (i, v) :: r => match place i with
    | none => none
    | some (o, s) => bif Nat.beq v.cells.toList.length s && Nat.ble (o + v.cells.toList.length) cs.length then fillS place (patch cs o v.cells.toList) r else none

def evParts (E : Env) : List (Nat × Operand) → Option (List (Nat × Value))
  | [] => some []
  | (i, x) :: xs => match ev E x, evParts E xs with
    | some v, some vs => some ((i, v) :: vs)
    | _, _ => none

def plS (fs : List (Nat × Nat × Bool)) (i : Nat) : Option (Nat × Nat) := match fs[i]? with
  | some (o, s, _) => some (o, s)
  | none => none

def pv (T : List (Nat × TI)) (E : Env) : Op → Option (Value × Option Prop)
  | .move x => match ev E x with | some v => some (v, none) | none => none
  | .assign x => match ev E x with | some v => some (v, none) | none => none
  | .pick c a b => match ev E c with
    | some (.bool true) => (match ev E a with | some v => some (v, none) | none => none)
    | some (.bool false) => (match ev E b with | some v => some (v, none) | none => none)
    | _ => none
  | .nilCheck x => match ev E x with
    | some (.pointer (some a)) => some (.pointer (some a), none)
    | _ => none
  | .unOp .not _ x => match ev E x with
    | some (.bool b) => some (.bool (!b), none)
    | _ => none
  | .unOp .neg _ x => match ev E x with
    | some (.int k n) => some (.int k (0 - n), some (inK k (0 - n)))
    | _ => none
  | .binOp op t x y _ => match ev E x, ev E y with
    | some u, some v => bin T op t u v
    | _, _ => none
  | .extract x i => match ev E x with
    | some (.tuple ⟨vs⟩) => (match vs[i]? with | some v => some (v, none) | none => none)
    | _ => none
  | .makeFunc fn ⟨first⟩ ⟨cap⟩ => match evs E first, evs E cap with
    | some f, some c => some (.func fn ⟨f⟩ ⟨c⟩, none)
    | _, _ => none
  | .fieldAddr t x f => match lookT T t, ev E x with
    | some ⟨.struct fs, _, _, _⟩, some (.pointer (some a)) => (match fs[f]? with
      | some (off, _ + 1, _) => some (.pointer (some (a.add off)), none)
      | _ => none)
    | _, _ => none
  | .field t x f => match lookT T t, ev E x with
    | some ⟨.struct fs, _, _, _⟩, some (.agg ⟨cs⟩) => (match fs[f]? with
      | some p => (match pvPart cs p with | some v => some (v, none) | none => none)
      | none => none)
    | _, _ => none
  | .indexAddr t x i => match lookT T t, ev E x, ev E i with
    | some ⟨.slice _ e _, _, _, _⟩, some (.slice (some a) n _), some (.int _ j) => some (.pointer (some (a.add (scl j.toNat e))), some (0 ≤ j ∧ j < n))
    | some ⟨.arr n _ e _, _, _, _⟩, some (.pointer (some a)), some (.int _ j) => some (.pointer (some (a.add (scl j.toNat e))), some (0 ≤ j ∧ j < n))
    | _, _, _ => none
  | .index t x i => match lookT T t, ev E x, ev E i with
    | some ⟨.str, _, _, _⟩, some (.string ⟨⟨l⟩⟩), some (.int _ j) => some (.int .u8 ((l[j.toNat]?).getD 0).toNat, some (0 ≤ j ∧ j < l.length))
    | _, _, _ => none
  | .slice t x lo hi mx => match lookT T t, ev E x with
    | some ⟨.str, _, _, _⟩, some (.string ⟨⟨l⟩⟩) => (match mx with | none => pvSliceS E l lo hi | some _ => none)
    | some ⟨.slice _ e _, _, _, _⟩, some (.slice a n c) => pvSlice E e a n c lo hi mx
    | some ⟨.arr n _ _ _, _, _, _⟩, some (.pointer (some a)) => (match lo, hi, mx with | none, none, none => some (.slice (some a) n n, none) | _, _, _ => none)
    | _, _ => none
  | .convert s t x => match lookT T s, lookT T t, ev E x with
    | some ⟨.int _, _, _, _⟩, some ⟨.int k, _, _, _⟩, some (.int _ n) => some (.int k n, some (inK k n))
    | some ⟨.int _, _, _, _⟩, some ⟨.str, _, _, _⟩, some (.int _ n) => some (S [UInt8.ofNat n.toNat], some (0 ≤ n ∧ n < 128))
    | _, _, _ => none
  | .call { callee := .builtin b, args := ⟨as⟩, argTypes := ⟨ts⟩ } => match evs E as with
    | some vs => pvBuiltin T b ts vs
    | none => none
  | .build t ⟨ps⟩ => match lookT T t, evParts E ps with
    | some ⟨.struct fs, _, _, z⟩, some vs => (match fillS (plS fs) z.cells.toList vs with | some cs => some (.agg ⟨cs⟩, none) | none => none)
    | some ⟨.arr _ _ e _, _, _, z⟩, some vs => (match fillS (fun i => some (scl i e, e)) z.cells.toList vs with | some cs => some (.agg ⟨cs⟩, none) | none => none)
    | _, _ => none
  | _ => none

/-! ### Its soundness -/
section sound
variable {P : Program} {T : List (Nat × TI)} {E : Env} {n : Nat} {D : List Deferred} {a : Act}

theorem run_value (s : Sem Value) (v : Value) (w w' : World) (h : s.run P w = .ok v w') : ((do pure (.value (← s)) : Sem Next)).run P w = .ok (.value v) w' := by
  simp [h]

theorem extract_mk (l : Bs) (i j : Nat) : (ByteArray.mk ⟨l⟩).extract i j = ByteArray.mk ⟨(l.take j).drop i⟩ := by
  apply ByteArray.ext
  apply Array.ext'
  rw [Go.Lib.extract_data]
  show List.take (j - i) (List.drop i l) = List.drop i (List.take j l)
  rw [List.drop_take]

theorem bound_ok (k : IntKind) (i : Int) (y : Nat) (c : BoundsCode) (w : World) (h : 0 ≤ i ∧ i ≤ y) : (Instr.sliceBound (.int k i) y c).run P w = .ok i.toNat w := by
  simp [Instr.sliceBound, asIntOf, h]

theorem pvSliceS_sound {l : Bs} {lo hi : Option Operand} {v : Value} {c : Option Prop} {t : Nat} (ht : P.underlying t = some .string) (hA : Agree n D E a) (h : pvSliceS E l lo hi = some (v, c)) (hc : ∀ φ, c = some φ → φ) (w : World) :
    (Instr.slice t (S l) (lo.map a.eval) (hi.map a.eval) none).run P w = .ok v w := by
  have h0 : (ByteArray.mk ⟨l⟩).size = l.length := rfl
  unfold Instr.slice
  simp only [Sem.run_bind, run_underlying' ht, Result.andThen_ok]
  cases lo with
  | none =>
    cases hi with
    | none =>
      simp only [pvSliceS, Option.some.injEq, Prod.mk.injEq] at h
      obtain ⟨rfl, rfl⟩ := h
      simp [Instr.sliceBounds, extract_mk, h0]
    | some y =>
      simp only [pvSliceS] at h
      split at h <;> simp only [Option.some.injEq, Prod.mk.injEq, reduceCtorEq] at h
      rename_i k j hy
      obtain ⟨rfl, rfl⟩ := h
      have hb := hc _ rfl
      have e := ev_eval hA hy
      simp [Instr.sliceBounds, e, h0, bound_ok (P := P) k j l.length _ w hb, extract_mk]
  | some x =>
    cases hi with
    | none =>
      simp only [pvSliceS] at h
      split at h <;> simp only [Option.some.injEq, Prod.mk.injEq, reduceCtorEq] at h
      rename_i k i hx
      obtain ⟨rfl, rfl⟩ := h
      have hb := hc _ rfl
      have e := ev_eval hA hx
      simp [Instr.sliceBounds, e, h0, bound_ok (P := P) k i l.length _ w hb, extract_mk]
    | some y =>
      simp only [pvSliceS] at h
      split at h <;> simp only [Option.some.injEq, Prod.mk.injEq, reduceCtorEq] at h
      rename_i k i k' j hx hy
      obtain ⟨rfl, rfl⟩ := h
      have hb := hc _ rfl
      have e := ev_eval hA hx
      have e' := ev_eval hA hy
      simp [Instr.sliceBounds, e, e', h0, bound_ok (P := P) k' j l.length _ w (by omega), bound_ok (P := P) k i j.toNat _ w (by omega), extract_mk]

theorem size_of_two {e esz eb : Nat} (he : (P.info? e).map (fun i => (i.size, i.bytes)) = some (esz, eb)) : (P.info? e).map (·.size) = some esz := by
  obtain ⟨i, h1, h2⟩ := Option.map_eq_some_iff.1 he
  simp only [Prod.mk.injEq] at h2
  rw [h1, ← h2.1]; rfl

theorem slA_eq (b : Option Addr) (m l e : Nat) : (if m = l then b else b.map (·.add (l * e))) = slA b m l e := by
  unfold slA; rw [scl_eq]

theorem slA_zero (b : Option Addr) : b.map (fun x => x.add 0) = b := by
  cases b <;> simp [Addr.add]

theorem pvSlice_sound {e e' eb : Nat} {b : Option Addr} {len cap : Nat} {lo hi mx : Option Operand} {v : Value} {c : Option Prop} {t : Nat} (ht : P.underlying t = some (.slice e')) (he : (P.info? e').map (fun i => (i.size, i.bytes)) = some (e, eb))
    (hA : Agree n D E a) (h : pvSlice E e b len cap lo hi mx = some (v, c)) (hc : ∀ φ, c = some φ → φ) (w : World) :
    (Instr.slice t (.slice b len cap) (lo.map a.eval) (hi.map a.eval) (mx.map a.eval)).run P w = .ok v w := by
  have hs : ∀ w : World, (sizeOf e').run P w = .ok e w := fun w => run_sizeOf' (by
    obtain ⟨i, h1, h2⟩ := Option.map_eq_some_iff.1 he
    simp only [Prod.mk.injEq] at h2
    rw [h1, ← h2.1]; rfl)
  unfold Instr.slice
  simp only [Sem.run_bind, run_underlying' ht, Result.andThen_ok]
  unfold pvSlice at h
  split at h
  · simp only [Option.some.injEq, Prod.mk.injEq] at h
    obtain ⟨rfl, rfl⟩ := h
    simp [Instr.sliceBounds, hs, slA_zero]
  · split at h <;> simp only [Option.some.injEq, Prod.mk.injEq, reduceCtorEq] at h
    rename_i k i hx
    obtain ⟨rfl, rfl⟩ := h
    have hb := hc _ rfl
    simp [Instr.sliceBounds, hs, ev_eval hA hx, bound_ok (P := P) k i len _ w (by omega), slA_eq]
  · split at h <;> simp only [Option.some.injEq, Prod.mk.injEq, reduceCtorEq] at h
    rename_i k i hx
    obtain ⟨rfl, rfl⟩ := h
    have hb := hc _ rfl
    simp [Instr.sliceBounds, hs, ev_eval hA hx, bound_ok (P := P) k i cap _ w hb, slA_zero]
  · split at h <;> simp only [Option.some.injEq, Prod.mk.injEq, reduceCtorEq] at h
    rename_i k i k' j hx hy
    obtain ⟨rfl, rfl⟩ := h
    have hb := hc _ rfl
    simp [Instr.sliceBounds, hs, ev_eval hA hx, ev_eval hA hy, bound_ok (P := P) k' j cap _ w (by omega), bound_ok (P := P) k i j.toNat _ w (by omega), slA_eq]
  · split at h <;> simp only [Option.some.injEq, Prod.mk.injEq, reduceCtorEq] at h
    rename_i k i k' j hx hy
    obtain ⟨rfl, rfl⟩ := h
    have hb := hc _ rfl
    simp [Instr.sliceBounds, hs, ev_eval hA hx, ev_eval hA hy, bound_ok (P := P) k' j cap _ w (by omega), bound_ok (P := P) k i j.toNat _ w (by omega), slA_zero]
  · cases h

theorem pvBuiltin_sound (hT : TabOk P T) {b : Builtin} {ts : List TypeId} {vs : List Value} {v : Value} {c : Option Prop} (h : pvBuiltin T b ts vs = some (v, c)) (ty : TypeId) (cs : Array Bool) (w : World) :
    (builtin b ⟨ts⟩ ty cs ⟨vs⟩).run P w = .ok (.value v) w := by
  unfold pvBuiltin at h
  split at h
  · split at h <;> simp only [Option.some.injEq, Prod.mk.injEq, reduceCtorEq] at h
    rename_i l _ _ _ _ hl
    obtain ⟨rfl, rfl⟩ := h
    have h1 := (tab_look hT hl).1
    simp only [KOk] at h1
    have h0 : (ByteArray.mk ⟨l⟩).size = l.length := rfl
    simp [builtin, Builtin.len_, run_underlying' h1, goInt, h0]
  · split at h <;> simp only [Option.some.injEq, Prod.mk.injEq, reduceCtorEq] at h
    rename_i hl
    obtain ⟨rfl, rfl⟩ := h
    have h1 := (tab_look hT hl).1
    simp only [KOk] at h1
    simp [builtin, Builtin.len_, run_underlying' h1.1, goInt]
  · split at h <;> simp only [Option.some.injEq, Prod.mk.injEq, reduceCtorEq] at h
    rename_i hl
    obtain ⟨rfl, rfl⟩ := h
    have h1 := (tab_look hT hl).1
    simp only [KOk] at h1
    simp [builtin, Builtin.cap_, run_underlying' h1.1, goInt]
  all_goals first | (cases h; done) | (simp only [Option.some.injEq, Prod.mk.injEq] at h; obtain ⟨rfl, rfl⟩ := h; simp [builtin, Builtin.max_, Builtin.min_, Builtin.max2, Builtin.min2])

theorem pvPart_sound {f : Field} {s : Nat} {cs : List Value} {v : Value} {g : Bool} (hs : (P.info? f.type).map (·.size) = some s) (hu : (P.underlying f.type).isSome = true) (hg : aggOf P f.type = g) (h : pvPart cs (f.offset, s, g) = some v) (w : World) :
    (part f.type ⟨cs⟩ f.offset).run P w = .ok v w := by
  obtain ⟨d, hd⟩ := Option.isSome_iff_exists.1 hu
  have hg' : aggD d = g := by rw [← hg]; simp [aggOf, hd]
  unfold part
  simp only [Sem.run_bind, run_isAgg hd, Result.andThen_ok, hg']
  cases g with
  | false =>
    simp only [pvPart] at h
    simp [h]
  | true =>
    simp only [pvPart, Option.some.injEq] at h
    subst h
    simp [run_sizeOf' hs, List.take_drop]

theorem structField {t : Nat} {fs : List (Nat × Nat × Bool)} (hk : KOk P t (.struct fs)) {f : Nat} {p : Nat × Nat × Bool} (hf : fs[f]? = some p) :
    ∃ (gs : Array Field) (g : Field), P.underlying t = some (.struct gs) ∧ gs[f]? = some g ∧ g.offset = p.1 ∧ (P.info? g.type).map (·.size) = some p.2.1 ∧ aggOf P g.type = p.2.2 ∧ (P.underlying g.type).isSome = true := by
  obtain ⟨gs, h1, h2, h3⟩ := hk
  have h4 : (fs.map some)[f]? = some (some p) := by simp [hf]
  rw [← h2, List.getElem?_map] at h4
  obtain ⟨g, h5, h6⟩ := Option.map_eq_some_iff.1 h4
  obtain ⟨s, h7, h8⟩ := Option.map_eq_some_iff.1 h6
  subst h8
  refine ⟨gs, g, h1, by simpa using h5, rfl, h7, rfl, ?_⟩
  exact List.all_eq_true.1 h3 g (List.mem_of_getElem? h5)

theorem foldl_patch (vs : List Value) : ∀ (k o : Nat) (cs : Array Value), o + k + vs.length ≤ cs.size → ((vs.zipIdx k).foldl (fun cs (c, j) => cs.setIfInBounds (o + j) c) cs).toList = patch cs.toList (o + k) vs := by
  induction vs with
  | nil => intro k o cs _; simp [patch]
  | cons v vs ih =>
    intro k o cs h
    simp only [List.length_cons] at h
    simp only [List.zipIdx_cons, List.foldl_cons]
    rw [ih (k + 1) o _ (by simp; omega)]
    simp only [patch, Array.toList_setIfInBounds, List.length_cons]
    have hlt : o + k < cs.toList.length := by simp; omega
    rw [show o + (k + 1) = o + k + 1 by omega, List.take_succ_eq_append_getElem (by simpa using hlt)]
    rw [List.take_set_of_le (by omega)]
    simp only [List.getElem_set_self, List.append_assoc, List.cons_append, List.nil_append]
    rw [List.drop_set_of_lt (by omega)]
    rw [show o + k + 1 + vs.length = o + k + (vs.length + 1) by omega]

theorem fillS_sound {place : Nat → Option (Nat × Nat)} : ∀ {ps : List (Nat × Value)} {cs cs' : List Value}, fillS place cs ps = some cs' → Instr.fill place ⟨cs⟩ ps = some ⟨cs'⟩
  | [], cs, cs', h => by simp only [fillS, Option.some.injEq] at h; subst h; rfl
  | (i, v) :: r, cs, cs', h => by
    simp only [fillS] at h
    unfold Instr.fill
    cases hp : place i with
    | none => rw [hp] at h; cases h
    | some os =>
      obtain ⟨o, s⟩ := os
      rw [hp] at h
      simp only at h
      cases hb : (Nat.beq v.cells.toList.length s && Nat.ble (o + v.cells.toList.length) cs.length) with
      | false => rw [hb] at h; cases h
      | true =>
        rw [hb] at h
        simp only [cond_true] at h
        simp only [Bool.and_eq_true, Nat.ble_eq, Array.length_toList] at hb
        have hb1 := Nat.eq_of_beq_eq_true hb.1
        have h1 : ¬ ((v.cells.size ≠ s || decide (o + v.cells.size > (⟨cs⟩ : Array Value).size)) = true) := by
          simp only [Bool.or_eq_true, decide_eq_true_eq, not_or]; exact ⟨by simp [hb1], by simp; omega⟩
        simp only [h1]
        have h2 : v.cells.zipIdx.foldl (fun cs (c, j) => cs.setIfInBounds (o + j) c) (⟨cs⟩ : Array Value) = ⟨patch cs o v.cells.toList⟩ := by
          apply Array.ext'
          rw [← Array.foldl_toList, Array.toList_zipIdx]
          have := foldl_patch v.cells.toList 0 o ⟨cs⟩ (by simpa using hb.2)
          simpa using this
        rw [show (v.cells.zipIdx.foldl (fun cs x => cs.setIfInBounds (o + x.2) x.1) (⟨cs⟩ : Array Value)) = ⟨patch cs o v.cells.toList⟩ from h2]
        exact fillS_sound h

theorem evParts_eval (hA : Agree n D E a) : ∀ {xs : List (Nat × Operand)} {vs : List (Nat × Value)}, evParts E xs = some vs → xs.map (fun (i, x) => (i, a.eval x)) = vs
  | [], vs, h => by simpa [evParts] using h
  | (i, x) :: xs, vs, h => by
    simp only [evParts] at h
    split at h
    · rename_i v vs' h1 h2
      cases h
      have := evParts_eval hA h2
      simp only [List.map_cons, ev_eval hA h1, List.cons.injEq, true_and]
      exact this
    · cases h

theorem run_places (fs : List (Nat × Nat × Bool)) : ∀ (gs : List Field) (_ : gs.map (fun f => ((P.info? f.type).map (·.size)).map fun s => (f.offset, s, aggOf P f.type)) = fs.map some) (w : World),
    (gs.mapM fun f => do pure (f.offset, ← sizeOf f.type) : Sem (List (Nat × Nat))).run P w = .ok (fs.map fun p => (p.1, p.2.1)) w := by
  induction fs with
  | nil => intro gs h w; cases gs with
    | nil => simp
    | cons g gs => simp at h
  | cons p fs ih => intro gs h w; cases gs with
    | nil => simp at h
    | cons g gs =>
      simp only [List.map_cons, List.cons.injEq] at h
      obtain ⟨h1, h2⟩ := h
      obtain ⟨s, h3, h4⟩ := Option.map_eq_some_iff.1 h1
      subst h4
      have := ih gs h2 w
      simp only [List.mapM_cons, Sem.run_bind, run_sizeOf' h3, Result.andThen_ok, Sem.run_pure, this, List.map_cons]

theorem plS_eq (fs : List (Nat × Nat × Bool)) : ((fs.map fun p => (p.1, p.2.1)).toArray[·]?) = plS fs := by
  funext i
  unfold plS
  simp only [List.getElem?_toArray, List.getElem?_map]
  cases fs[i]? with
  | none => rfl
  | some p => obtain ⟨a, b, c⟩ := p; rfl

theorem pv_sound (hT : TabOk P T) (hA : Agree n D E a) {op : Op} {v : Value} {c : Option Prop} (h : pv T E op = some (v, c)) (hc : ∀ φ, c = some φ → φ) (dst : Option Tmp) (ty : TypeId) (pos : String) (after : Array Edge) (w : World) :
    (execOp a.eval ⟨dst, op, ty, pos, after, none⟩).run P w = .ok (.value v) w := by
  unfold pv at h
  split at h
  · -- move
    split at h <;> simp only [Option.some.injEq, Prod.mk.injEq, reduceCtorEq] at h
    rename_i hx
    obtain ⟨rfl, rfl⟩ := h
    simp [execOp, ev_eval hA hx]
  · split at h <;> simp only [Option.some.injEq, Prod.mk.injEq, reduceCtorEq] at h
    rename_i hx
    obtain ⟨rfl, rfl⟩ := h
    simp [execOp, ev_eval hA hx]
  · -- pick
    split at h
    · rename_i hx
      split at h <;> simp only [Option.some.injEq, Prod.mk.injEq, reduceCtorEq] at h
      rename_i hy
      obtain ⟨rfl, rfl⟩ := h
      simp [execOp, ev_eval hA hx, ev_eval hA hy, asBool]
    · rename_i hx
      split at h <;> simp only [Option.some.injEq, Prod.mk.injEq, reduceCtorEq] at h
      rename_i hy
      obtain ⟨rfl, rfl⟩ := h
      simp [execOp, ev_eval hA hx, ev_eval hA hy, asBool]
    · cases h
  · -- nilCheck
    split at h <;> simp only [Option.some.injEq, Prod.mk.injEq, reduceCtorEq] at h
    rename_i hx
    obtain ⟨rfl, rfl⟩ := h
    simp [execOp, ev_eval hA hx]
  · split at h <;> simp only [Option.some.injEq, Prod.mk.injEq, reduceCtorEq] at h
    rename_i hx
    obtain ⟨rfl, rfl⟩ := h
    simp [execOp, ev_eval hA hx, Op.unary]
  · split at h <;> simp only [Option.some.injEq, Prod.mk.injEq, reduceCtorEq] at h
    rename_i hx
    obtain ⟨rfl, rfl⟩ := h
    have := wrap_inK (hc _ rfl)
    simp only [Int.zero_sub] at this
    simp [execOp, ev_eval hA hx, Op.unary, Op.intArith, this]
  · -- binOp
    split at h
    · rename_i hx hy
      have := bin_sound hT h hc w
      simp only [execOp, ev_eval hA hx, ev_eval hA hy]
      exact run_value _ _ _ _ (this _ _)
    · cases h
  · -- extract
    split at h
    · rename_i vs hx
      split at h <;> simp only [Option.some.injEq, Prod.mk.injEq, reduceCtorEq] at h
      rename_i hi
      obtain ⟨rfl, rfl⟩ := h
      simp [execOp, ev_eval hA hx, Instr.extract, hi]
    · cases h
  · -- makeFunc
    split at h <;> simp only [Option.some.injEq, Prod.mk.injEq, reduceCtorEq] at h
    rename_i h1 h2
    obtain ⟨rfl, rfl⟩ := h
    simp [execOp, Instr.makeFunc, evs_eval hA h1, evs_eval hA h2]
  · -- fieldAddr
    split at h
    · rename_i hl hx
      split at h <;> simp only [Option.some.injEq, Prod.mk.injEq, reduceCtorEq] at h
      rename_i hf
      obtain ⟨rfl, rfl⟩ := h
      have h1 := (tab_look hT hl).1
      obtain ⟨gs, g, hu, hg, ho, hs, _, _⟩ := structField h1 hf
      simp only at ho hs
      simp [execOp, ev_eval hA hx, Instr.fieldAt, run_underlying' hu, hg, Instr.sureAddr, fieldPlace, run_sizeOf' hs, ho]
    · cases h
  · -- field
    split at h
    · rename_i hl hx
      split at h
      · rename_i p hf
        split at h <;> simp only [Option.some.injEq, Prod.mk.injEq, reduceCtorEq] at h
        rename_i hp
        obtain ⟨rfl, rfl⟩ := h
        have h1 := (tab_look hT hl).1
        obtain ⟨gs, g, hu, hg, ho, hs, ha, hi⟩ := structField h1 hf
        obtain ⟨p1, p2, p3⟩ := p
        simp only at ho hs ha
        subst ho
        have := pvPart_sound (P := P) hs hi ha hp w
        simp [execOp, ev_eval hA hx, Instr.field, run_underlying' hu, hg, asAgg, this]
      · cases h
    · cases h
  · -- indexAddr
    split at h <;> simp only [Option.some.injEq, Prod.mk.injEq, reduceCtorEq] at h
    · rename_i hl hx hi
      obtain ⟨rfl, rfl⟩ := h
      have hb := hc _ rfl
      have h1 := (tab_look hT hl).1
      obtain ⟨hu, he⟩ := h1
      simp [execOp, ev_eval hA hx, ev_eval hA hi, Instr.indexAt, asIntOf, run_underlying' hu, hb, run_sizeOf' (size_of_two he), scl_eq]
    · rename_i hl hx hi
      obtain ⟨rfl, rfl⟩ := h
      have hb := hc _ rfl
      have h1 := (tab_look hT hl).1
      obtain ⟨hu, he, _⟩ := h1
      simp [execOp, ev_eval hA hx, ev_eval hA hi, Instr.indexAt, asIntOf, run_underlying' hu, hb, run_sizeOf' he, scl_eq, Instr.sureAddr]
  · -- index
    split at h <;> simp only [Option.some.injEq, Prod.mk.injEq, reduceCtorEq] at h
    rename_i l _ j hl hx hi
    obtain ⟨rfl, rfl⟩ := h
    have hb := hc _ rfl
    have h1 := (tab_look hT hl).1
    simp only [KOk] at h1
    have hlt : j.toNat < l.length := by omega
    have e : (ByteArray.mk ⟨l⟩)[j.toNat]? = some l[j.toNat] := by
      have h2 : j.toNat < (ByteArray.mk ⟨l⟩).size := hlt
      rw [getElem?_pos (ByteArray.mk ⟨l⟩) j.toNat h2]
      rfl
    simp [execOp, ev_eval hA hx, ev_eval hA hi, Instr.index, asIntOf, run_underlying' h1, hb.1, e, hlt]
  · -- slice
    split at h
    · rename_i hl hx
      split at h
      · have h1 := (tab_look hT hl).1
        simp only [KOk] at h1
        simp only [execOp, Instr.sliceAt, Sem.run_bind, run_underlying' h1, Result.andThen_ok, ev_eval hA hx, Option.map_none, pvSliceS_sound h1 hA h hc w]
        rfl
      · cases h
    · rename_i hl hx
      have h1 := (tab_look hT hl).1
      simp only [KOk] at h1
      simp only [execOp, Instr.sliceAt, Sem.run_bind, run_underlying' h1.1, Result.andThen_ok, ev_eval hA hx, pvSlice_sound h1.1 h1.2 hA h hc w]
      rfl
    · rename_i hl hx
      split at h <;> simp only [Option.some.injEq, Prod.mk.injEq, reduceCtorEq] at h
      obtain ⟨rfl, rfl⟩ := h
      have h1 := (tab_look hT hl).1
      obtain ⟨hu, he, _⟩ := h1
      simp [execOp, ev_eval hA hx, Instr.sliceAt, run_underlying' hu, Instr.sureAddr, Instr.sliceBounds, run_sizeOf' he, Addr.add]
    · cases h
  · -- convert
    split at h <;> simp only [Option.some.injEq, Prod.mk.injEq, reduceCtorEq] at h
    · rename_i hs ht hx
      obtain ⟨rfl, rfl⟩ := h
      have h1 := (tab_look hT hs).1
      have h2 := (tab_look hT ht).1
      simp only [KOk] at h1 h2
      simp [execOp, ev_eval hA hx, convert, run_underlying' h1, run_underlying' h2, Conv.intToInt, wrap_inK (hc _ rfl)]
    · rename_i m hs ht hx
      obtain ⟨rfl, rfl⟩ := h
      have h1 := (tab_look hT hs).1
      have h2 := (tab_look hT ht).1
      simp only [KOk] at h1 h2
      have hb := hc _ rfl
      have e : Utf8.encode m = ⟨⟨[UInt8.ofNat m.toNat]⟩⟩ := by
        have hv : Utf8.valid m = true := by unfold Utf8.valid; simp; omega
        unfold Utf8.encode
        simp only [hv, if_true]
        rw [if_pos (by omega)]
      simp [execOp, ev_eval hA hx, convert, run_underlying' h1, run_underlying' h2, Conv.intToString, e]
  · -- builtin
    split at h
    · rename_i hx
      simp only [execOp, resolve, Sem.run_bind, Sem.run_pure, Result.andThen_ok, invoke]
      rw [evs_array hA hx]
      exact pvBuiltin_sound hT h _ _ w
    · cases h
  · -- build
    split at h
    · rename_i t ps _ _ fs _ _ z vs hl hx
      split at h <;> simp only [Option.some.injEq, Prod.mk.injEq, reduceCtorEq] at h
      rename_i cs hf
      obtain ⟨rfl, rfl⟩ := h
      obtain ⟨gs, hg, hgs, _⟩ := (tab_look hT hl).1
      obtain ⟨i, hi, _, _, hz⟩ := (tab_look hT hl).info
      have hp := run_places (P := P) fs gs.toList hgs w
      have hp' : (gs.mapM fun f => do pure (f.offset, ← sizeOf f.type) : Sem (Array (Nat × Nat))).run P w = .ok (fs.map fun p => (p.1, p.2.1)).toArray w := by
        obtain ⟨gl⟩ := gs
        rw [List.mapM_toArray]
        simp only [Sem.run_map, hp]
        rfl
      have hx' : (⟨ps⟩ : Array (Nat × Operand)).map (fun (i, x) => (i, a.eval x)) = ⟨vs⟩ := by
        have := evParts_eval hA hx
        simpa using this
      have hf' := fillS_sound hf
      rw [← plS_eq] at hf'
      have hzr : (zeroValue t).run P w = .ok z w := by simp [zeroValue, run_typeInfo' hi, hz]
      simp only [execOp, hx', Instr.build, Sem.run_bind, hzr, Result.andThen_ok, run_underlying' hg, hp', hf', Sem.run_pure]
    · rename_i t ps _ _ len e0 e g _ _ z vs hl hx
      split at h <;> simp only [Option.some.injEq, Prod.mk.injEq, reduceCtorEq] at h
      rename_i cs hf
      obtain ⟨rfl, rfl⟩ := h
      obtain ⟨hu, he, _⟩ := (tab_look hT hl).1
      obtain ⟨i, hi, _, _, hz⟩ := (tab_look hT hl).info
      have hx' : (⟨ps⟩ : Array (Nat × Operand)).map (fun (i, x) => (i, a.eval x)) = ⟨vs⟩ := by
        have := evParts_eval hA hx
        simpa using this
      have hf' := fillS_sound hf
      simp only [scl_eq] at hf'
      have hzr : (zeroValue t).run P w = .ok z w := by simp [zeroValue, run_typeInfo' hi, hz]
      simp only [execOp, hx', Instr.build, Sem.run_bind, hzr, Result.andThen_ok, run_underlying' hu, run_sizeOf' he, hf', Sem.run_pure]
    · cases h
  · cases h
end sound

/-! ### A run of such operations -/

/-- The guard of an operation: is it to be carried out? -/
def isUndef : Value → Bool
  | .tuple ⟨[]⟩ => true
  | _ => false

/-- Does the guard say yes? -/
def guardOf (all : List Oper) (E : Env) (j : Nat) (want : Bool) : Option Bool :=
  match all[j]? with
  | some ⟨some t, _, _, _, _, _⟩ => match look E t with
    | some (.bool true) => some want
    | some (.bool false) => some (!want)
    | some (.tuple ⟨[]⟩) => some false
    | _ => none
  | _ => none

/-- At most so many operations of a region that only compute. -/
def runP (T : List (Nat × TI)) (n : Nat) (all : List Oper) : Nat → List Oper → Env → Prop → Env × Prop × List Oper
  | 0, l, E, φ => (E, φ, l)
  | _ + 1, [], E, φ => (E, φ, [])
  | m + 1, ⟨dst, op, ty, pos, af, none⟩ :: rest, E, φ =>
    match dst with
    | none => (E, φ, ⟨dst, op, ty, pos, af, none⟩ :: rest)
    | some d => bif Nat.blt d n then (match pv T E op with
      | some (v, none) => runP T n all m rest ((d, v) :: E) φ
      | some (v, some ψ) => runP T n all m rest ((d, v) :: E) (ψ ∧ φ)
      | none => (E, φ, ⟨dst, op, ty, pos, af, none⟩ :: rest)) else (E, φ, ⟨dst, op, ty, pos, af, none⟩ :: rest)
  | m + 1, ⟨dst, op, ty, pos, af, some (j, want)⟩ :: rest, E, φ =>
    match dst with
    | none => (E, φ, ⟨dst, op, ty, pos, af, some (j, want)⟩ :: rest)
    | some d => bif Nat.blt d n then (match guardOf all E j want with
      | some false => runP T n all m rest ((d, undef) :: E) φ
      | some true => (match pv T E op with
        | some (v, none) => runP T n all m rest ((d, v) :: E) φ
        | some (v, some ψ) => runP T n all m rest ((d, v) :: E) (ψ ∧ φ)
        | none => (E, φ, ⟨dst, op, ty, pos, af, none⟩ :: rest))
      | none => (E, φ, ⟨dst, op, ty, pos, af, some (j, want)⟩ :: rest)) else (E, φ, ⟨dst, op, ty, pos, af, some (j, want)⟩ :: rest)

theorem yielded_undef {n : Nat} {D : List Deferred} {E : Env} {a : Act} {all : List Oper} {j t : Nat} (hA : Agree n D E a) (hj : (all[j]?).bind (·.dst) = some t) (ht : look E t = some undef) : yielded all.toArray a.tmps j = none := by
  have h1 := hA.slots t _ ht
  unfold yielded
  simp only [List.getElem?_toArray, hj, Option.bind_some]
  rcases Nat.lt_or_ge t a.tmps.size with hlt | hge
  · simp only [Array.getElem?_eq_getElem hlt]
    simp only [Array.getD, hlt, dif_pos] at h1
    have h2 : a.tmps[t] = undef := h1
    rw [h2]; rfl
  · simp [hge]

theorem ops_guard_undef {C : Cx} {E : Env} {h : Hp} {all rest : List Oper} {K : Env → Hp → Prop} {o : Oper} {j t : Nat} {b' : Bool} (hg : o.guard = some (j, b')) (hj : (all[j]?).bind (·.dst) = some t) (ht : look E t = some undef) (hd : dstOk C.n o.dst = true)
    (hx : Ops C all rest K (bind o.dst undef E) h) : Ops C all (o :: rest) K E h := fun a w hA hw => by
  have hy := yielded_undef hA hj ht
  simp only [wpListIn, Region.wanted, hg, hy]
  exact ⟨fun _ _ => trivial, hx _ _ (hA.bind hd undef) hw⟩

theorem guardOf_spec {all : List Oper} {E : Env} {j : Nat} {want b : Bool} (h : guardOf all E j want = some b) : ∃ t, (all[j]?).bind (·.dst) = some t ∧
    ((b = true ∧ look E t = some (.bool want)) ∨ (b = false ∧ look E t = some (.bool !want)) ∨ (b = false ∧ look E t = some undef)) := by
  unfold guardOf at h
  split at h
  · rename_i t _ _ _ _ _ ha
    refine ⟨t, by rw [ha]; rfl, ?_⟩
    split at h <;> simp only [Option.some.injEq, reduceCtorEq] at h
    · rename_i hl; subst h; cases want <;> simp [hl]
    · rename_i hl; subst h; cases want <;> simp [hl]
    · rename_i hl; subst h; exact .inr (.inr ⟨rfl, hl⟩)
  · cases h

theorem ops_pv {C : Cx} {T : List (Nat × TI)} (hT : TabOk C.P T) {all rest : List Oper} {K : Env → Hp → Prop} {E : Env} {h : Hp} {dst : Option Tmp} {op : Op} {ty : TypeId} {pos : String} {af : Array Edge} {v : Value} {c : Option Prop}
    (hp : pv T E op = some (v, c)) (hc : ∀ φ, c = some φ → φ) (hd : dstOk C.n dst = true) (hx : Ops C all rest K (bind dst v E) h) : Ops C all (⟨dst, op, ty, pos, af, none⟩ :: rest) K E h := by
  refine ops_value rfl ?_ hd (fun a w hA hw => ⟨w, pv_sound hT hA hp hc dst ty pos af w, hw⟩) hx
  intro c e
  have e' : op = .defer c := e
  rw [e'] at hp
  simp [pv] at hp

theorem runP_sound {C : Cx} {T : List (Nat × TI)} (hT : TabOk C.P T) {all : List Oper} {K : Env → Hp → Prop} {h : Hp} : ∀ (m : Nat) (l : List Oper) (E : Env) (φ : Prop) (E' : Env) (φ' : Prop) (l' : List Oper),
    runP T C.n all m l E φ = (E', φ', l') → (φ' → φ) ∧ (φ' → Ops C all l' K E' h → Ops C all l K E h) := by
  intro m
  induction m with
  | zero => intro l E φ E' φ' l' hr; simp only [runP, Prod.mk.injEq] at hr; obtain ⟨rfl, rfl, rfl⟩ := hr; exact ⟨id, fun _ h => h⟩
  | succ m ih =>
    intro l
    cases l with
    | nil => intro E φ E' φ' l' hr; simp only [runP, Prod.mk.injEq] at hr; obtain ⟨rfl, rfl, rfl⟩ := hr; exact ⟨id, fun _ h => h⟩
    | cons o rest =>
      obtain ⟨dst, op, ty, pos, af, g⟩ := o
      intro E φ E' φ' l' hr
      have stop : ∀ {o' : Oper}, (E, φ, o' :: rest) = (E', φ', l') → (φ' → φ) ∧ (φ' → Ops C all l' K E' h → Ops C all (o' :: rest) K E h) := by
        intro o' e
        simp only [Prod.mk.injEq] at e
        obtain ⟨rfl, rfl, rfl⟩ := e
        exact ⟨id, fun _ h => h⟩
      have plain : ∀ {d : Tmp} {v : Value} {c : Option Prop}, Nat.blt d C.n = true → pv T E op = some (v, c) → (match c with | none => runP T C.n all m rest ((d, v) :: E) φ | some ψ => runP T C.n all m rest ((d, v) :: E) (ψ ∧ φ)) = (E', φ', l') →
          (φ' → φ) ∧ (φ' → Ops C all l' K E' h → Ops C all (⟨some d, op, ty, pos, af, none⟩ :: rest) K E h) := by
        intro d v c hd hp hr
        cases c with
        | none =>
          obtain ⟨h1, h2⟩ := ih _ _ _ _ _ _ hr
          exact ⟨h1, fun hf hx => ops_pv hT hp (by simp) hd (h2 hf hx)⟩
        | some ψ =>
          obtain ⟨h1, h2⟩ := ih _ _ _ _ _ _ hr
          exact ⟨fun hf => (h1 hf).2, fun hf hx => ops_pv hT hp (fun φ e => by cases e; exact (h1 hf).1) hd (h2 hf hx)⟩
      cases g with
      | none =>
        cases dst with
        | none => exact stop hr
        | some d =>
          simp only [runP] at hr
          cases hd : Nat.blt d C.n with
          | false => rw [hd] at hr; exact stop hr
          | true =>
            rw [hd] at hr
            simp only [cond_true] at hr
            split at hr
            · rename_i hp; exact plain hd hp hr
            · rename_i hp; exact plain hd hp hr
            · exact stop hr
      | some g =>
        obtain ⟨j, want⟩ := g
        cases dst with
        | none => exact stop hr
        | some d =>
          simp only [runP] at hr
          cases hd : Nat.blt d C.n with
          | false => rw [hd] at hr; exact stop hr
          | true =>
            rw [hd] at hr
            simp only [cond_true] at hr
            have hd' : dstOk C.n (some d) = true := hd
            split at hr
            · rename_i hg
              obtain ⟨t, h1, h2⟩ := guardOf_spec hg
              obtain ⟨h3, h4⟩ := ih _ _ _ _ _ _ hr
              rcases h2 with ⟨h2, _⟩ | ⟨_, h2⟩ | ⟨_, h2⟩
              · cases h2
              · exact ⟨h3, fun hf hx => ops_guard_no rfl h1 h2 (by simp) hd' (h4 hf hx)⟩
              · exact ⟨h3, fun hf hx => ops_guard_undef rfl h1 h2 hd' (h4 hf hx)⟩
            · rename_i hg
              obtain ⟨t, h1, h2⟩ := guardOf_spec hg
              have fin : (φ' → φ) ∧ (φ' → Ops C all l' K E' h → Ops C all (⟨some d, op, ty, pos, af, none⟩ :: rest) K E h) := by
                split at hr
                · rename_i hp; exact plain hd hp hr
                · rename_i hp; exact plain hd hp hr
                · exact stop hr
              rcases h2 with ⟨_, h2⟩ | ⟨h2, _⟩ | ⟨h2, _⟩
              · exact ⟨fin.1, fun hf hx => ops_guard_yes rfl h1 h2 (fin.2 hf hx)⟩
              · cases h2
              · cases h2
            · exact stop hr

theorem ops_run {C : Cx} {T : List (Nat × TI)} (hT : TabOk C.P T) (m : Nat) {all l l' : List Oper} {K : Env → Hp → Prop} {E E' : Env} {φ : Prop} {h : Hp} (hr : runP T C.n all m l E True = (E', φ, l')) (hφ : φ) (hx : Ops C all l' K E' h) : Ops C all l K E h :=
  (runP_sound hT m l E True E' φ l' hr).2 hφ hx

end Go.Gw
