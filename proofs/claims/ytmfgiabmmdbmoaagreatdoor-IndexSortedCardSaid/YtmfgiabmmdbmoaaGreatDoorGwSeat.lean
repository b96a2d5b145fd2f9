/-
  A part of the proofs of the laws of the index: what the functions of this program compute. Conditions: none beyond those that its theorems name.
-/
import Derived.Test.YtmfgiabmmdbmoaaGreatDoorGwTab
import Derived.Test.YtmfgiabmmdbmoaaGreatDoorGw8
import Derived.Shelf.Abstract
namespace Go.Proofs.YtmfgiabmmdbmoaaGreatDoor
open Go.Gw
theorem fnok {P : Program} {f : FuncId} {fn : Func} {c : Code} (hf : P.funcs[f]? = some fn) (hn : (fn.name == "runtime.NumGoroutine") = false) (hb : fn.body = some c) : FnOk P f := fun args w => Go.Proofs.enters_of hf hn hb args w
section
variable {ρ : Option Nat} {n : Nat} {D : List Deferred} {w0 : World} {all rest : List Oper} {K : Env → Hp → Prop} {E : Env} {h : Hp} {ty : TypeId} {pos : String} {af : Array Edge} {d : Tmp} {t : TypeId}
theorem go (m : Nat) {l l' : List Oper} {E' : Env} {φ : Prop} (hr : runP Tb n all m l E True = (E', φ, l')) (hφ : φ) (hx : Ops ⟨Tryz.prog, ρ, n, D, w0⟩ all l' K E' h) : Ops ⟨Tryz.prog, ρ, n, D, w0⟩ all l K E h := ops_run (C := ⟨Tryz.prog, ρ, n, D, w0⟩) tabOk m hr hφ hx
theorem sgo (m : Nat) {Cl : Hp → Prop} {tail : List Oper} {l l' : List (Oper × Bool)} {E' : Env} {φ : Prop} (hr : runQ Tb n all m l E True = (E', φ, l')) (hφ : φ) (hx : Seq ⟨Tryz.prog, ρ, n, D, w0⟩ Cl all l' tail K E' h) : Seq ⟨Tryz.prog, ρ, n, D, w0⟩ Cl all l tail K E h := seq_run (C := ⟨Tryz.prog, ρ, n, D, w0⟩) tabOk m hr hφ hx
/-- The whole region only computes. -/
theorem goes {k : List Item} {Q : Post} {l : List Oper} {id : Nat} {E' : Env} {φ : Prop} (hr : runP Tb n l 1000 l E True = (E', φ, [])) (hφ : φ) (hx : X ⟨Tryz.prog, ρ, n, D, w0⟩ .normal k Q E' h) :
    X ⟨Tryz.prog, ρ, n, D, w0⟩ .normal (.code (.region id l.toArray false) :: k) Q E h := x_region fun _ hK => go 1000 hr hφ (ops_nil (hK _ _ hx))
theorem ld {ti : TI} {x : Operand} {a : Addr} {v : Value} (ht : lookT Tb t = some ti) (hs : scalK ti.kind = true) (hd : Nat.blt d n = true)
    (hx : ev E x = some (.pointer (some a))) (hc : hcell h a = some v) (hk : Ops ⟨Tryz.prog, ρ, n, D, w0⟩ all rest K ((d, v) :: E) h) : Ops ⟨Tryz.prog, ρ, n, D, w0⟩ all (⟨some d, .load t x, ty, pos, af, none⟩ :: rest) K E h :=
  ops_load (C := ⟨Tryz.prog, ρ, n, D, w0⟩) tabOk ht hs hd hx hc hk
theorem lds {ti : TI} {x : Operand} {a : Addr} {vs : List Value} (ht : lookT Tb t = some ti) (hs : scalK ti.kind = false) (hn : ti.size = vs.length) (hd : Nat.blt d n = true)
    (hx : ev E x = some (.pointer (some a))) (hc : Cells h a vs) (hk : Ops ⟨Tryz.prog, ρ, n, D, w0⟩ all rest K ((d, .agg ⟨vs⟩) :: E) h) : Ops ⟨Tryz.prog, ρ, n, D, w0⟩ all (⟨some d, .load t x, ty, pos, af, none⟩ :: rest) K E h :=
  ops_loads (C := ⟨Tryz.prog, ρ, n, D, w0⟩) tabOk ht hs hn hd hx hc hk
end
theorem mixed : Tryz.prog.follows .mixedOrders = true := by kernel_rfl
end Go.Proofs.YtmfgiabmmdbmoaaGreatDoor
