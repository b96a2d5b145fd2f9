/-
  A part of the proofs of the laws of the index: what the functions of this program compute. Conditions: none beyond those that its theorems name.
-/
import Derived.Test.YtmfgiabmmdbmoaaGreatDoorGwSeat
namespace Go.Proofs.YtmfgiabmmdbmoaaGreatDoor
open Go.Gw
/-- A form as a map's key. -/
def encK (p : Bool × Bs) : Value := .agg #[.bool p.1, S p.2]
theorem stood108 : Tryz.prog.stoodInHeld 108 = false := by kernel_rfl
theorem keyOk108 : KeyOk Tryz.prog 108 encK where
  inj := by rintro ⟨a, b⟩ ⟨c, d⟩ h; simp [encK] at h; simp [h]
  chk := fun w em a => by
    obtain ⟨d, hd⟩ : ∃ d, 10000 = d + 1 + 1 := ⟨9998, rfl⟩
    rw [hd]
    simp [encK, Instr.checkKey, run_underlying' Tryz.underlying108, run_underlying' Tryz.underlying4, run_underlying' Tryz.underlying9, part, isAgg]
  eq := fun w a b => by
    obtain ⟨d, hd⟩ : ∃ d, Op.maxDepth = d + 1 + 1 := ⟨9998, rfl⟩
    obtain ⟨a1, a2⟩ := a
    obtain ⟨b1, b2⟩ := b
    unfold Op.equal
    rw [hd]
    have hb : ((⟨⟨a2⟩⟩ : ByteArray) == ⟨⟨b2⟩⟩) = decide (a2 = b2) := by
      have h0 : ((⟨⟨a2⟩⟩ : ByteArray) == ⟨⟨b2⟩⟩) = ((⟨a2⟩ : Array UInt8) == ⟨b2⟩) := rfl
      rw [h0, Bool.eq_iff_iff]; simp
    simp [encK, Op.equalIn, run_underlying' Tryz.underlying108, run_underlying' Tryz.underlying4, run_underlying' Tryz.underlying9, part, isAgg, hb]
    by_cases h1 : a1 = b1
    · by_cases h2 : a2 = b2 <;> simp [h1, h2]
    · simp [h1]
  now := ⟨_, Tryz.underlying108, .inr (fun _ _ => rfl)⟩
end Go.Proofs.YtmfgiabmmdbmoaaGreatDoor
