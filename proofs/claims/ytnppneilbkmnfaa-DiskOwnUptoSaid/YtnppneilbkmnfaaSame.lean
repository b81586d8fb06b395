/- Contracts of the law's small functions over bytes (same, kind). Conditions: the slices can be read. -/
import Derived.Test.YtnppneilbkmnfaaMem
import Derived.Test.YtnppneilbkmnfaaProg
import Derived.Deep.QuietTactic
import Derived.BigQuiet
import Derived.Deep.LoopGhost
namespace Go.Proofs.Ytnppneilbkmnfaa
open Go.RowKit

/-- a byte as a cell -/
def bv (b : UInt8) : Value := .int .u8 (b.toNat : Int)
def bvs (l : List UInt8) : List Value := l.map bv
/-- a slice of bytes that reads as l -/
def Bytes (w : World) (v : Value) (l : List UInt8) : Prop := Reads w 1 v l.length (bvs l)

theorem Bytes.open {w : World} {v : Value} {l : List UInt8} (h : Bytes w v l) : ∃ ao cap, v = .slice ao l.length cap ∧ l.length ≤ cap ∧ cap ≤ maxLen ∧
    (l ≠ [] → ∃ b off, ao = some ⟨b, off, none⟩ ∧ ∀ j (hj : j < l.length), w.cell? ⟨b, off + j, none⟩ = some (.int .u8 (l[j].toNat : Int))) := by
  obtain ⟨_, ao, cap, rfl, h2, h3, h4⟩ := h
  refine ⟨ao, cap, rfl, h2, h3, fun hne => ?_⟩
  obtain ⟨b, off, rfl, hc⟩ := h4 (by simpa [bvs] using hne)
  exact ⟨b, off, rfl, fun j hj => hc j _ (by simp [bvs, bv, hj])⟩

theorem ret_bool {a b : Bool} (h : a = b) : Ending.returned (.bool a) = .returned (.bool b) := by rw [h]
theorem ret_int {k : IntKind} {a b : Int} (h : a = b) : Ending.returned (.int k a) = .returned (.int k b) := by rw [h]

end Go.Proofs.Ytnppneilbkmnfaa
