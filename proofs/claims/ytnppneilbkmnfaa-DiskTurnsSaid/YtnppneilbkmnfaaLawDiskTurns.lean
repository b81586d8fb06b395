/- The call of the law DiskTurns: it returns true, and no older memory turns. No condition. -/
import Derived.Test.YtnppneilbkmnfaaClose
import Derived.Test.YtnppneilbkmnfaaZYk
namespace Go.Proofs.Ytnppneilbkmnfaa
open Go.RowKit Go.ChangeShapes Go.WideShapes Go.ChangeAt
namespace diskTurns
set_option maxRecDepth 100000 in
theorem law {H : Type} (enc : TypeId × Value → H) (W : World) (_base : Nat) (args : Array Value) (ds gs : List (DataW H)) (before : List MemPlace)
    (hval : ∀ (j : Nat) t v, Try.f15.params[j]? = some t → args[j]? = some v → Value.okWide Try.prog W .any _base t v)
    (hW : DataW.Whole enc Try.prog Try.f15.params.toList Rows.diskTurnsSpec.vars false W args.toList ds gs before) :
    Calls Try.prog 15 args W fun e w' => e = .returned (.bool true) ∧ Below W.heap.size W w' := by
  obtain ⟨p, q, hA, -⟩ := hW
  rw [Try.params15] at hval
  have hA : DataW.TrodAll enc Try.prog W 0 (fun _ => true) true [31, 3] args.toList ds p := hA
  obtain ⟨v0, vs0, d0, ds0, p0, q0, hargs, rfl, rfl, h0, r0⟩ := trodAll_cons hA
  obtain ⟨v1, vs1, d1, ds1, p1, q1, rfl, rfl, rfl, h1, r1⟩ := trodAll_cons r0
  obtain ⟨rfl, rfl, rfl⟩ := trodAll_nil r1
  obtain rfl : args = #[v0, v1] := by cases args; simp_all
  obtain ⟨a0, len0, cap0, rfl⟩ := okWide_slice Try.underlying31 (hval 0 31 v0 rfl rfl)
  obtain ⟨n, rfl⟩ := okWide_int Try.underlying3 (hval 1 3 v1 rfl rfl)
  obtain ⟨fuel0, hf0⟩ := h0
  obtain ⟨B0, hB0, -, -⟩ := El.bytes (d := d0) ⟨fuel0, p0, hf0⟩
  exact (turns_any W _ B0 hB0 n).mono fun e w' h => ⟨h.1, h.2.below (Nat.le_refl _) fun _ h => h.elim⟩
end diskTurns
end Go.Proofs.Ytnppneilbkmnfaa
