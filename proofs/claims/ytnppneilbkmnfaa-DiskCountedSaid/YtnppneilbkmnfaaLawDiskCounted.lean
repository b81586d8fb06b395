/- The call of the law DiskCounted: it returns true, and no older memory turns. No condition. -/
import Derived.Test.YtnppneilbkmnfaaClose
import Derived.Test.YtnppneilbkmnfaaCw
namespace Go.Proofs.Ytnppneilbkmnfaa
open Go.RowKit Go.ChangeShapes Go.WideShapes Go.ChangeAt
namespace diskCounted
set_option maxRecDepth 100000 in
theorem law {H : Type} (enc : TypeId × Value → H) (W : World) (_base : Nat) (args : Array Value) (ds gs : List (DataW H)) (before : List MemPlace)
    (hval : ∀ (j : Nat) t v, Try.f3.params[j]? = some t → args[j]? = some v → Value.okWide Try.prog W .any _base t v)
    (hW : DataW.Whole enc Try.prog Try.f3.params.toList Rows.diskCountedSpec.vars false W args.toList ds gs before) :
    Calls Try.prog 3 args W fun e w' => e = .returned (.bool true) ∧ Below W.heap.size W w' := by
  obtain ⟨p, q, hA, -⟩ := hW
  rw [Try.params3] at hval
  have hA : DataW.TrodAll enc Try.prog W 0 (fun _ => true) true [3, 3, 4] args.toList ds p := hA
  obtain ⟨v0, vs0, d0, ds0, p0, q0, hargs, rfl, rfl, h0, r0⟩ := trodAll_cons hA
  obtain ⟨v1, vs1, d1, ds1, p1, q1, rfl, rfl, rfl, h1, r1⟩ := trodAll_cons r0
  obtain ⟨v2, vs2, d2, ds2, p2, q2, rfl, rfl, rfl, h2, r2⟩ := trodAll_cons r1
  obtain ⟨rfl, rfl, rfl⟩ := trodAll_nil r2
  obtain rfl : args = #[v0, v1, v2] := by cases args; simp_all
  obtain ⟨a, rfl⟩ := okWide_int Try.underlying3 (hval 0 3 v0 rfl rfl)
  obtain ⟨n, rfl⟩ := okWide_int Try.underlying3 (hval 1 3 v1 rfl rfl)
  obtain ⟨b, rfl⟩ := okWide_bool Try.underlying4 (hval 2 4 v2 rfl rfl)
  exact (counted_any W a n b).mono fun e w' h => ⟨h.1, h.2.below (Nat.le_refl _) fun _ h => h.elim⟩
end diskCounted
end Go.Proofs.Ytnppneilbkmnfaa
