/- The call of the law DiskMakes: it returns true, and no older memory turns. Condition: the arguments are of bulk at most 1048576. -/
import Derived.Test.YtnppneilbkmnfaaClose
import Derived.Test.YtnppneilbkmnfaaZYh
namespace Go.Proofs.Ytnppneilbkmnfaa
open Go.RowKit Go.ChangeShapes Go.WideShapes Go.ChangeAt
namespace diskMakes
set_option maxRecDepth 100000 in
theorem law {H : Type} (enc : TypeId × Value → H) (W : World) (_base : Nat) (args : Array Value) (ds gs : List (DataW H)) (before : List MemPlace)
    (hval : ∀ (j : Nat) t v, Try.f9.params[j]? = some t → args[j]? = some v → Value.okWide Try.prog W .any _base t v)
    (hW : DataW.Whole enc Try.prog Try.f9.params.toList Rows.diskMakesSpec.vars false W args.toList ds gs before) (hk : Rows.uptoSmall H (ds ++ gs) = true) :
    Calls Try.prog 9 args W fun e w' => e = .returned (.bool true) ∧ Below W.heap.size W w' := by
  obtain ⟨p, q, hA, hV, -⟩ := hW
  rw [Try.params9] at hval
  have hA : DataW.TrodAll enc Try.prog W 0 (fun _ => true) true [44] args.toList ds p := hA
  obtain ⟨v0, vs0, d0, ds0, p0, q0, hargs, rfl, rfl, h0, r0⟩ := trodAll_cons hA
  obtain ⟨rfl, rfl, rfl⟩ := trodAll_nil r0
  obtain rfl : args = #[v0] := by cases args; simp_all
  obtain ⟨rfl, rfl⟩ := trodVars_none hV
  have hb := bulk_bound hk
  simp only [List.append_nil, Rows.uptoBulkAll, Nat.add_zero] at hb
  obtain ⟨cs0, rfl, -⟩ := okWide_struct Try.underlying44 (hval 0 44 v0 rfl rfl)
  obtain ⟨fuel0, hf0⟩ := h0
  obtain ⟨lim0, m0, u0, I0, hcs0, hI0, hIb0, hIy0⟩ := El.made2 ⟨fuel0, p0, hf0⟩
  obtain rfl : cs0 = #[.int .i64 lim0, .bool m0, u0] := Array.toList_inj.1 hcs0
  exact (makes_any W lim0 m0 u0 I0 hI0 (by omega) (fun x hx => by have := hIy0 x hx; omega)).mono fun e w' h => ⟨h.1, h.2.below (Nat.le_refl _) fun _ h => h.elim⟩
end diskMakes
end Go.Proofs.Ytnppneilbkmnfaa
