/- The call of the law DiskOwn: it returns true, and no older memory turns. Condition: the arguments are of bulk at most 1048576. -/
import Derived.Test.YtnppneilbkmnfaaClose
import Derived.Test.YtnppneilbkmnfaaKO
namespace Go.Proofs.Ytnppneilbkmnfaa
open Go.RowKit Go.ChangeShapes Go.WideShapes Go.ChangeAt
namespace diskOwn
set_option maxRecDepth 100000 in
theorem law {H : Type} (enc : TypeId × Value → H) (W : World) (_base : Nat) (args : Array Value) (ds gs : List (DataW H)) (before : List MemPlace)
    (hval : ∀ (j : Nat) t v, Try.f14.params[j]? = some t → args[j]? = some v → Value.okWide Try.prog W .any _base t v)
    (hW : DataW.Whole enc Try.prog Try.f14.params.toList Rows.diskOwnSpec.vars false W args.toList ds gs before) (hk : Rows.uptoSmall H (ds ++ gs) = true) :
    Calls Try.prog 14 args W fun e w' => e = .returned (.bool true) ∧ Below W.heap.size W w' := by
  obtain ⟨p, q, hA, hV, -⟩ := hW
  rw [Try.params14] at hval
  have hA : DataW.TrodAll enc Try.prog W 0 (fun _ => true) true [44, 45, 9] args.toList ds p := hA
  obtain ⟨v0, vs0, d0, ds0, p0, q0, hargs, rfl, rfl, h0, r0⟩ := trodAll_cons hA
  obtain ⟨v1, vs1, d1, ds1, p1, q1, rfl, rfl, rfl, h1, r1⟩ := trodAll_cons r0
  obtain ⟨v2, vs2, d2, ds2, p2, q2, rfl, rfl, rfl, h2, r2⟩ := trodAll_cons r1
  obtain ⟨rfl, rfl, rfl⟩ := trodAll_nil r2
  obtain rfl : args = #[v0, v1, v2] := by cases args; simp_all
  obtain ⟨rfl, rfl⟩ := trodVars_none hV
  have hb := bulk_bound hk
  simp only [List.append_nil, Rows.uptoBulkAll, Nat.add_zero] at hb
  obtain ⟨cs0, rfl, -⟩ := okWide_struct Try.underlying44 (hval 0 44 v0 rfl rfl)
  obtain ⟨fuel0, hf0⟩ := h0
  obtain ⟨lim0, m0, u0, I0, hcs0, hI0, hIb0, hIy0⟩ := El.made2 ⟨fuel0, p0, hf0⟩
  obtain rfl : cs0 = #[.int .i64 lim0, .bool m0, u0] := Array.toList_inj.1 hcs0
  obtain ⟨a1, len1, cap1, rfl⟩ := okWide_slice Try.underlying45 (hval 1 45 v1 rfl rfl)
  obtain ⟨fuel1, hf1⟩ := h1
  obtain ⟨L1, hS1⟩ := El.script (d := d1) ⟨fuel1, p1, hf1⟩ (by omega)
  obtain ⟨a2, rfl⟩ := okWide_string Try.underlying9 (hval 2 9 v2 rfl rfl)
  obtain ⟨fuel2, hf2⟩ := h2
  obtain ⟨s2, hs2, hsl2⟩ := El.string Try.underlying9 ⟨fuel2, p2, hf2⟩
  obtain rfl : a2 = s2 := by simpa [Value.cells] using hs2
  exact (own_any W lim0 m0 u0 I0 hI0 (by omega) (fun x hx => by have := hIy0 x hx; omega) _ L1 hS1 _ hsl2).mono fun e w' h => ⟨h.1, h.2.below (Nat.le_refl _) fun _ h => h.elim⟩
end diskOwn
end Go.Proofs.Ytnppneilbkmnfaa
