/- The call of the law DiskAll: it returns true, and no older memory turns. Condition: the arguments are of bulk at most 1048576. -/
import Derived.Test.YtnppneilbkmnfaaClose
import Derived.Test.YtnppneilbkmnfaaZYf
namespace Go.Proofs.Ytnppneilbkmnfaa
open Go.RowKit Go.ChangeShapes Go.WideShapes Go.ChangeAt
namespace diskAll
set_option maxRecDepth 100000 in
theorem law {H : Type} (enc : TypeId × Value → H) (W : World) (_base : Nat) (args : Array Value) (ds gs : List (DataW H)) (before : List MemPlace)
    (hval : ∀ (j : Nat) t v, Try.f13.params[j]? = some t → args[j]? = some v → Value.okWide Try.prog W .any _base t v)
    (hW : DataW.Whole enc Try.prog Try.f13.params.toList Rows.diskAllSpec.vars false W args.toList ds gs before) (hk : Rows.uptoSmall H (ds ++ gs) = true) :
    Calls Try.prog 13 args W fun e w' => e = .returned (.bool true) ∧ Below W.heap.size W w' := by
  obtain ⟨p, q, hA, hV, -⟩ := hW
  rw [Try.params13] at hval
  have hA : DataW.TrodAll enc Try.prog W 0 (fun _ => true) true [44, 44, 45] args.toList ds p := hA
  obtain ⟨v0, vs0, d0, ds0, p0, q0, hargs, rfl, rfl, h0, r0⟩ := trodAll_cons hA
  obtain ⟨v1, vs1, d1, ds1, p1, q1, rfl, rfl, rfl, h1, r1⟩ := trodAll_cons r0
  obtain ⟨v2, vs2, d2, ds2, p2, q2, rfl, rfl, rfl, h2, r2⟩ := trodAll_cons r1
  obtain ⟨rfl, rfl, rfl⟩ := trodAll_nil r2
  obtain rfl : args = #[v0, v1, v2] := by cases args; simp_all
  obtain ⟨rfl, rfl⟩ := trodVars_none hV
  have hb := bulk_bound hk
  simp only [List.append_nil, Rows.uptoBulkAll, Nat.add_zero] at hb
  obtain ⟨cs0, rfl, -⟩ := okWide_struct Try.underlying44 (hval 0 44 v0 rfl rfl)
  obtain ⟨fuel0, hf0⟩ := h0
  obtain ⟨lim0, m0, u0, I0, hcs0, hI0, hIb0, hIy0⟩ := El.made2 ⟨fuel0, p0, hf0⟩
  obtain rfl : cs0 = #[.int .i64 lim0, .bool m0, u0] := Array.toList_inj.1 hcs0
  obtain ⟨cs1, rfl, -⟩ := okWide_struct Try.underlying44 (hval 1 44 v1 rfl rfl)
  obtain ⟨fuel1, hf1⟩ := h1
  obtain ⟨lim1, m1, u1, I1, hcs1, hI1, hIb1, hIy1⟩ := El.made2 ⟨fuel1, p1, hf1⟩
  obtain rfl : cs1 = #[.int .i64 lim1, .bool m1, u1] := Array.toList_inj.1 hcs1
  obtain ⟨a2, len2, cap2, rfl⟩ := okWide_slice Try.underlying45 (hval 2 45 v2 rfl rfl)
  obtain ⟨fuel2, hf2⟩ := h2
  obtain ⟨L2, hS2⟩ := El.script (d := d2) ⟨fuel2, p2, hf2⟩ (by omega)
  exact (alls_any W lim0 m0 u0 I0 hI0 (by omega) (fun x hx => by have := hIy0 x hx; omega) lim1 m1 u1 I1 hI1 (by omega) (fun x hx => by have := hIy1 x hx; omega) _ L2 hS2).mono fun e w' h => ⟨h.1, h.2.below (Nat.le_refl _) fun _ h => h.elim⟩
end diskAll
end Go.Proofs.Ytnppneilbkmnfaa
