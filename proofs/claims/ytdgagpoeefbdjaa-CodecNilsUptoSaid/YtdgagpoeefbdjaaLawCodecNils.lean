/- The call of the law CodecNils: it returns true, and no older memory turns. Condition: the arguments are of bulk at most 1048576. -/
import Derived.Test.YtdgagpoeefbdjaaNils
import Derived.Test.YtdgagpoeefbdjaaLawCodecRoom
namespace Go.Proofs.Ytdgagpoeefbdjaa
open Go.RowKit Go.ChangeShapes Go.WideShapes Go.ChangeAt

namespace codecNils
set_option maxRecDepth 100000 in
theorem law {H : Type} (enc : TypeId × Value → H) (W : World) (_base : Nat) (args : Array Value) (ds gs : List (DataW H)) (before : List MemPlace)
    (hval : ∀ (j : Nat) t v, Try.f11.params[j]? = some t → args[j]? = some v → Value.okWide Try.prog W .any _base t v)
    (hW : DataW.Whole enc Try.prog Try.f11.params.toList Rows.codecNilsSpec.vars false W args.toList ds gs before) (hk : Rows.uptoSmall H (ds ++ gs) = true) :
    Calls Try.prog 11 args W fun e w' => e = .returned (.bool true) ∧ Below W.heap.size W w' := by
  obtain ⟨p, q, hA, hV, -⟩ := hW
  rw [Try.params11] at hval
  have hA : DataW.TrodAll enc Try.prog W 0 (fun _ => true) true [39, 64] args.toList ds p := hA
  obtain ⟨v0, vs0, d0, ds0, p0, q0, hargs, rfl, rfl, h0, r0⟩ := trodAll_cons hA
  obtain ⟨v1, vs1, d1, ds1, p1, q1, rfl, rfl, rfl, h1, r1⟩ := trodAll_cons r0
  obtain ⟨rfl, rfl, rfl⟩ := trodAll_nil r1
  obtain rfl : args = #[v0, v1] := by cases args; simp_all
  obtain ⟨rfl, rfl⟩ := trodVars_none hV
  have hb := bulk_bound hk
  simp only [List.append_nil, Rows.uptoBulkAll, Nat.add_zero] at hb
  obtain ⟨fuel0, hf0⟩ := h0
  obtain ⟨fuel1, hf1⟩ := h1
  obtain ⟨cs0, rfl, -⟩ := okWide_struct Try.underlying39 (hval 0 39 v0 rfl rfl)
  obtain ⟨cs1, rfl, -⟩ := okWide_struct Try.underlying64 (hval 1 64 v1 rfl rfl)
  obtain ⟨D, hD, hp, -, hbk⟩ := El.put ⟨fuel0, p0, hf0⟩
  obtain ⟨G, hG, hK, -, -⟩ := El.get ⟨fuel1, p1, hf1⟩
  have e0 : Value.agg cs0 = put D.K D.N D.x := by
    have : cs0.toList = D.cells := hD
    unfold put
    rw [show cs0 = #[.int .i64 D.K, .int .u64 D.N, D.x] from Array.toList_inj.1 this]
  have e1 : Value.agg cs1 = getV G.K G.A G.B := by
    have : cs1.toList = G.cells := hG
    unfold getV
    rw [show cs1 = #[.int .i64 G.K, .int .i64 G.A, .int .i64 G.B] from Array.toList_inj.1 this]
  rw [e0, e1]
  refine (nils_walk W D.K D.N D.x D.B hp (by unfold Fits; omega) G.K G.A G.B hK).mono fun e w' h => ⟨h.1, h.2.below (Nat.le_refl _) fun _ h => h.elim⟩
end codecNils
end Go.Proofs.Ytdgagpoeefbdjaa
