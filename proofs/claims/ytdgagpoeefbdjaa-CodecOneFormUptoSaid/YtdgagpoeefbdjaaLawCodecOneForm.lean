/- The call of the law CodecOneForm: it returns true, and no older memory turns. Condition: the arguments are of bulk at most 1048576. -/
import Derived.Test.YtdgagpoeefbdjaaForm
import Derived.Test.YtdgagpoeefbdjaaLawCodecRoom
namespace Go.Proofs.Ytdgagpoeefbdjaa
open Go.RowKit Go.ChangeShapes Go.WideShapes Go.ChangeAt

namespace codecOneForm
set_option maxRecDepth 100000 in
theorem law {H : Type} (enc : TypeId × Value → H) (W : World) (_base : Nat) (args : Array Value) (ds gs : List (DataW H)) (before : List MemPlace)
    (hval : ∀ (j : Nat) t v, Try.f12.params[j]? = some t → args[j]? = some v → Value.okWide Try.prog W .any _base t v)
    (hW : DataW.Whole enc Try.prog Try.f12.params.toList Rows.codecOneFormSpec.vars false W args.toList ds gs before) (hk : Rows.uptoSmall H (ds ++ gs) = true) :
    Calls Try.prog 12 args W fun e w' => e = .returned (.bool true) ∧ Below W.heap.size W w' := by
  obtain ⟨p, q, hA, hV, -⟩ := hW
  rw [Try.params12] at hval
  have hA : DataW.TrodAll enc Try.prog W 0 (fun _ => true) true [29, 55] args.toList ds p := hA
  obtain ⟨v0, vs0, d0, ds0, p0, q0, hargs, rfl, rfl, h0, r0⟩ := trodAll_cons hA
  obtain ⟨v1, vs1, d1, ds1, p1, q1, rfl, rfl, rfl, h1, r1⟩ := trodAll_cons r0
  obtain ⟨rfl, rfl, rfl⟩ := trodAll_nil r1
  obtain rfl : args = #[v0, v1] := by cases args; simp_all
  obtain ⟨rfl, rfl⟩ := trodVars_none hV
  have hb := bulk_bound hk
  simp only [List.append_nil, Rows.uptoBulkAll, Nat.add_zero] at hb
  obtain ⟨fuel0, hf0⟩ := h0
  obtain ⟨fuel1, hf1⟩ := h1
  have hs0 := hval 0 29 v0 rfl rfl
  have hs1 := hval 1 55 v1 rfl rfl
  obtain ⟨a0, len0, cap0, rfl⟩ := okWide_slice Try.underlying29 hs0
  obtain ⟨a1, len1, cap1, rfl⟩ := okWide_slice Try.underlying55 hs1
  obtain ⟨bs, hB, -, hbl⟩ := El.bytes ⟨fuel0, p0, hf0⟩
  obtain ⟨l, hG, -⟩ := El.gets ⟨fuel1, p1, hf1⟩
  refine (form_walk W _ _ bs l hB hG (by unfold Fits; omega)).mono fun e w' h => ⟨h.1, h.2.below (Nat.le_refl _) fun _ h => h.elim⟩
end codecOneForm
end Go.Proofs.Ytdgagpoeefbdjaa
