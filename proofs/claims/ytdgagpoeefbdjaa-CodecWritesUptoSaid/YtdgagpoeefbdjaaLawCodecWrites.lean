/- The call of the law CodecWrites: it returns true, and no older memory turns. Condition: the arguments are of bulk at most 1048576. -/
import Derived.Test.YtdgagpoeefbdjaaWrites
import Derived.Test.YtdgagpoeefbdjaaOpen
namespace Go.Proofs.Ytdgagpoeefbdjaa
open Go.RowKit Go.ChangeShapes Go.WideShapes Go.ChangeAt

theorem sumB_bulk : ∀ l : List PutD, sumB l ≤ 4 * (l.map fun D => D.B.length + 3).sum
  | [] => by simp [sumB]
  | d :: l => by
    have := sumB_bulk l
    simp only [sumB, List.map_cons, List.sum_cons] at this ⊢
    omega
theorem len_bulk : ∀ l : List PutD, l.length ≤ (l.map fun D => D.B.length + 3).sum
  | [] => by simp
  | d :: l => by
    have := len_bulk l
    simp only [List.length_cons, List.map_cons, List.sum_cons]
    omega

namespace codecWrites
set_option maxRecDepth 100000 in
theorem law {H : Type} (enc : TypeId × Value → H) (W : World) (_base : Nat) (args : Array Value) (ds gs : List (DataW H)) (before : List MemPlace)
    (hval : ∀ (j : Nat) t v, Try.f6.params[j]? = some t → args[j]? = some v → Value.okWide Try.prog W .any _base t v)
    (hW : DataW.Whole enc Try.prog Try.f6.params.toList Rows.codecWritesSpec.vars false W args.toList ds gs before) (hk : Rows.uptoSmall H (ds ++ gs) = true) :
    Calls Try.prog 6 args W fun e w' => e = .returned (.bool true) ∧ Below W.heap.size W w' := by
  obtain ⟨p, q, hA, hV, -⟩ := hW
  rw [Try.params6] at hval
  have hA : DataW.TrodAll enc Try.prog W 0 (fun _ => true) true [25] args.toList ds p := hA
  obtain ⟨v0, vs0, d0, ds0, p0, q0, hargs, rfl, rfl, h0, r0⟩ := trodAll_cons hA
  obtain ⟨rfl, rfl, rfl⟩ := trodAll_nil r0
  obtain rfl : args = #[v0] := by cases args; simp_all
  obtain ⟨rfl, rfl⟩ := trodVars_none hV
  have hb := bulk_bound hk
  simp only [List.append_nil, Rows.uptoBulkAll, Nat.add_zero] at hb
  obtain ⟨fuel, hf⟩ := h0
  obtain ⟨a0, len, cap, rfl⟩ := okWide_slice Try.underlying25 (hval 0 25 v0 rfl rfl)
  obtain ⟨l, hT, hlt, hs⟩ := El.puts ⟨fuel, p0, hf⟩
  refine (writes_walk W _ l hT hlt (by have := sumB_bulk l; unfold Fits; omega) (by have := len_bulk l; omega)).mono fun e w' h => ⟨h.1, h.2.below (Nat.le_refl _) fun _ h => h.elim⟩
end codecWrites
end Go.Proofs.Ytdgagpoeefbdjaa
