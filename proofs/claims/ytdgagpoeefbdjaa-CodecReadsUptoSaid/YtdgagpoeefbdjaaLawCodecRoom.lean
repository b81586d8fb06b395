/- The call of the law CodecRoom: it returns true, and no older memory turns. Condition: the arguments are of bulk at most 1048576. -/
import Derived.Test.YtdgagpoeefbdjaaRoom
import Derived.Test.YtdgagpoeefbdjaaOpen
namespace Go.Proofs.Ytdgagpoeefbdjaa
open Go.RowKit Go.ChangeShapes Go.WideShapes Go.ChangeAt

section
variable {H : Type} {enc : TypeId × Value → H} {w : World}

set_option maxRecDepth 100000 in
theorem El.get {cs : List Value} {d : DataW H} (h : El enc Try.prog w 64 cs d) : ∃ G : GetD, cs = G.cells ∧ IsInt64 G.K ∧ IsInt64 G.A ∧ IsInt64 G.B := by
  obtain ⟨f, ps, h⟩ := h
  obtain ⟨xs, n, _, hx, hl, hlen, hf⟩ := DataW.trod_struct Try.underlying64 h
  rw [cells64] at hl
  match xs, hlen, cs, hl with
  | [y0, y1, y2], _, [c0, c1, c2], _ =>
    have f0 := hf 0 _ rfl
    have f1 := hf 1 _ rfl
    have f2 := hf 2 _ rfl
    simp [cells3] at f0 f1 f2
    obtain ⟨K, e0, hK⟩ := El.int Try.underlying3 ⟨n, y0.2, f0⟩
    obtain ⟨A, e1, hA⟩ := El.int Try.underlying3 ⟨n, y1.2, f1⟩
    obtain ⟨B, e2, hB⟩ := El.int Try.underlying3 ⟨n, y2.2, f2⟩
    simp only [List.cons.injEq, and_true] at e0 e1 e2
    subst e0 e1 e2
    have wf : ∀ z : Int, (Lit.int .i64 z).wf = true → IsInt64 z := fun z hz => by simpa [IsInt64, Lit.wf, IntKind.min, IntKind.max, IntKind.signed, IntKind.bits] using hz
    exact ⟨⟨K, A, B⟩, rfl, wf K hK, wf A hA, wf B hB⟩

theorem El.gets {v : Value} {d : DataW H} (h : El enc Try.prog w 55 [v] d) : ∃ l : List GetD, Gets w v l ∧ (∀ k, inFoot v k → k < w.heap.size) := by
  obtain ⟨ces, h1, h2, h3, h4⟩ := open_row Try.underlying55 cells64 (by omega) h
  have h6 : ∃ l : List GetD, l.length = ces.length ∧ ces.flatMap (·.1) = l.flatMap GetD.cells ∧ (∀ G ∈ l, IsInt64 G.K ∧ IsInt64 G.A ∧ IsInt64 G.B) := by
    clear h1 h3 h4 h
    induction ces with
    | nil => exact ⟨[], rfl, rfl, by simp⟩
    | cons c ces ih =>
      obtain ⟨G, hG, ho⟩ := El.get (h2 c (List.mem_cons_self ..)).2
      obtain ⟨l, hl, he, hm⟩ := ih fun c hc => h2 c (List.mem_cons_of_mem _ hc)
      refine ⟨G :: l, by simp [hl], by rw [List.flatMap_cons, List.flatMap_cons, hG, he], ?_⟩
      intro E hE
      rcases List.mem_cons.1 hE with rfl | hE
      · exact ho
      · exact hm E hE
  obtain ⟨l, hl, he, hm⟩ := h6
  exact ⟨l, ⟨by rw [hl, ← he]; exact h1, hm⟩, h4⟩
end

namespace codecRoom
set_option maxRecDepth 100000 in
theorem law {H : Type} (enc : TypeId × Value → H) (W : World) (_base : Nat) (args : Array Value) (ds gs : List (DataW H)) (before : List MemPlace)
    (hval : ∀ (j : Nat) t v, Try.f9.params[j]? = some t → args[j]? = some v → Value.okWide Try.prog W .any _base t v)
    (hW : DataW.Whole enc Try.prog Try.f9.params.toList Rows.codecRoomSpec.vars false W args.toList ds gs before) (hk : Rows.uptoSmall H (ds ++ gs) = true) :
    Calls Try.prog 9 args W fun e w' => e = .returned (.bool true) ∧ Below W.heap.size W w' := by
  obtain ⟨p, q, hA, hV, -⟩ := hW
  rw [Try.params9] at hval
  have hA : DataW.TrodAll enc Try.prog W 0 (fun _ => true) true [29, 55] args.toList ds p := hA
  obtain ⟨v0, vs0, d0, ds0, p0, q0, hargs, rfl, rfl, h0, r0⟩ := trodAll_cons hA
  obtain ⟨v1, vs1, d1, ds1, p1, q1, rfl, rfl, rfl, h1, r1⟩ := trodAll_cons r0
  obtain ⟨rfl, rfl, rfl⟩ := trodAll_nil r1
  obtain rfl : args = #[v0, v1] := by cases args; simp_all
  obtain ⟨rfl, rfl⟩ := trodVars_none hV
  have hb := bulk_bound hk
  simp only [List.append_nil, Rows.uptoBulkAll, Nat.add_zero] at hb
  obtain ⟨fuel0, hf0⟩ := h0
  obtain ⟨fuel1, hf1⟩ := h1
  have hs0 := hval 0 29 v0 rfl rfl
  have hs1 := hval 1 55 v1 rfl rfl
  obtain ⟨a0, len0, cap0, rfl⟩ := okWide_slice Try.underlying29 hs0
  obtain ⟨a1, len1, cap1, rfl⟩ := okWide_slice Try.underlying55 hs1
  obtain ⟨bs, hB, -, hbl⟩ := El.bytes ⟨fuel0, p0, hf0⟩
  obtain ⟨l, hG, -⟩ := El.gets ⟨fuel1, p1, hf1⟩
  refine (room_any W _ _ bs l hB hG (by unfold Fits; omega)).mono fun e w' h => ⟨h.1, h.2.below (Nat.le_refl _) fun _ h => h.elim⟩
end codecRoom
end Go.Proofs.Ytdgagpoeefbdjaa
