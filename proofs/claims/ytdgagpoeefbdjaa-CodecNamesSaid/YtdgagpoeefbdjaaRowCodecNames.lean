/- Proved: the law CodecNames (assent/assentlaw01.CodecNames) returns true, whatever the input, and every argument reads behind the call as it read before. No condition beside the form itself. -/
import Derived.Test.YtdgagpoeefbdjaaFacts
import Derived.Test.YtdgagpoeefbdjaaLawCodecNames
namespace Go.Proofs.Ytdgagpoeefbdjaa.codecNames
open Go.ChangeShapes Go.WideShapes Go.ChangeAt Go.RowKit
set_option maxRecDepth 100000
theorem k0 : (OpenClaim.wf (OpenSpec.ofChange Rows.codecNamesSpec) Rows.codecNamesRow) = true := by kernel_rfl
theorem k3 : (Try.f3.params.all fun x => Try.prog.readableRec x) = true := by kernel_rfl
theorem k4 : (namedTie Try.prog Rows.codecNamesRow.named Rows.codecNamesSpec.vars) = true := by kernel_rfl
theorem k5 : (Rows.codecNamesRow.stops == []) = true := by kernel_rfl
theorem k7 : (Rows.codecNamesRow.knobs == []) = true := by kernel_rfl
theorem k9 : (Rows.codecNamesRow.inPlace == Try.prog.inPlace 3) = true := by kernel_rfl
theorem k10 : (Rows.codecNamesRow.unfollowed == Try.prog.unfollowed 3) = true := by kernel_rfl
theorem k11 : (Rows.codecNamesRow.recurses == Try.prog.recurses 3) = true := by kernel_rfl
theorem k12 : (Rows.codecNamesRow.named == Try.prog.varsNamed 3) = true := by kernel_rfl
theorem k13 : (Rows.codecNamesRow.maps == (Try.f3.params.toList ++ DataSpec.varTypes Try.prog Rows.codecNamesSpec.plain).any fun x => Try.prog.mapsRec x) = true := by kernel_rfl
theorem k14 : (Rows.codecNamesRow.ifaces == (Try.f3.params.toList ++ DataSpec.varTypes Try.prog Rows.codecNamesSpec.plain).any fun x => Try.prog.ifacesRec x) = true := by kernel_rfl
theorem k15 : (Rows.codecNamesRow.mapsOut == Try.prog.mapsAmong Try.f3.resultTypes.toList) = true := by kernel_rfl
theorem k16 : (Rows.codecNamesRow.loops == (Try.f3.params.toList ++ DataSpec.varTypes Try.prog Rows.codecNamesSpec.plain).any fun x => Try.prog.loopsFrom x) = true := by kernel_rfl
theorem k17 : (Rows.codecNamesRow.wideKeys == (Try.f3.params.toList ++ DataSpec.varTypes Try.prog Rows.codecNamesSpec.plain ++ Try.f3.resultTypes.toList).any fun x => Try.prog.wideKeysFrom x) = true := by kernel_rfl
theorem k18 : (Rows.codecNamesSpec.vars.all fun x => Try.prog.varReadable x) = true := by kernel_rfl
theorem k19 : (Try.f3.resultTypes.all fun t => Try.prog.readableRec t && decide (t < Try.prog.types.size)) = true := by kernel_rfl
theorem k20 : (Rows.codecNamesRow.ifacesOut == Try.f3.resultTypes.toList.any fun x => Try.prog.ifacesRec x) = true := by kernel_rfl
theorem k21 : (Rows.codecNamesRow.loopsOut == Try.f3.resultTypes.toList.any fun x => Try.prog.loopsFrom x) = true := by kernel_rfl
theorem k23 : (Rows.codecNamesRow.shortTexts.isNone) = true := by kernel_rfl
theorem k28 : (Rows.codecNamesRow.kinds == if Rows.codecNamesRow.domain.isEmpty = true then [] else List.map (fun t => match Try.prog.underlying t with | some (TypeDesc.int k) => some k | _ => none) Try.f3.params.toList) = true := by kernel_rfl
theorem k29 : (Rows.codecNamesRow.pinned == Rows.codecNamesRow.pinnedBy) = true := by kernel_rfl
theorem k30 : (Rows.codecNamesRow.veiled == (Try.f3.params.toList ++ DataSpec.varTypes Try.prog Rows.codecNamesSpec.plain ++ Try.f3.resultTypes.toList).any fun x => Try.prog.veiledRec x) = true := by kernel_rfl
theorem k31 : (Rows.codecNamesRow.veiledFits Try.prog Try.f3.params.toList (Try.f3.params.toList ++ DataSpec.varTypes Try.prog Rows.codecNamesSpec.plain ++ Try.f3.resultTypes.toList)) = true := by kernel_rfl
theorem joined : joinedFacts Try.prog 3 Try.f3 Rows.codecNamesSpec Rows.codecNamesRow = true := by
  unfold joinedFacts
  exact (and_t (and_t (and_t (and_t (and_t (and_t (and_t (and_t (and_t (and_t (and_t (and_t (and_t (and_t (and_t (and_t (and_t (and_t (and_t (and_t (and_t (and_t (and_t (and_t (and_t (and_t (and_t (and_t (and_t (and_t (and_t k0 fLaidOut) fMapsRowed) k3) k4) k5) fStops) k7) fStopKnobs) k9) k10) k11) k12) k13) k14) k15) k16) k17) k18) k19) k20) k21) (eq_t fPlainKeys)) k23) fStopsHeard) fMayEnter) (eq_t fLiftsFinal)) (some_t rfl)) k28) k29) k30) k31)
theorem hpar : ∀ t ∈ Try.f3.params.toList, Try.prog.readableRec t = true ∧ t < Try.prog.types.size := by
  have h : (Try.f3.params.toList.all fun t => Try.prog.readableRec t && decide (t < Try.prog.types.size)) = true := by kernel_rfl
  intro t ht
  have h1 := List.all_eq_true.1 h t ht
  rw [Bool.and_eq_true] at h1
  exact ⟨h1.1, of_decide_eq_true h1.2⟩
theorem hfn {H : Type} : ∀ ds gs : List (DataW H), ds.length = Try.f3.params.toList.length → gs = [] → Rows.codecNamesSpec.fn H (ds ++ gs) = { results := [.lit (.bool true)], args := ds } := by
  intro ds gs hd hg
  subst hg
  rw [List.append_nil]
  have hd' : ds.length = 0 := hd
  clear hd
  match ds, hd' with
  | [], _ => rfl
theorem lifted (os : Os) (started : os.Started) (H : Type) (enc : TypeId × Value → H) :
    ReturnsInHanded {} Try.checked os 3 .any (Rows.codecNamesSpec.pre6 enc Try.prog Try.f3 Rows.codecNamesRow.domain false) (Rows.codecNamesSpec.post enc Try.prog Try.f3 false true false false) := by
  refine returnsInHanded_of_change (C := Try.checked) fOwn started (by kernel_rfl) Try.func3
    (ChangeSpec.witness6 (enc := enc) (C := Try.checked) false ⟨#[], #[], []⟩ 8 (by kernel_rfl) (by kernel_rfl) (by kernel_rfl) (by kernel_rfl)) ?_
  intro W base args ds gs before hval hW _ _
  refine (law enc W base args ds gs before hval hW).mono fun e W' h => ?_
  obtain ⟨he, hb⟩ := h
  subst he
  exact ⟨_, rfl, post_law fLaidOut hpar rfl Try.underlying4 rfl hfn hW hb⟩
theorem over : Rows.codecNamesRow.holds Try.pinned (OpenSpec.ofChange Rows.codecNamesSpec) :=
  OpenClaim.holds_of_wide 3 Try.f3 rfl rfl rfl rfl rfl rfl rfl ⟨rfl, rfl, rfl, rfl, rfl⟩ rfl rfl rfl rfl rfl (by kernel_rfl) Try.func3 joined
    (of_decide_eq_true (by kernel_rfl)) (by unfold Func.isWrapper; rw [if_neg (of_decide_eq_false (by kernel_rfl))]; exact ⟨rfl, rfl⟩)
    (fun os started H enc _ => lifted os started H enc)
theorem proved : Rows.CodecNamesSaid := over
end Go.Proofs.Ytdgagpoeefbdjaa.codecNames
