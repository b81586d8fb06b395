/- Proved: the law DiskTurns (assent/assentlaw06.DiskTurns) returns true, whatever the input, and every argument reads behind the call as it read before. No condition beside the form itself. -/
import Derived.Test.YtnppneilbkmnfaaFacts
import Derived.Test.YtnppneilbkmnfaaLawDiskTurns
namespace Go.Proofs.Ytnppneilbkmnfaa.diskTurns
open Go.ChangeShapes Go.WideShapes Go.ChangeAt Go.RowKit
set_option maxRecDepth 100000
theorem k0 : (OpenClaim.wf (OpenSpec.ofChange Rows.diskTurnsSpec) Rows.diskTurnsRow) = true := by kernel_rfl
theorem k3 : (Try.f15.params.all fun x => Try.prog.readableRec x) = true := by kernel_rfl
theorem k4 : (namedTie Try.prog Rows.diskTurnsRow.named Rows.diskTurnsSpec.vars) = true := by kernel_rfl
theorem k5 : (Rows.diskTurnsRow.stops == []) = true := by kernel_rfl
theorem k7 : (Rows.diskTurnsRow.knobs == []) = true := by kernel_rfl
theorem k9 : (Rows.diskTurnsRow.inPlace == Try.prog.inPlace 15) = true := by kernel_rfl
theorem k10 : (Rows.diskTurnsRow.unfollowed == Try.prog.unfollowed 15) = true := by kernel_rfl
theorem k11 : (Rows.diskTurnsRow.recurses == Try.prog.recurses 15) = true := by kernel_rfl
theorem k12 : (Rows.diskTurnsRow.named == Try.prog.varsNamed 15) = true := by kernel_rfl
theorem k13 : (Rows.diskTurnsRow.maps == (Try.f15.params.toList ++ DataSpec.varTypes Try.prog Rows.diskTurnsSpec.plain).any fun x => Try.prog.mapsRec x) = true := by kernel_rfl
theorem k14 : (Rows.diskTurnsRow.ifaces == (Try.f15.params.toList ++ DataSpec.varTypes Try.prog Rows.diskTurnsSpec.plain).any fun x => Try.prog.ifacesRec x) = true := by kernel_rfl
theorem k15 : (Rows.diskTurnsRow.mapsOut == Try.prog.mapsAmong Try.f15.resultTypes.toList) = true := by kernel_rfl
theorem k16 : (Rows.diskTurnsRow.loops == (Try.f15.params.toList ++ DataSpec.varTypes Try.prog Rows.diskTurnsSpec.plain).any fun x => Try.prog.loopsFrom x) = true := by kernel_rfl
theorem k17 : (Rows.diskTurnsRow.wideKeys == (Try.f15.params.toList ++ DataSpec.varTypes Try.prog Rows.diskTurnsSpec.plain ++ Try.f15.resultTypes.toList).any fun x => Try.prog.wideKeysFrom x) = true := by kernel_rfl
theorem k18 : (Rows.diskTurnsSpec.vars.all fun x => Try.prog.varReadable x) = true := by kernel_rfl
theorem k19 : (Try.f15.resultTypes.all fun t => Try.prog.readableRec t && decide (t < Try.prog.types.size)) = true := by kernel_rfl
theorem k20 : (Rows.diskTurnsRow.ifacesOut == Try.f15.resultTypes.toList.any fun x => Try.prog.ifacesRec x) = true := by kernel_rfl
theorem k21 : (Rows.diskTurnsRow.loopsOut == Try.f15.resultTypes.toList.any fun x => Try.prog.loopsFrom x) = true := by kernel_rfl
theorem k23 : (Rows.diskTurnsRow.shortTexts.isNone) = true := by kernel_rfl
theorem k28 : (Rows.diskTurnsRow.kinds == if Rows.diskTurnsRow.domain.isEmpty = true then [] else List.map (fun t => match Try.prog.underlying t with | some (TypeDesc.int k) => some k | _ => none) Try.f15.params.toList) = true := by kernel_rfl
theorem k29 : (Rows.diskTurnsRow.pinned == Rows.diskTurnsRow.pinnedBy) = true := by kernel_rfl
theorem k30 : (Rows.diskTurnsRow.veiled == (Try.f15.params.toList ++ DataSpec.varTypes Try.prog Rows.diskTurnsSpec.plain ++ Try.f15.resultTypes.toList).any fun x => Try.prog.veiledRec x) = true := by kernel_rfl
theorem k31 : (Rows.diskTurnsRow.veiledFits Try.prog Try.f15.params.toList (Try.f15.params.toList ++ DataSpec.varTypes Try.prog Rows.diskTurnsSpec.plain ++ Try.f15.resultTypes.toList)) = true := by kernel_rfl
theorem joined : joinedFacts Try.prog 15 Try.f15 Rows.diskTurnsSpec Rows.diskTurnsRow = true := by
  unfold joinedFacts
  exact (and_t (and_t (and_t (and_t (and_t (and_t (and_t (and_t (and_t (and_t (and_t (and_t (and_t (and_t (and_t (and_t (and_t (and_t (and_t (and_t (and_t (and_t (and_t (and_t (and_t (and_t (and_t (and_t (and_t (and_t (and_t k0 fLaidOut) fMapsRowed) k3) k4) k5) fStops) k7) fStopKnobs) k9) k10) k11) k12) k13) k14) k15) k16) k17) k18) k19) k20) k21) (eq_t fPlainKeys)) k23) fStopsHeard) fMayEnter) (eq_t fLiftsFinal)) (some_t rfl)) k28) k29) k30) k31)
theorem hpar : ∀ t ∈ Try.f15.params.toList, Try.prog.readableRec t = true ∧ t < Try.prog.types.size := by
  have h : (Try.f15.params.toList.all fun t => Try.prog.readableRec t && decide (t < Try.prog.types.size)) = true := by kernel_rfl
  intro t ht
  have h1 := List.all_eq_true.1 h t ht
  rw [Bool.and_eq_true] at h1
  exact ⟨h1.1, of_decide_eq_true h1.2⟩
theorem hfn {H : Type} : ∀ ds gs : List (DataW H), ds.length = Try.f15.params.toList.length → gs = [] → Rows.diskTurnsSpec.fn H (ds ++ gs) = { results := [.lit (.bool true)], args := ds } := by
  intro ds gs hd hg
  subst hg
  rw [List.append_nil]
  have hd' : ds.length = 2 := hd
  clear hd
  match ds, hd' with
  | [d0, d1], _ => rfl
theorem lifted (os : Os) (started : os.Started) (H : Type) (enc : TypeId × Value → H) :
    ReturnsInHanded {} Try.checked os 15 .any (Rows.diskTurnsSpec.pre6 enc Try.prog Try.f15 Rows.diskTurnsRow.domain false) (Rows.diskTurnsSpec.post enc Try.prog Try.f15 false true false false) := by
  refine returnsInHanded_of_change (C := Try.checked) fOwn started (by kernel_rfl) Try.func15
    (ChangeSpec.witness6 (enc := enc) (C := Try.checked) false ⟨#[], #[.slice none 0 0, .int .i64 0], []⟩ 8 (by kernel_rfl) (by kernel_rfl) (by kernel_rfl) (by kernel_rfl)) ?_
  intro W base args ds gs before hval hW _ _
  refine (law enc W base args ds gs before hval hW).mono fun e W' h => ?_
  obtain ⟨he, hb⟩ := h
  subst he
  exact ⟨_, rfl, post_law fLaidOut hpar rfl Try.underlying4 rfl hfn hW hb⟩
theorem over : Rows.diskTurnsRow.holds Try.pinned (OpenSpec.ofChange Rows.diskTurnsSpec) :=
  OpenClaim.holds_of_wide 15 Try.f15 rfl rfl rfl rfl rfl rfl rfl ⟨rfl, rfl, rfl, rfl, rfl⟩ rfl rfl rfl rfl rfl (by kernel_rfl) Try.func15 joined
    (of_decide_eq_true (by kernel_rfl)) (by unfold Func.isWrapper; rw [if_neg (of_decide_eq_false (by kernel_rfl))]; exact ⟨rfl, rfl⟩)
    (fun os started H enc _ => lifted os started H enc)
theorem proved : Rows.DiskTurnsSaid := over
end Go.Proofs.Ytnppneilbkmnfaa.diskTurns
