/- Proved: the law DiskCrashes (assent/assentlaw06.DiskCrashes) returns true for every input of bulk at most 1048576, and every argument reads behind the call as it read before. The condition: the arguments hold together at most 1048576 values and letters. -/
import Derived.Test.YtnppneilbkmnfaaFacts
import Derived.Test.YtnppneilbkmnfaaLawDiskCrashes
namespace Go.Proofs.Ytnppneilbkmnfaa.diskCrashes
open Go.ChangeShapes Go.WideShapes Go.ChangeAt Go.RowKit
set_option maxRecDepth 100000
theorem k0 : (OpenClaim.wf (OpenSpec.ofChange (OpenSpec.bare (Rows.OpenSpec.upto Rows.diskCrashesSpec))) Rows.diskCrashesUptoRow) = true := by kernel_rfl
theorem k3 : (Try.f12.params.all fun x => Try.prog.readableRec x) = true := by kernel_rfl
theorem k4 : (namedTie Try.prog Rows.diskCrashesUptoRow.named (OpenSpec.bare (Rows.OpenSpec.upto Rows.diskCrashesSpec)).vars) = true := by kernel_rfl
theorem k5 : (Rows.diskCrashesUptoRow.stops == []) = true := by kernel_rfl
theorem k7 : (Rows.diskCrashesUptoRow.knobs == []) = true := by kernel_rfl
theorem k9 : (Rows.diskCrashesUptoRow.inPlace == Try.prog.inPlace 12) = true := by kernel_rfl
theorem k10 : (Rows.diskCrashesUptoRow.unfollowed == Try.prog.unfollowed 12) = true := by kernel_rfl
theorem k11 : (Rows.diskCrashesUptoRow.recurses == Try.prog.recurses 12) = true := by kernel_rfl
theorem k12 : (Rows.diskCrashesUptoRow.named == Try.prog.varsNamed 12) = true := by kernel_rfl
theorem k13 : (Rows.diskCrashesUptoRow.maps == (Try.f12.params.toList ++ DataSpec.varTypes Try.prog (OpenSpec.bare (Rows.OpenSpec.upto Rows.diskCrashesSpec)).plain).any fun x => Try.prog.mapsRec x) = true := by kernel_rfl
theorem k14 : (Rows.diskCrashesUptoRow.ifaces == (Try.f12.params.toList ++ DataSpec.varTypes Try.prog (OpenSpec.bare (Rows.OpenSpec.upto Rows.diskCrashesSpec)).plain).any fun x => Try.prog.ifacesRec x) = true := by kernel_rfl
theorem k15 : (Rows.diskCrashesUptoRow.mapsOut == Try.prog.mapsAmong Try.f12.resultTypes.toList) = true := by kernel_rfl
theorem k16 : (Rows.diskCrashesUptoRow.loops == (Try.f12.params.toList ++ DataSpec.varTypes Try.prog (OpenSpec.bare (Rows.OpenSpec.upto Rows.diskCrashesSpec)).plain).any fun x => Try.prog.loopsFrom x) = true := by kernel_rfl
theorem k17 : (Rows.diskCrashesUptoRow.wideKeys == (Try.f12.params.toList ++ DataSpec.varTypes Try.prog (OpenSpec.bare (Rows.OpenSpec.upto Rows.diskCrashesSpec)).plain ++ Try.f12.resultTypes.toList).any fun x => Try.prog.wideKeysFrom x) = true := by kernel_rfl
theorem k18 : ((OpenSpec.bare (Rows.OpenSpec.upto Rows.diskCrashesSpec)).vars.all fun x => Try.prog.varReadable x) = true := by kernel_rfl
theorem k19 : (Try.f12.resultTypes.all fun t => Try.prog.readableRec t && decide (t < Try.prog.types.size)) = true := by kernel_rfl
theorem k20 : (Rows.diskCrashesUptoRow.ifacesOut == Try.f12.resultTypes.toList.any fun x => Try.prog.ifacesRec x) = true := by kernel_rfl
theorem k21 : (Rows.diskCrashesUptoRow.loopsOut == Try.f12.resultTypes.toList.any fun x => Try.prog.loopsFrom x) = true := by kernel_rfl
theorem k23 : (Rows.diskCrashesUptoRow.shortTexts.isNone) = true := by kernel_rfl
theorem k28 : (Rows.diskCrashesUptoRow.kinds == if Rows.diskCrashesUptoRow.domain.isEmpty = true then [] else List.map (fun t => match Try.prog.underlying t with | some (TypeDesc.int k) => some k | _ => none) Try.f12.params.toList) = true := by kernel_rfl
theorem k29 : (Rows.diskCrashesUptoRow.pinned == Rows.diskCrashesUptoRow.pinnedBy) = true := by kernel_rfl
theorem k30 : (Rows.diskCrashesUptoRow.veiled == (Try.f12.params.toList ++ DataSpec.varTypes Try.prog (OpenSpec.bare (Rows.OpenSpec.upto Rows.diskCrashesSpec)).plain ++ Try.f12.resultTypes.toList).any fun x => Try.prog.veiledRec x) = true := by kernel_rfl
theorem k31 : (Rows.diskCrashesUptoRow.veiledFits Try.prog Try.f12.params.toList (Try.f12.params.toList ++ DataSpec.varTypes Try.prog (OpenSpec.bare (Rows.OpenSpec.upto Rows.diskCrashesSpec)).plain ++ Try.f12.resultTypes.toList)) = true := by kernel_rfl
theorem joined : joinedFacts Try.prog 12 Try.f12 (OpenSpec.bare (Rows.OpenSpec.upto Rows.diskCrashesSpec)) Rows.diskCrashesUptoRow = true := by
  unfold joinedFacts
  exact (and_t (and_t (and_t (and_t (and_t (and_t (and_t (and_t (and_t (and_t (and_t (and_t (and_t (and_t (and_t (and_t (and_t (and_t (and_t (and_t (and_t (and_t (and_t (and_t (and_t (and_t (and_t (and_t (and_t (and_t (and_t k0 fLaidOut) fMapsRowed) k3) k4) k5) fStops) k7) fStopKnobs) k9) k10) k11) k12) k13) k14) k15) k16) k17) k18) k19) k20) k21) (eq_t fPlainKeys)) k23) fStopsHeard) fMayEnter) (eq_t fLiftsFinal)) (some_t rfl)) k28) k29) k30) k31)
theorem hpar : ∀ t ∈ Try.f12.params.toList, Try.prog.readableRec t = true ∧ t < Try.prog.types.size := by
  have h : (Try.f12.params.toList.all fun t => Try.prog.readableRec t && decide (t < Try.prog.types.size)) = true := by kernel_rfl
  intro t ht
  have h1 := List.all_eq_true.1 h t ht
  rw [Bool.and_eq_true] at h1
  exact ⟨h1.1, of_decide_eq_true h1.2⟩
theorem hfn {H : Type} : ∀ ds gs : List (DataW H), ds.length = Try.f12.params.toList.length → gs = [] → Rows.diskCrashesSpec.fn H (ds ++ gs) = { results := [.lit (.bool true)], args := ds } := by
  intro ds gs hd hg
  subst hg
  rw [List.append_nil]
  have hd' : ds.length = 2 := hd
  clear hd
  match ds, hd' with
  | [d0, d1], _ => rfl
theorem lifted (os : Os) (started : os.Started) (H : Type) (enc : TypeId × Value → H) (F : Stop.Interp) :
    ReturnsInHanded {} Try.checked os 12 .any ((Rows.OpenSpec.upto Rows.diskCrashesSpec).pre6 enc Try.prog Try.f12 Rows.diskCrashesUptoRow.domain false) (((Rows.OpenSpec.upto Rows.diskCrashesSpec).at F).post enc Try.prog Try.f12 false true false false) := by
  refine returnsInHanded_of_cond (C := Try.checked) (s := Rows.OpenSpec.upto Rows.diskCrashesSpec) (k := Rows.uptoSmall) rfl fOwn started (by kernel_rfl) Try.func12
    (OpenSpec.witness (enc := enc) (C := Try.checked) (s := Rows.OpenSpec.upto Rows.diskCrashesSpec) (k := Rows.uptoSmall) rfl false ⟨#[], #[.agg #[.int .i64 0, .bool false, .slice none 0 0], .slice none 0 0], []⟩ 8 (by kernel_rfl) (by kernel_rfl) (by kernel_rfl)
      (x := ([.agg [.lit (.int .i64 0), .lit (.bool false), .agg [.nil]], .nil], [], [])) (by kernel_rfl) rfl (by kernel_rfl)) ?_
  intro W base args ds gs before hval hW _ hk _
  refine (law enc W base args ds gs before hval hW hk).mono fun e W' h => ?_
  obtain ⟨he, hb⟩ := h
  subst he
  exact ⟨_, rfl, post_law fLaidOut hpar rfl Try.underlying4 rfl hfn hW hb⟩
theorem over : Rows.diskCrashesUptoRow.holds Try.pinned (Rows.OpenSpec.upto Rows.diskCrashesSpec) :=
  OpenClaim.holds_of_cond 12 Try.f12 rfl rfl rfl rfl rfl rfl rfl ⟨rfl, rfl, rfl, rfl, rfl⟩ rfl rfl rfl rfl rfl (by kernel_rfl) Try.func12 joined
    (of_decide_eq_true (by kernel_rfl)) (by unfold Func.isWrapper; rw [if_neg (of_decide_eq_false (by kernel_rfl))]; exact ⟨rfl, rfl⟩)
    (fun os started H enc _ F => lifted os started H enc F)
theorem proved : Rows.DiskCrashesUptoSaid := over
end Go.Proofs.Ytnppneilbkmnfaa.diskCrashes
