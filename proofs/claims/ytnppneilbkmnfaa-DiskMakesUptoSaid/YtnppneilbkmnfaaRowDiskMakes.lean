/- Proved: the law DiskMakes (assent/assentlaw06.DiskMakes) returns true for every input of bulk at most 1048576, and every argument reads behind the call as it read before. The condition: the arguments hold together at most 1048576 values and letters. -/
import Derived.Test.YtnppneilbkmnfaaFacts
import Derived.Test.YtnppneilbkmnfaaLawDiskMakes
namespace Go.Proofs.Ytnppneilbkmnfaa.diskMakes
open Go.ChangeShapes Go.WideShapes Go.ChangeAt Go.RowKit
set_option maxRecDepth 100000
theorem k0 : (OpenClaim.wf (OpenSpec.ofChange (OpenSpec.bare (Rows.OpenSpec.upto Rows.diskMakesSpec))) Rows.diskMakesUptoRow) = true := by kernel_rfl
theorem k3 : (Try.f9.params.all fun x => Try.prog.readableRec x) = true := by kernel_rfl
theorem k4 : (namedTie Try.prog Rows.diskMakesUptoRow.named (OpenSpec.bare (Rows.OpenSpec.upto Rows.diskMakesSpec)).vars) = true := by kernel_rfl
theorem k5 : (Rows.diskMakesUptoRow.stops == []) = true := by kernel_rfl
theorem k7 : (Rows.diskMakesUptoRow.knobs == []) = true := by kernel_rfl
theorem k9 : (Rows.diskMakesUptoRow.inPlace == Try.prog.inPlace 9) = true := by kernel_rfl
theorem k10 : (Rows.diskMakesUptoRow.unfollowed == Try.prog.unfollowed 9) = true := by kernel_rfl
theorem k11 : (Rows.diskMakesUptoRow.recurses == Try.prog.recurses 9) = true := by kernel_rfl
theorem k12 : (Rows.diskMakesUptoRow.named == Try.prog.varsNamed 9) = true := by kernel_rfl
theorem k13 : (Rows.diskMakesUptoRow.maps == (Try.f9.params.toList ++ DataSpec.varTypes Try.prog (OpenSpec.bare (Rows.OpenSpec.upto Rows.diskMakesSpec)).plain).any fun x => Try.prog.mapsRec x) = true := by kernel_rfl
theorem k14 : (Rows.diskMakesUptoRow.ifaces == (Try.f9.params.toList ++ DataSpec.varTypes Try.prog (OpenSpec.bare (Rows.OpenSpec.upto Rows.diskMakesSpec)).plain).any fun x => Try.prog.ifacesRec x) = true := by kernel_rfl
theorem k15 : (Rows.diskMakesUptoRow.mapsOut == Try.prog.mapsAmong Try.f9.resultTypes.toList) = true := by kernel_rfl
theorem k16 : (Rows.diskMakesUptoRow.loops == (Try.f9.params.toList ++ DataSpec.varTypes Try.prog (OpenSpec.bare (Rows.OpenSpec.upto Rows.diskMakesSpec)).plain).any fun x => Try.prog.loopsFrom x) = true := by kernel_rfl
theorem k17 : (Rows.diskMakesUptoRow.wideKeys == (Try.f9.params.toList ++ DataSpec.varTypes Try.prog (OpenSpec.bare (Rows.OpenSpec.upto Rows.diskMakesSpec)).plain ++ Try.f9.resultTypes.toList).any fun x => Try.prog.wideKeysFrom x) = true := by kernel_rfl
theorem k18 : ((OpenSpec.bare (Rows.OpenSpec.upto Rows.diskMakesSpec)).vars.all fun x => Try.prog.varReadable x) = true := by kernel_rfl
theorem k19 : (Try.f9.resultTypes.all fun t => Try.prog.readableRec t && decide (t < Try.prog.types.size)) = true := by kernel_rfl
theorem k20 : (Rows.diskMakesUptoRow.ifacesOut == Try.f9.resultTypes.toList.any fun x => Try.prog.ifacesRec x) = true := by kernel_rfl
theorem k21 : (Rows.diskMakesUptoRow.loopsOut == Try.f9.resultTypes.toList.any fun x => Try.prog.loopsFrom x) = true := by kernel_rfl
theorem k23 : (Rows.diskMakesUptoRow.shortTexts.isNone) = true := by kernel_rfl
theorem k28 : (Rows.diskMakesUptoRow.kinds == if Rows.diskMakesUptoRow.domain.isEmpty = true then [] else List.map (fun t => match Try.prog.underlying t with | some (TypeDesc.int k) => some k | _ => none) Try.f9.params.toList) = true := by kernel_rfl
theorem k29 : (Rows.diskMakesUptoRow.pinned == Rows.diskMakesUptoRow.pinnedBy) = true := by kernel_rfl
theorem k30 : (Rows.diskMakesUptoRow.veiled == (Try.f9.params.toList ++ DataSpec.varTypes Try.prog (OpenSpec.bare (Rows.OpenSpec.upto Rows.diskMakesSpec)).plain ++ Try.f9.resultTypes.toList).any fun x => Try.prog.veiledRec x) = true := by kernel_rfl
theorem k31 : (Rows.diskMakesUptoRow.veiledFits Try.prog Try.f9.params.toList (Try.f9.params.toList ++ DataSpec.varTypes Try.prog (OpenSpec.bare (Rows.OpenSpec.upto Rows.diskMakesSpec)).plain ++ Try.f9.resultTypes.toList)) = true := by kernel_rfl
theorem joined : joinedFacts Try.prog 9 Try.f9 (OpenSpec.bare (Rows.OpenSpec.upto Rows.diskMakesSpec)) Rows.diskMakesUptoRow = true := by
  unfold joinedFacts
  exact (and_t (and_t (and_t (and_t (and_t (and_t (and_t (and_t (and_t (and_t (and_t (and_t (and_t (and_t (and_t (and_t (and_t (and_t (and_t (and_t (and_t (and_t (and_t (and_t (and_t (and_t (and_t (and_t (and_t (and_t (and_t k0 fLaidOut) fMapsRowed) k3) k4) k5) fStops) k7) fStopKnobs) k9) k10) k11) k12) k13) k14) k15) k16) k17) k18) k19) k20) k21) (eq_t fPlainKeys)) k23) fStopsHeard) fMayEnter) (eq_t fLiftsFinal)) (some_t rfl)) k28) k29) k30) k31)
theorem hpar : ∀ t ∈ Try.f9.params.toList, Try.prog.readableRec t = true ∧ t < Try.prog.types.size := by
  have h : (Try.f9.params.toList.all fun t => Try.prog.readableRec t && decide (t < Try.prog.types.size)) = true := by kernel_rfl
  intro t ht
  have h1 := List.all_eq_true.1 h t ht
  rw [Bool.and_eq_true] at h1
  exact ⟨h1.1, of_decide_eq_true h1.2⟩
theorem hfn {H : Type} : ∀ ds gs : List (DataW H), ds.length = Try.f9.params.toList.length → gs = [] → Rows.diskMakesSpec.fn H (ds ++ gs) = { results := [.lit (.bool true)], args := ds } := by
  intro ds gs hd hg
  subst hg
  rw [List.append_nil]
  have hd' : ds.length = 1 := hd
  clear hd
  match ds, hd' with
  | [d0], _ => rfl
theorem lifted (os : Os) (started : os.Started) (H : Type) (enc : TypeId × Value → H) (F : Stop.Interp) :
    ReturnsInHanded {} Try.checked os 9 .any ((Rows.OpenSpec.upto Rows.diskMakesSpec).pre6 enc Try.prog Try.f9 Rows.diskMakesUptoRow.domain false) (((Rows.OpenSpec.upto Rows.diskMakesSpec).at F).post enc Try.prog Try.f9 false true false false) := by
  refine returnsInHanded_of_cond (C := Try.checked) (s := Rows.OpenSpec.upto Rows.diskMakesSpec) (k := Rows.uptoSmall) rfl fOwn started (by kernel_rfl) Try.func9
    (OpenSpec.witness (enc := enc) (C := Try.checked) (s := Rows.OpenSpec.upto Rows.diskMakesSpec) (k := Rows.uptoSmall) rfl false ⟨#[], #[.agg #[.int .i64 0, .bool false, .slice none 0 0]], []⟩ 8 (by kernel_rfl) (by kernel_rfl) (by kernel_rfl)
      (x := ([.agg [.lit (.int .i64 0), .lit (.bool false), .agg [.nil]]], [], [])) (by kernel_rfl) rfl (by kernel_rfl)) ?_
  intro W base args ds gs before hval hW _ hk _
  refine (law enc W base args ds gs before hval hW hk).mono fun e W' h => ?_
  obtain ⟨he, hb⟩ := h
  subst he
  exact ⟨_, rfl, post_law fLaidOut hpar rfl Try.underlying4 rfl hfn hW hb⟩
theorem over : Rows.diskMakesUptoRow.holds Try.pinned (Rows.OpenSpec.upto Rows.diskMakesSpec) :=
  OpenClaim.holds_of_cond 9 Try.f9 rfl rfl rfl rfl rfl rfl rfl ⟨rfl, rfl, rfl, rfl, rfl⟩ rfl rfl rfl rfl rfl (by kernel_rfl) Try.func9 joined
    (of_decide_eq_true (by kernel_rfl)) (by unfold Func.isWrapper; rw [if_neg (of_decide_eq_false (by kernel_rfl))]; exact ⟨rfl, rfl⟩)
    (fun os started H enc _ F => lifted os started H enc F)
theorem proved : Rows.DiskMakesUptoSaid := over
end Go.Proofs.Ytnppneilbkmnfaa.diskMakes
