/- Proved: the law DiskFaults (assent/assentlaw06.DiskFaults) returns true for every input of bulk at most 1048576, and every argument reads behind the call as it read before. The condition: the arguments hold together at most 1048576 values and letters. -/
import Derived.Test.YtnppneilbkmnfaaFacts
import Derived.Test.YtnppneilbkmnfaaLawDiskFaults
namespace Go.Proofs.Ytnppneilbkmnfaa.diskFaults
open Go.ChangeShapes Go.WideShapes Go.ChangeAt Go.RowKit
set_option maxRecDepth 100000
theorem k0 : (OpenClaim.wf (OpenSpec.ofChange (OpenSpec.bare (Rows.OpenSpec.upto Rows.diskFaultsSpec))) Rows.diskFaultsUptoRow) = true := by kernel_rfl
theorem k3 : (Try.f4.params.all fun x => Try.prog.readableRec x) = true := by kernel_rfl
theorem k4 : (namedTie Try.prog Rows.diskFaultsUptoRow.named (OpenSpec.bare (Rows.OpenSpec.upto Rows.diskFaultsSpec)).vars) = true := by kernel_rfl
theorem k5 : (Rows.diskFaultsUptoRow.stops == []) = true := by kernel_rfl
theorem k7 : (Rows.diskFaultsUptoRow.knobs == []) = true := by kernel_rfl
theorem k9 : (Rows.diskFaultsUptoRow.inPlace == Try.prog.inPlace 4) = true := by kernel_rfl
theorem k10 : (Rows.diskFaultsUptoRow.unfollowed == Try.prog.unfollowed 4) = true := by kernel_rfl
theorem k11 : (Rows.diskFaultsUptoRow.recurses == Try.prog.recurses 4) = true := by kernel_rfl
theorem k12 : (Rows.diskFaultsUptoRow.named == Try.prog.varsNamed 4) = true := by kernel_rfl
theorem k13 : (Rows.diskFaultsUptoRow.maps == (Try.f4.params.toList ++ DataSpec.varTypes Try.prog (OpenSpec.bare (Rows.OpenSpec.upto Rows.diskFaultsSpec)).plain).any fun x => Try.prog.mapsRec x) = true := by kernel_rfl
theorem k14 : (Rows.diskFaultsUptoRow.ifaces == (Try.f4.params.toList ++ DataSpec.varTypes Try.prog (OpenSpec.bare (Rows.OpenSpec.upto Rows.diskFaultsSpec)).plain).any fun x => Try.prog.ifacesRec x) = true := by kernel_rfl
theorem k15 : (Rows.diskFaultsUptoRow.mapsOut == Try.prog.mapsAmong Try.f4.resultTypes.toList) = true := by kernel_rfl
theorem k16 : (Rows.diskFaultsUptoRow.loops == (Try.f4.params.toList ++ DataSpec.varTypes Try.prog (OpenSpec.bare (Rows.OpenSpec.upto Rows.diskFaultsSpec)).plain).any fun x => Try.prog.loopsFrom x) = true := by kernel_rfl
theorem k17 : (Rows.diskFaultsUptoRow.wideKeys == (Try.f4.params.toList ++ DataSpec.varTypes Try.prog (OpenSpec.bare (Rows.OpenSpec.upto Rows.diskFaultsSpec)).plain ++ Try.f4.resultTypes.toList).any fun x => Try.prog.wideKeysFrom x) = true := by kernel_rfl
theorem k18 : ((OpenSpec.bare (Rows.OpenSpec.upto Rows.diskFaultsSpec)).vars.all fun x => Try.prog.varReadable x) = true := by kernel_rfl
theorem k19 : (Try.f4.resultTypes.all fun t => Try.prog.readableRec t && decide (t < Try.prog.types.size)) = true := by kernel_rfl
theorem k20 : (Rows.diskFaultsUptoRow.ifacesOut == Try.f4.resultTypes.toList.any fun x => Try.prog.ifacesRec x) = true := by kernel_rfl
theorem k21 : (Rows.diskFaultsUptoRow.loopsOut == Try.f4.resultTypes.toList.any fun x => Try.prog.loopsFrom x) = true := by kernel_rfl
theorem k23 : (Rows.diskFaultsUptoRow.shortTexts.isNone) = true := by kernel_rfl
theorem k28 : (Rows.diskFaultsUptoRow.kinds == if Rows.diskFaultsUptoRow.domain.isEmpty = true then [] else List.map (fun t => match Try.prog.underlying t with | some (TypeDesc.int k) => some k | _ => none) Try.f4.params.toList) = true := by kernel_rfl
theorem k29 : (Rows.diskFaultsUptoRow.pinned == Rows.diskFaultsUptoRow.pinnedBy) = true := by kernel_rfl
theorem k30 : (Rows.diskFaultsUptoRow.veiled == (Try.f4.params.toList ++ DataSpec.varTypes Try.prog (OpenSpec.bare (Rows.OpenSpec.upto Rows.diskFaultsSpec)).plain ++ Try.f4.resultTypes.toList).any fun x => Try.prog.veiledRec x) = true := by kernel_rfl
theorem k31 : (Rows.diskFaultsUptoRow.veiledFits Try.prog Try.f4.params.toList (Try.f4.params.toList ++ DataSpec.varTypes Try.prog (OpenSpec.bare (Rows.OpenSpec.upto Rows.diskFaultsSpec)).plain ++ Try.f4.resultTypes.toList)) = true := by kernel_rfl
theorem joined : joinedFacts Try.prog 4 Try.f4 (OpenSpec.bare (Rows.OpenSpec.upto Rows.diskFaultsSpec)) Rows.diskFaultsUptoRow = true := by
  unfold joinedFacts
  exact (and_t (and_t (and_t (and_t (and_t (and_t (and_t (and_t (and_t (and_t (and_t (and_t (and_t (and_t (and_t (and_t (and_t (and_t (and_t (and_t (and_t (and_t (and_t (and_t (and_t (and_t (and_t (and_t (and_t (and_t (and_t k0 fLaidOut) fMapsRowed) k3) k4) k5) fStops) k7) fStopKnobs) k9) k10) k11) k12) k13) k14) k15) k16) k17) k18) k19) k20) k21) (eq_t fPlainKeys)) k23) fStopsHeard) fMayEnter) (eq_t fLiftsFinal)) (some_t rfl)) k28) k29) k30) k31)
theorem hpar : ∀ t ∈ Try.f4.params.toList, Try.prog.readableRec t = true ∧ t < Try.prog.types.size := by
  have h : (Try.f4.params.toList.all fun t => Try.prog.readableRec t && decide (t < Try.prog.types.size)) = true := by kernel_rfl
  intro t ht
  have h1 := List.all_eq_true.1 h t ht
  rw [Bool.and_eq_true] at h1
  exact ⟨h1.1, of_decide_eq_true h1.2⟩
theorem hfn {H : Type} : ∀ ds gs : List (DataW H), ds.length = Try.f4.params.toList.length → gs = [] → Rows.diskFaultsSpec.fn H (ds ++ gs) = { results := [.lit (.bool true)], args := ds } := by
  intro ds gs hd hg
  subst hg
  rw [List.append_nil]
  have hd' : ds.length = 4 := hd
  clear hd
  match ds, hd' with
  | [d0, d1, d2, d3], _ => rfl
theorem lifted (os : Os) (started : os.Started) (H : Type) (enc : TypeId × Value → H) (F : Stop.Interp) :
    ReturnsInHanded {} Try.checked os 4 .any ((Rows.OpenSpec.upto Rows.diskFaultsSpec).pre6 enc Try.prog Try.f4 Rows.diskFaultsUptoRow.domain false) (((Rows.OpenSpec.upto Rows.diskFaultsSpec).at F).post enc Try.prog Try.f4 false true false false) := by
  refine returnsInHanded_of_cond (C := Try.checked) (s := Rows.OpenSpec.upto Rows.diskFaultsSpec) (k := Rows.uptoSmall) rfl fOwn started (by kernel_rfl) Try.func4
    (OpenSpec.witness (enc := enc) (C := Try.checked) (s := Rows.OpenSpec.upto Rows.diskFaultsSpec) (k := Rows.uptoSmall) rfl false ⟨#[], #[.agg #[.int .i64 0, .bool false, .slice none 0 0], .slice none 0 0, .agg #[.int .i64 0, .int .i64 0, .string ⟨#[]⟩, .slice none 0 0, .int .i64 0, .int .i64 0, .int .i64 0, .bool false, .slice none 0 0, .int .u8 0], .slice none 0 0], []⟩ 8 (by kernel_rfl) (by kernel_rfl) (by kernel_rfl)
      (x := ([.agg [.lit (.int .i64 0), .lit (.bool false), .agg [.nil]], .nil, .agg [.lit (.int .i64 0), .lit (.int .i64 0), .lit (.string []), .nil, .lit (.int .i64 0), .agg [.lit (.int .i64 0), .lit (.int .i64 0), .lit (.bool false)], .nil, .lit (.int .u8 0)], .nil], [], [])) (by kernel_rfl) rfl (by kernel_rfl)) ?_
  intro W base args ds gs before hval hW _ hk _
  refine (law enc W base args ds gs before hval hW hk).mono fun e W' h => ?_
  obtain ⟨he, hb⟩ := h
  subst he
  exact ⟨_, rfl, post_law fLaidOut hpar rfl Try.underlying4 rfl hfn hW hb⟩
theorem over : Rows.diskFaultsUptoRow.holds Try.pinned (Rows.OpenSpec.upto Rows.diskFaultsSpec) :=
  OpenClaim.holds_of_cond 4 Try.f4 rfl rfl rfl rfl rfl rfl rfl ⟨rfl, rfl, rfl, rfl, rfl⟩ rfl rfl rfl rfl rfl (by kernel_rfl) Try.func4 joined
    (of_decide_eq_true (by kernel_rfl)) (by unfold Func.isWrapper; rw [if_neg (of_decide_eq_false (by kernel_rfl))]; exact ⟨rfl, rfl⟩)
    (fun os started H enc _ F => lifted os started H enc F)
theorem proved : Rows.DiskFaultsUptoSaid := over
end Go.Proofs.Ytnppneilbkmnfaa.diskFaults
