/- Proved: the law DiskBack (assent/assentlaw06.DiskBack) returns true for every input of bulk at most 1048576, and every argument reads behind the call as it read before. The condition: the arguments hold together at most 1048576 values and letters. -/
import Derived.Test.YtnppneilbkmnfaaFacts
import Derived.Test.YtnppneilbkmnfaaLawDiskBack
namespace Go.Proofs.Ytnppneilbkmnfaa.diskBack
open Go.ChangeShapes Go.WideShapes Go.ChangeAt Go.RowKit
set_option maxRecDepth 100000
theorem k0 : (OpenClaim.wf (OpenSpec.ofChange (OpenSpec.bare (Rows.OpenSpec.upto Rows.diskBackSpec))) Rows.diskBackUptoRow) = true := by kernel_rfl
theorem k3 : (Try.f7.params.all fun x => Try.prog.readableRec x) = true := by kernel_rfl
theorem k4 : (namedTie Try.prog Rows.diskBackUptoRow.named (OpenSpec.bare (Rows.OpenSpec.upto Rows.diskBackSpec)).vars) = true := by kernel_rfl
theorem k5 : (Rows.diskBackUptoRow.stops == []) = true := by kernel_rfl
theorem k7 : (Rows.diskBackUptoRow.knobs == []) = true := by kernel_rfl
theorem k9 : (Rows.diskBackUptoRow.inPlace == Try.prog.inPlace 7) = true := by kernel_rfl
theorem k10 : (Rows.diskBackUptoRow.unfollowed == Try.prog.unfollowed 7) = true := by kernel_rfl
theorem k11 : (Rows.diskBackUptoRow.recurses == Try.prog.recurses 7) = true := by kernel_rfl
theorem k12 : (Rows.diskBackUptoRow.named == Try.prog.varsNamed 7) = true := by kernel_rfl
theorem k13 : (Rows.diskBackUptoRow.maps == (Try.f7.params.toList ++ DataSpec.varTypes Try.prog (OpenSpec.bare (Rows.OpenSpec.upto Rows.diskBackSpec)).plain).any fun x => Try.prog.mapsRec x) = true := by kernel_rfl
theorem k14 : (Rows.diskBackUptoRow.ifaces == (Try.f7.params.toList ++ DataSpec.varTypes Try.prog (OpenSpec.bare (Rows.OpenSpec.upto Rows.diskBackSpec)).plain).any fun x => Try.prog.ifacesRec x) = true := by kernel_rfl
theorem k15 : (Rows.diskBackUptoRow.mapsOut == Try.prog.mapsAmong Try.f7.resultTypes.toList) = true := by kernel_rfl
theorem k16 : (Rows.diskBackUptoRow.loops == (Try.f7.params.toList ++ DataSpec.varTypes Try.prog (OpenSpec.bare (Rows.OpenSpec.upto Rows.diskBackSpec)).plain).any fun x => Try.prog.loopsFrom x) = true := by kernel_rfl
theorem k17 : (Rows.diskBackUptoRow.wideKeys == (Try.f7.params.toList ++ DataSpec.varTypes Try.prog (OpenSpec.bare (Rows.OpenSpec.upto Rows.diskBackSpec)).plain ++ Try.f7.resultTypes.toList).any fun x => Try.prog.wideKeysFrom x) = true := by kernel_rfl
theorem k18 : ((OpenSpec.bare (Rows.OpenSpec.upto Rows.diskBackSpec)).vars.all fun x => Try.prog.varReadable x) = true := by kernel_rfl
theorem k19 : (Try.f7.resultTypes.all fun t => Try.prog.readableRec t && decide (t < Try.prog.types.size)) = true := by kernel_rfl
theorem k20 : (Rows.diskBackUptoRow.ifacesOut == Try.f7.resultTypes.toList.any fun x => Try.prog.ifacesRec x) = true := by kernel_rfl
theorem k21 : (Rows.diskBackUptoRow.loopsOut == Try.f7.resultTypes.toList.any fun x => Try.prog.loopsFrom x) = true := by kernel_rfl
theorem k23 : (Rows.diskBackUptoRow.shortTexts.isNone) = true := by kernel_rfl
theorem k28 : (Rows.diskBackUptoRow.kinds == if Rows.diskBackUptoRow.domain.isEmpty = true then [] else List.map (fun t => match Try.prog.underlying t with | some (TypeDesc.int k) => some k | _ => none) Try.f7.params.toList) = true := by kernel_rfl
theorem k29 : (Rows.diskBackUptoRow.pinned == Rows.diskBackUptoRow.pinnedBy) = true := by kernel_rfl
theorem k30 : (Rows.diskBackUptoRow.veiled == (Try.f7.params.toList ++ DataSpec.varTypes Try.prog (OpenSpec.bare (Rows.OpenSpec.upto Rows.diskBackSpec)).plain ++ Try.f7.resultTypes.toList).any fun x => Try.prog.veiledRec x) = true := by kernel_rfl
theorem k31 : (Rows.diskBackUptoRow.veiledFits Try.prog Try.f7.params.toList (Try.f7.params.toList ++ DataSpec.varTypes Try.prog (OpenSpec.bare (Rows.OpenSpec.upto Rows.diskBackSpec)).plain ++ Try.f7.resultTypes.toList)) = true := by kernel_rfl
theorem joined : joinedFacts Try.prog 7 Try.f7 (OpenSpec.bare (Rows.OpenSpec.upto Rows.diskBackSpec)) Rows.diskBackUptoRow = true := by
  unfold joinedFacts
  exact (and_t (and_t (and_t (and_t (and_t (and_t (and_t (and_t (and_t (and_t (and_t (and_t (and_t (and_t (and_t (and_t (and_t (and_t (and_t (and_t (and_t (and_t (and_t (and_t (and_t (and_t (and_t (and_t (and_t (and_t (and_t k0 fLaidOut) fMapsRowed) k3) k4) k5) fStops) k7) fStopKnobs) k9) k10) k11) k12) k13) k14) k15) k16) k17) k18) k19) k20) k21) (eq_t fPlainKeys)) k23) fStopsHeard) fMayEnter) (eq_t fLiftsFinal)) (some_t rfl)) k28) k29) k30) k31)
theorem hpar : ∀ t ∈ Try.f7.params.toList, Try.prog.readableRec t = true ∧ t < Try.prog.types.size := by
  have h : (Try.f7.params.toList.all fun t => Try.prog.readableRec t && decide (t < Try.prog.types.size)) = true := by kernel_rfl
  intro t ht
  have h1 := List.all_eq_true.1 h t ht
  rw [Bool.and_eq_true] at h1
  exact ⟨h1.1, of_decide_eq_true h1.2⟩
theorem hfn {H : Type} : ∀ ds gs : List (DataW H), ds.length = Try.f7.params.toList.length → gs = [] → Rows.diskBackSpec.fn H (ds ++ gs) = { results := [.lit (.bool true)], args := ds } := by
  intro ds gs hd hg
  subst hg
  rw [List.append_nil]
  have hd' : ds.length = 6 := hd
  clear hd
  match ds, hd' with
  | [d0, d1, d2, d3, d4, d5], _ => rfl
theorem lifted (os : Os) (started : os.Started) (H : Type) (enc : TypeId × Value → H) (F : Stop.Interp) :
    ReturnsInHanded {} Try.checked os 7 .any ((Rows.OpenSpec.upto Rows.diskBackSpec).pre6 enc Try.prog Try.f7 Rows.diskBackUptoRow.domain false) (((Rows.OpenSpec.upto Rows.diskBackSpec).at F).post enc Try.prog Try.f7 false true false false) := by
  refine returnsInHanded_of_cond (C := Try.checked) (s := Rows.OpenSpec.upto Rows.diskBackSpec) (k := Rows.uptoSmall) rfl fOwn started (by kernel_rfl) Try.func7
    (OpenSpec.witness (enc := enc) (C := Try.checked) (s := Rows.OpenSpec.upto Rows.diskBackSpec) (k := Rows.uptoSmall) rfl false ⟨#[], #[.agg #[.int .i64 0, .bool false, .slice none 0 0], .slice none 0 0, .slice none 0 0, .int .u8 0, .slice none 0 0, .int .u8 0], []⟩ 8 (by kernel_rfl) (by kernel_rfl) (by kernel_rfl)
      (x := ([.agg [.lit (.int .i64 0), .lit (.bool false), .agg [.nil]], .nil, .nil, .lit (.int .u8 0), .nil, .lit (.int .u8 0)], [], [])) (by kernel_rfl) rfl (by kernel_rfl)) ?_
  intro W base args ds gs before hval hW _ hk _
  refine (law enc W base args ds gs before hval hW hk).mono fun e W' h => ?_
  obtain ⟨he, hb⟩ := h
  subst he
  exact ⟨_, rfl, post_law fLaidOut hpar rfl Try.underlying4 rfl hfn hW hb⟩
theorem over : Rows.diskBackUptoRow.holds Try.pinned (Rows.OpenSpec.upto Rows.diskBackSpec) :=
  OpenClaim.holds_of_cond 7 Try.f7 rfl rfl rfl rfl rfl rfl rfl ⟨rfl, rfl, rfl, rfl, rfl⟩ rfl rfl rfl rfl rfl (by kernel_rfl) Try.func7 joined
    (of_decide_eq_true (by kernel_rfl)) (by unfold Func.isWrapper; rw [if_neg (of_decide_eq_false (by kernel_rfl))]; exact ⟨rfl, rfl⟩)
    (fun os started H enc _ F => lifted os started H enc F)
theorem proved : Rows.DiskBackUptoSaid := over
end Go.Proofs.Ytnppneilbkmnfaa.diskBack
