/- Proved: the law DiskAll (assent/assentlaw06.DiskAll) returns true for every input of bulk at most 1048576, and every argument reads behind the call as it read before. The condition: the arguments hold together at most 1048576 values and letters. -/
import Derived.Test.YtnppneilbkmnfaaFacts
import Derived.Test.YtnppneilbkmnfaaLawDiskAll
namespace Go.Proofs.Ytnppneilbkmnfaa.diskAll
open Go.ChangeShapes Go.WideShapes Go.ChangeAt Go.RowKit
set_option maxRecDepth 100000
theorem k0 : (OpenClaim.wf (OpenSpec.ofChange (OpenSpec.bare (Rows.OpenSpec.upto Rows.diskAllSpec))) Rows.diskAllUptoRow) = true := by kernel_rfl
theorem k3 : (Try.f13.params.all fun x => Try.prog.readableRec x) = true := by kernel_rfl
theorem k4 : (namedTie Try.prog Rows.diskAllUptoRow.named (OpenSpec.bare (Rows.OpenSpec.upto Rows.diskAllSpec)).vars) = true := by kernel_rfl
theorem k5 : (Rows.diskAllUptoRow.stops == []) = true := by kernel_rfl
theorem k7 : (Rows.diskAllUptoRow.knobs == []) = true := by kernel_rfl
theorem k9 : (Rows.diskAllUptoRow.inPlace == Try.prog.inPlace 13) = true := by kernel_rfl
theorem k10 : (Rows.diskAllUptoRow.unfollowed == Try.prog.unfollowed 13) = true := by kernel_rfl
theorem k11 : (Rows.diskAllUptoRow.recurses == Try.prog.recurses 13) = true := by kernel_rfl
theorem k12 : (Rows.diskAllUptoRow.named == Try.prog.varsNamed 13) = true := by kernel_rfl
theorem k13 : (Rows.diskAllUptoRow.maps == (Try.f13.params.toList ++ DataSpec.varTypes Try.prog (OpenSpec.bare (Rows.OpenSpec.upto Rows.diskAllSpec)).plain).any fun x => Try.prog.mapsRec x) = true := by kernel_rfl
theorem k14 : (Rows.diskAllUptoRow.ifaces == (Try.f13.params.toList ++ DataSpec.varTypes Try.prog (OpenSpec.bare (Rows.OpenSpec.upto Rows.diskAllSpec)).plain).any fun x => Try.prog.ifacesRec x) = true := by kernel_rfl
theorem k15 : (Rows.diskAllUptoRow.mapsOut == Try.prog.mapsAmong Try.f13.resultTypes.toList) = true := by kernel_rfl
theorem k16 : (Rows.diskAllUptoRow.loops == (Try.f13.params.toList ++ DataSpec.varTypes Try.prog (OpenSpec.bare (Rows.OpenSpec.upto Rows.diskAllSpec)).plain).any fun x => Try.prog.loopsFrom x) = true := by kernel_rfl
theorem k17 : (Rows.diskAllUptoRow.wideKeys == (Try.f13.params.toList ++ DataSpec.varTypes Try.prog (OpenSpec.bare (Rows.OpenSpec.upto Rows.diskAllSpec)).plain ++ Try.f13.resultTypes.toList).any fun x => Try.prog.wideKeysFrom x) = true := by kernel_rfl
theorem k18 : ((OpenSpec.bare (Rows.OpenSpec.upto Rows.diskAllSpec)).vars.all fun x => Try.prog.varReadable x) = true := by kernel_rfl
theorem k19 : (Try.f13.resultTypes.all fun t => Try.prog.readableRec t && decide (t < Try.prog.types.size)) = true := by kernel_rfl
theorem k20 : (Rows.diskAllUptoRow.ifacesOut == Try.f13.resultTypes.toList.any fun x => Try.prog.ifacesRec x) = true := by kernel_rfl
theorem k21 : (Rows.diskAllUptoRow.loopsOut == Try.f13.resultTypes.toList.any fun x => Try.prog.loopsFrom x) = true := by kernel_rfl
theorem k23 : (Rows.diskAllUptoRow.shortTexts.isNone) = true := by kernel_rfl
theorem k28 : (Rows.diskAllUptoRow.kinds == if Rows.diskAllUptoRow.domain.isEmpty = true then [] else List.map (fun t => match Try.prog.underlying t with | some (TypeDesc.int k) => some k | _ => none) Try.f13.params.toList) = true := by kernel_rfl
theorem k29 : (Rows.diskAllUptoRow.pinned == Rows.diskAllUptoRow.pinnedBy) = true := by kernel_rfl
theorem k30 : (Rows.diskAllUptoRow.veiled == (Try.f13.params.toList ++ DataSpec.varTypes Try.prog (OpenSpec.bare (Rows.OpenSpec.upto Rows.diskAllSpec)).plain ++ Try.f13.resultTypes.toList).any fun x => Try.prog.veiledRec x) = true := by kernel_rfl
theorem k31 : (Rows.diskAllUptoRow.veiledFits Try.prog Try.f13.params.toList (Try.f13.params.toList ++ DataSpec.varTypes Try.prog (OpenSpec.bare (Rows.OpenSpec.upto Rows.diskAllSpec)).plain ++ Try.f13.resultTypes.toList)) = true := by kernel_rfl
theorem joined : joinedFacts Try.prog 13 Try.f13 (OpenSpec.bare (Rows.OpenSpec.upto Rows.diskAllSpec)) Rows.diskAllUptoRow = true := by
  unfold joinedFacts
  exact (and_t (and_t (and_t (and_t (and_t (and_t (and_t (and_t (and_t (and_t (and_t (and_t (and_t (and_t (and_t (and_t (and_t (and_t (and_t (and_t (and_t (and_t (and_t (and_t (and_t (and_t (and_t (and_t (and_t (and_t (and_t k0 fLaidOut) fMapsRowed) k3) k4) k5) fStops) k7) fStopKnobs) k9) k10) k11) k12) k13) k14) k15) k16) k17) k18) k19) k20) k21) (eq_t fPlainKeys)) k23) fStopsHeard) fMayEnter) (eq_t fLiftsFinal)) (some_t rfl)) k28) k29) k30) k31)
theorem hpar : ∀ t ∈ Try.f13.params.toList, Try.prog.readableRec t = true ∧ t < Try.prog.types.size := by
  have h : (Try.f13.params.toList.all fun t => Try.prog.readableRec t && decide (t < Try.prog.types.size)) = true := by kernel_rfl
  intro t ht
  have h1 := List.all_eq_true.1 h t ht
  rw [Bool.and_eq_true] at h1
  exact ⟨h1.1, of_decide_eq_true h1.2⟩
theorem hfn {H : Type} : ∀ ds gs : List (DataW H), ds.length = Try.f13.params.toList.length → gs = [] → Rows.diskAllSpec.fn H (ds ++ gs) = { results := [.lit (.bool true)], args := ds } := by
  intro ds gs hd hg
  subst hg
  rw [List.append_nil]
  have hd' : ds.length = 3 := hd
  clear hd
  match ds, hd' with
  | [d0, d1, d2], _ => rfl
theorem lifted (os : Os) (started : os.Started) (H : Type) (enc : TypeId × Value → H) (F : Stop.Interp) :
    ReturnsInHanded {} Try.checked os 13 .any ((Rows.OpenSpec.upto Rows.diskAllSpec).pre6 enc Try.prog Try.f13 Rows.diskAllUptoRow.domain false) (((Rows.OpenSpec.upto Rows.diskAllSpec).at F).post enc Try.prog Try.f13 false true false false) := by
  refine returnsInHanded_of_cond (C := Try.checked) (s := Rows.OpenSpec.upto Rows.diskAllSpec) (k := Rows.uptoSmall) rfl fOwn started (by kernel_rfl) Try.func13
    (OpenSpec.witness (enc := enc) (C := Try.checked) (s := Rows.OpenSpec.upto Rows.diskAllSpec) (k := Rows.uptoSmall) rfl false ⟨#[], #[.agg #[.int .i64 0, .bool false, .slice none 0 0], .agg #[.int .i64 0, .bool false, .slice none 0 0], .slice none 0 0], []⟩ 8 (by kernel_rfl) (by kernel_rfl) (by kernel_rfl)
      (x := ([.agg [.lit (.int .i64 0), .lit (.bool false), .agg [.nil]], .agg [.lit (.int .i64 0), .lit (.bool false), .agg [.nil]], .nil], [], [])) (by kernel_rfl) rfl (by kernel_rfl)) ?_
  intro W base args ds gs before hval hW _ hk _
  refine (law enc W base args ds gs before hval hW hk).mono fun e W' h => ?_
  obtain ⟨he, hb⟩ := h
  subst he
  exact ⟨_, rfl, post_law fLaidOut hpar rfl Try.underlying4 rfl hfn hW hb⟩
theorem over : Rows.diskAllUptoRow.holds Try.pinned (Rows.OpenSpec.upto Rows.diskAllSpec) :=
  OpenClaim.holds_of_cond 13 Try.f13 rfl rfl rfl rfl rfl rfl rfl ⟨rfl, rfl, rfl, rfl, rfl⟩ rfl rfl rfl rfl rfl (by kernel_rfl) Try.func13 joined
    (of_decide_eq_true (by kernel_rfl)) (by unfold Func.isWrapper; rw [if_neg (of_decide_eq_false (by kernel_rfl))]; exact ⟨rfl, rfl⟩)
    (fun os started H enc _ F => lifted os started H enc F)
theorem proved : Rows.DiskAllUptoSaid := over
end Go.Proofs.Ytnppneilbkmnfaa.diskAll
