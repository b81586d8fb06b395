/- Proved: the law DiskOwn (assent/assentlaw06.DiskOwn) returns true for every input of bulk at most 1048576, and every argument reads behind the call as it read before. The condition: the arguments hold together at most 1048576 values and letters. -/
import Derived.Test.YtnppneilbkmnfaaFacts
import Derived.Test.YtnppneilbkmnfaaLawDiskOwn
namespace Go.Proofs.Ytnppneilbkmnfaa.diskOwn
open Go.ChangeShapes Go.WideShapes Go.ChangeAt Go.RowKit
set_option maxRecDepth 100000
theorem k0 : (OpenClaim.wf (OpenSpec.ofChange (OpenSpec.bare (Rows.OpenSpec.upto Rows.diskOwnSpec))) Rows.diskOwnUptoRow) = true := by kernel_rfl
theorem k3 : (Try.f14.params.all fun x => Try.prog.readableRec x) = true := by kernel_rfl
theorem k4 : (namedTie Try.prog Rows.diskOwnUptoRow.named (OpenSpec.bare (Rows.OpenSpec.upto Rows.diskOwnSpec)).vars) = true := by kernel_rfl
theorem k5 : (Rows.diskOwnUptoRow.stops == []) = true := by kernel_rfl
theorem k7 : (Rows.diskOwnUptoRow.knobs == []) = true := by kernel_rfl
theorem k9 : (Rows.diskOwnUptoRow.inPlace == Try.prog.inPlace 14) = true := by kernel_rfl
theorem k10 : (Rows.diskOwnUptoRow.unfollowed == Try.prog.unfollowed 14) = true := by kernel_rfl
theorem k11 : (Rows.diskOwnUptoRow.recurses == Try.prog.recurses 14) = true := by kernel_rfl
theorem k12 : (Rows.diskOwnUptoRow.named == Try.prog.varsNamed 14) = true := by kernel_rfl
theorem k13 : (Rows.diskOwnUptoRow.maps == (Try.f14.params.toList ++ DataSpec.varTypes Try.prog (OpenSpec.bare (Rows.OpenSpec.upto Rows.diskOwnSpec)).plain).any fun x => Try.prog.mapsRec x) = true := by kernel_rfl
theorem k14 : (Rows.diskOwnUptoRow.ifaces == (Try.f14.params.toList ++ DataSpec.varTypes Try.prog (OpenSpec.bare (Rows.OpenSpec.upto Rows.diskOwnSpec)).plain).any fun x => Try.prog.ifacesRec x) = true := by kernel_rfl
theorem k15 : (Rows.diskOwnUptoRow.mapsOut == Try.prog.mapsAmong Try.f14.resultTypes.toList) = true := by kernel_rfl
theorem k16 : (Rows.diskOwnUptoRow.loops == (Try.f14.params.toList ++ DataSpec.varTypes Try.prog (OpenSpec.bare (Rows.OpenSpec.upto Rows.diskOwnSpec)).plain).any fun x => Try.prog.loopsFrom x) = true := by kernel_rfl
theorem k17 : (Rows.diskOwnUptoRow.wideKeys == (Try.f14.params.toList ++ DataSpec.varTypes Try.prog (OpenSpec.bare (Rows.OpenSpec.upto Rows.diskOwnSpec)).plain ++ Try.f14.resultTypes.toList).any fun x => Try.prog.wideKeysFrom x) = true := by kernel_rfl
theorem k18 : ((OpenSpec.bare (Rows.OpenSpec.upto Rows.diskOwnSpec)).vars.all fun x => Try.prog.varReadable x) = true := by kernel_rfl
theorem k19 : (Try.f14.resultTypes.all fun t => Try.prog.readableRec t && decide (t < Try.prog.types.size)) = true := by kernel_rfl
theorem k20 : (Rows.diskOwnUptoRow.ifacesOut == Try.f14.resultTypes.toList.any fun x => Try.prog.ifacesRec x) = true := by kernel_rfl
theorem k21 : (Rows.diskOwnUptoRow.loopsOut == Try.f14.resultTypes.toList.any fun x => Try.prog.loopsFrom x) = true := by kernel_rfl
theorem k23 : (Rows.diskOwnUptoRow.shortTexts.isNone) = true := by kernel_rfl
theorem k28 : (Rows.diskOwnUptoRow.kinds == if Rows.diskOwnUptoRow.domain.isEmpty = true then [] else List.map (fun t => match Try.prog.underlying t with | some (TypeDesc.int k) => some k | _ => none) Try.f14.params.toList) = true := by kernel_rfl
theorem k29 : (Rows.diskOwnUptoRow.pinned == Rows.diskOwnUptoRow.pinnedBy) = true := by kernel_rfl
theorem k30 : (Rows.diskOwnUptoRow.veiled == (Try.f14.params.toList ++ DataSpec.varTypes Try.prog (OpenSpec.bare (Rows.OpenSpec.upto Rows.diskOwnSpec)).plain ++ Try.f14.resultTypes.toList).any fun x => Try.prog.veiledRec x) = true := by kernel_rfl
theorem k31 : (Rows.diskOwnUptoRow.veiledFits Try.prog Try.f14.params.toList (Try.f14.params.toList ++ DataSpec.varTypes Try.prog (OpenSpec.bare (Rows.OpenSpec.upto Rows.diskOwnSpec)).plain ++ Try.f14.resultTypes.toList)) = true := by kernel_rfl
theorem joined : joinedFacts Try.prog 14 Try.f14 (OpenSpec.bare (Rows.OpenSpec.upto Rows.diskOwnSpec)) Rows.diskOwnUptoRow = true := by
  unfold joinedFacts
  exact (and_t (and_t (and_t (and_t (and_t (and_t (and_t (and_t (and_t (and_t (and_t (and_t (and_t (and_t (and_t (and_t (and_t (and_t (and_t (and_t (and_t (and_t (and_t (and_t (and_t (and_t (and_t (and_t (and_t (and_t (and_t k0 fLaidOut) fMapsRowed) k3) k4) k5) fStops) k7) fStopKnobs) k9) k10) k11) k12) k13) k14) k15) k16) k17) k18) k19) k20) k21) (eq_t fPlainKeys)) k23) fStopsHeard) fMayEnter) (eq_t fLiftsFinal)) (some_t rfl)) k28) k29) k30) k31)
theorem hpar : ∀ t ∈ Try.f14.params.toList, Try.prog.readableRec t = true ∧ t < Try.prog.types.size := by
  have h : (Try.f14.params.toList.all fun t => Try.prog.readableRec t && decide (t < Try.prog.types.size)) = true := by kernel_rfl
  intro t ht
  have h1 := List.all_eq_true.1 h t ht
  rw [Bool.and_eq_true] at h1
  exact ⟨h1.1, of_decide_eq_true h1.2⟩
theorem hfn {H : Type} : ∀ ds gs : List (DataW H), ds.length = Try.f14.params.toList.length → gs = [] → Rows.diskOwnSpec.fn H (ds ++ gs) = { results := [.lit (.bool true)], args := ds } := by
  intro ds gs hd hg
  subst hg
  rw [List.append_nil]
  have hd' : ds.length = 3 := hd
  clear hd
  match ds, hd' with
  | [d0, d1, d2], _ => rfl
theorem lifted (os : Go.Os) (started : os.Started) (H : Type) (enc : TypeId × Value → H) (F : Stop.Interp) :
    ReturnsInHanded {} Try.checked os 14 .any ((Rows.OpenSpec.upto Rows.diskOwnSpec).pre6 enc Try.prog Try.f14 Rows.diskOwnUptoRow.domain false) (((Rows.OpenSpec.upto Rows.diskOwnSpec).at F).post enc Try.prog Try.f14 false true false false) := by
  refine returnsInHanded_of_cond (C := Try.checked) (s := Rows.OpenSpec.upto Rows.diskOwnSpec) (k := Rows.uptoSmall) rfl fOwn started (by kernel_rfl) Try.func14
    (OpenSpec.witness (enc := enc) (C := Try.checked) (s := Rows.OpenSpec.upto Rows.diskOwnSpec) (k := Rows.uptoSmall) rfl false ⟨#[], #[.agg #[.int .i64 0, .bool false, .slice none 0 0], .slice none 0 0, .string ⟨#[]⟩], []⟩ 8 (by kernel_rfl) (by kernel_rfl) (by kernel_rfl)
      (x := ([.agg [.lit (.int .i64 0), .lit (.bool false), .agg [.nil]], .nil, .lit (.string [])], [], [])) (by kernel_rfl) rfl (by kernel_rfl)) ?_
  intro W base args ds gs before hval hW _ hk _
  refine (law enc W base args ds gs before hval hW hk).mono fun e W' h => ?_
  obtain ⟨he, hb⟩ := h
  subst he
  exact ⟨_, rfl, post_law fLaidOut hpar rfl Try.underlying4 rfl hfn hW hb⟩
theorem over : Rows.diskOwnUptoRow.holds Try.pinned (Rows.OpenSpec.upto Rows.diskOwnSpec) :=
  OpenClaim.holds_of_cond 14 Try.f14 rfl rfl rfl rfl rfl rfl rfl ⟨rfl, rfl, rfl, rfl, rfl⟩ rfl rfl rfl rfl rfl (by kernel_rfl) Try.func14 joined
    (of_decide_eq_true (by kernel_rfl)) (by unfold Func.isWrapper; rw [if_neg (of_decide_eq_false (by kernel_rfl))]; exact ⟨rfl, rfl⟩)
    (fun os started H enc _ F => lifted os started H enc F)
theorem proved : Rows.DiskOwnUptoSaid := over
end Go.Proofs.Ytnppneilbkmnfaa.diskOwn
