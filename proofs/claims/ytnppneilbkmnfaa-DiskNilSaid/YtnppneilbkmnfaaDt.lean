/- Auxiliary: sorted and Names: the disk's names as a row of one's own. No condition. -/
import Derived.Test.YtnppneilbkmnfaaDu
import Derived.Test.YtnppneilbkmnfaaIter
namespace Go.Proofs.Ytnppneilbkmnfaa
open Go.RowKit

theorem before_lt : ∀ a b : List UInt8, bytesBefore a b = true → a < b
  | [], [], h => by simp [bytesBefore] at h
  | [], y :: r, _ => by simp
  | x :: q, [], h => by simp [bytesBefore] at h
  | x :: q, y :: r, h => by
    simp only [bytesBefore, Bool.or_eq_true, Bool.and_eq_true, decide_eq_true_eq, beq_iff_eq] at h
    rw [List.cons_lt_cons_iff]
    exact h.imp id fun h => ⟨h.1, before_lt q r h.2⟩
theorem rises_sorted {l : List Nm} (h : Rises id l) : l.mergeSort (fun x y => decide (x ≤ y)) = l := by
  apply List.mergeSort_of_pairwise
  exact List.Pairwise.imp (fun {a b} hab => by
    simp only [decide_eq_true_eq]
    exact List.le_of_lt (before_lt a b hab)) h
theorem strKeys_mapD (l : List FB) : strKeys (mapD l) = l.map FB.nm := by
  show (l.map ent).map _ = _
  rw [List.map_map]
  rfl
theorem names_rise {w : World} {d mb : Nat} {av : Value} {fbs : List FB} {D : Dk} (h : DAt w d mb av fbs D) : Rises id (fbs.map FB.nm) := (rises_map FB.nm id FB.nm (fun _ => rfl) fbs).2 h.rises
theorem own_of_row {w : World} {base : Nat} {v : Value} {n : Nat} {xs : List Value} (h : w.ownsRow base 9 1 v n xs) (hz : v = .slice none 0 0 ↔ n = 0) : (∃ ao cap, v = .slice ao n cap) ∧ Own w 9 1 v n xs ∧ ∀ k, inFoot v k → base ≤ k := by
  obtain ⟨h0, h⟩ := h
  rcases h with ⟨rfl, rfl⟩ | ⟨g, cap, cur, rfl, hb, hc, h1, h2, h3, h4⟩
  · exact ⟨⟨none, 0, rfl⟩, ⟨h0, .inl ⟨none, rfl, rfl⟩⟩, fun k hk => by simp [inFoot, foot] at hk⟩
  · have hn : n ≠ 0 := fun e => by have := hz.2 e; simp at this
    obtain ⟨cap, rfl⟩ : ∃ c, cap = c + 1 := ⟨cap - 1, by omega⟩
    refine ⟨⟨_, _, rfl⟩, ⟨h0, .inr ⟨g, cap, cur.toList, rfl, At.mk hc, h1, h2, ?_, h4⟩⟩, ?_⟩
    · rw [Array.length_toList, h3]
    · intro k hk
      simp only [inFoot, foot, Option.some.injEq] at hk
      omega

def namesV (l : List Nm) : List Value := l.map encS
theorem below_ext {w w' : World} {o : Obj} (h : Below (w.alloc o).heap.size (w.alloc o) w') : Ext Nil w w' := by
  exact ((Ext.refl Nil w).alloc o).trans (G := Nil) ⟨h.os, h.tape, h.output, h.size, fun k hk _ => h.block k hk⟩ fun _ _ h => h

theorem sorted_at (w : World) (d mb : Nat) (av : Value) (fbs : List FB) (D : Dk) (h : DAt w d mb av fbs D) :
    Calls Try.prog 62 #[.pointer (some ⟨d, 0, none⟩)] w fun e w' => ∃ ao cap, e = .returned (.slice ao D.fs.length cap) ∧ Own w' 9 1 (.slice ao D.fs.length cap) D.fs.length (namesV (D.fs.map FileM.nm)) ∧ Step Nil w (inFoot (.slice ao D.fs.length cap)) w' := by
  have f2 := h.cells.cell 2 rfl
  have hM := h.map
  have hc := h.count
  have hk := names_rise h
  have hwf := h.wf.count
  have hsame : D.fs.map FileM.nm = fbs.map FB.nm := by rw [← h.same, List.map_map]; rfl
  rw [hsame]
  rw [← hc]
  have hsz : Maps.size (mapD fbs) = fbs.length := by unfold mapD; rw [Maps.size_eq, List.length_map]
  have h1 := callsIn_wide.1 (Go.Proofs.Try.maps_Keys_93 (some mb) w)
  have h2 := callsIn_wide.1 (Go.Proofs.Try.slices_Sorted_keys_92_93 mb fbs.length (mapD fbs) ptrElem w hM (by rw [hsz]; unfold maxLen; omega) (by rw [hsz]; omega))
  have H1 := Lib.hid h1; have H2 := Lib.hid h2
  clear h1 h2
  go_enter Try.func62, Try.ntmps62
  go_wp2_with (first
    | (go_at_call 92; refine (H2.out).mono ?_; rintro e w' ⟨v, ss, rfl, hp, ho, hn, hb⟩)
    | (go_at_call 93; refine (H1.out).mono ?_; rintro e w' ⟨rfl, rfl⟩))
  have hl : ss.length = fbs.length := by rw [hp.length_eq, strKeys_mapD, List.length_map]
  have hsort : ss.mergeSort (fun x y => decide (x ≤ y)) = fbs.map FB.nm := by
    rw [mergeSort_of_perm hp, strKeys_mapD]
    exact rises_sorted hk
  rw [hsort, hl] at ho
  obtain ⟨⟨ao, cap, rfl⟩, O, hf⟩ := own_of_row ho (hn.trans (by rw [← hl]; exact List.length_eq_zero_iff.symm))
  go_ret
  exact ⟨ao, cap, rfl, by
    show Own _ _ _ _ _ (List.map encStr _)
    exact O, below_ext hb, fun k hk => .inr (by
    have := hf k hk
    rw [World.size_alloc] at this
    omega)⟩

theorem names_nil_m (w : World) : Calls Try.prog 37 #[.pointer none] w fun e w' => e = .returned (.slice none 0 0) ∧ w = w' := by
  go_enter Try.func37, Try.ntmps37
  go_wp2_with (go_at_call 56; refine (missing_nil w).mono ?_; rintro e w' ⟨rfl, rfl⟩)
  go_ret
  exact ⟨rfl, rfl⟩
/-- the names that Names tells -/
def Dk.names (D : Dk) : List Nm := if D.off then [] else D.fs.map FileM.nm
theorem names_m (w : World) (d : Nat) (D : Dk) (F : Nat → Prop) (hD : Disk w d D F) :
    Calls Try.prog 37 #[.pointer (some ⟨d, 0, none⟩)] w fun e w' => ∃ ao cap, e = .returned (.slice ao D.names.length cap) ∧ Own w' 9 1 (.slice ao D.names.length cap) D.names.length (namesV D.names) ∧ Step Nil w (inFoot (.slice ao D.names.length cap)) w' := by
  obtain ⟨mb, av, fbs, h, rfl⟩ := hD
  have f3 := h.cells.cell 3 rfl
  unfold Dk.names
  cases ho : D.off
  · rw [ho] at f3
    simp only [Bool.false_eq_true, if_false, List.length_map]
    clear ho
    go_enter Try.func37, Try.ntmps37
    go_wp2_with (first
      | (go_at_call 56; refine (missing_at w d mb av fbs D h).mono ?_; rintro e w' ⟨rfl, rfl⟩)
      | (go_at_call 62; refine (sorted_at w d mb av fbs D h).mono ?_; rintro e w' ⟨ao, cap, rfl, O, S⟩))
    go_ret
    exact ⟨ao, cap, rfl, O, S⟩
  · rw [ho] at f3
    simp only [if_true]
    clear ho
    go_enter Try.func37, Try.ntmps37
    go_wp2_with (go_at_call 56; refine (missing_at w d mb av fbs D h).mono ?_; rintro e w' ⟨rfl, rfl⟩)
    go_ret
    exact ⟨none, 0, rfl, Own.nil _ _ _, Step.nilNil _ rfl⟩
end Go.Proofs.Ytnppneilbkmnfaa
