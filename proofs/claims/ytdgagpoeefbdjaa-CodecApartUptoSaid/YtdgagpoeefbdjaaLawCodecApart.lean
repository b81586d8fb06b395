/- The call of the law CodecApart: it returns true, and no older memory turns. Condition: the argument is of bulk at most 1048576. -/
import Derived.Test.YtdgagpoeefbdjaaApart
import Derived.Test.YtdgagpoeefbdjaaApartLaw
import Derived.Test.YtdgagpoeefbdjaaOpen
namespace Go.Proofs.Ytdgagpoeefbdjaa
open Go.RowKit Go.ChangeShapes Go.WideShapes Go.ChangeAt

section
variable {H : Type} {enc : TypeId × Value → H} {w : World}

set_option maxRecDepth 100000 in
theorem El.twin {cs : List Value} {d : DataW H} (h : El enc Try.prog w 45 cs d) : ∃ T : TwinD, cs = T.cells ∧ (-9223372036854775808 ≤ T.K ∧ T.K ≤ 9223372036854775807) ∧ PutOk w T.AK T.AN T.Ax T.AB ∧ PutOk w T.BK T.BN T.Bx T.BB ∧
    (∀ k, inFoot T.Ax k → k < w.heap.size) ∧ (∀ k, inFoot T.Bx k → k < w.heap.size) ∧ T.AB.length + T.BB.length + 6 ≤ Rows.uptoBulk d := by
  obtain ⟨f, ps, h⟩ := h
  obtain ⟨xs, n, _, hx, hl, hlen, hf⟩ := DataW.trod_struct Try.underlying45 h
  rw [cells45] at hl
  match xs, hlen, cs, hl with
  | [y0, y1, y2], _, [c0, c1, c2, c3, c4, c5, c6], _ =>
    have f0 := hf 0 _ rfl
    have f1 := hf 1 _ rfl
    have f2 := hf 2 _ rfl
    simp [cells3, cells39] at f0 f1 f2
    obtain ⟨K, e0, hK⟩ := El.int Try.underlying3 ⟨n, y0.2, f0⟩
    obtain ⟨A, e1, hA, hAl, hAb⟩ := El.put ⟨n, y1.2, f1⟩
    obtain ⟨B, e2, hB, hBl, hBb⟩ := El.put ⟨n, y2.2, f2⟩
    simp only [List.cons.injEq, and_true, PutD.cells] at e0 e1 e2
    obtain ⟨rfl, rfl, rfl⟩ := e1
    obtain ⟨rfl, rfl, rfl⟩ := e2
    subst e0
    have hK2 : -9223372036854775808 ≤ K ∧ K ≤ 9223372036854775807 := by simpa [Lit.wf, IntKind.min, IntKind.max, IntKind.signed, IntKind.bits] using hK
    refine ⟨⟨K, A.K, A.N, A.x, A.B, B.K, B.N, B.x, B.B⟩, rfl, hK2, hA, hB, hAl, hBl, ?_⟩
    have hd : d = .agg [y0.1, y1.1, y2.1] := by simpa using congrArg Prod.fst hx
    rw [hd]
    simp only [Rows.uptoBulk, Rows.uptoBulkAll]
    show A.B.length + B.B.length + 6 ≤ _
    omega

theorem El.twins {v : Value} {d : DataW H} (h : El enc Try.prog w 43 [v] d) : ∃ l : List TwinD, Twins w.heap.size w v l ∧ (∀ k, inFoot v k → k < w.heap.size) ∧ (l.map fun T => T.AB.length + T.BB.length + 6).sum ≤ Rows.uptoBulk d := by
  obtain ⟨ces, h1, h2, h3, h4⟩ := open_row Try.underlying43 cells45 (by omega) h
  have h6 : ∃ l : List TwinD, l.length = ces.length ∧ ces.flatMap (·.1) = l.flatMap TwinD.cells ∧ (∀ T ∈ l, (-9223372036854775808 ≤ T.K ∧ T.K ≤ 9223372036854775807) ∧ PutOk w T.AK T.AN T.Ax T.AB ∧ PutOk w T.BK T.BN T.Bx T.BB ∧
      (∀ k, inFoot T.Ax k → k < w.heap.size) ∧ (∀ k, inFoot T.Bx k → k < w.heap.size)) ∧ (l.map fun T => T.AB.length + T.BB.length + 6).sum ≤ Rows.uptoBulkAll (ces.map (·.2)) := by
    clear h1 h3 h4 h
    induction ces with
    | nil => exact ⟨[], rfl, rfl, by simp, by simp [Rows.uptoBulkAll]⟩
    | cons c ces ih =>
      obtain ⟨T, hT, o1, o2, o3, o4, o5, hb⟩ := El.twin (h2 c (List.mem_cons_self ..)).2
      obtain ⟨l, hl, he, hm, hs⟩ := ih fun c hc => h2 c (List.mem_cons_of_mem _ hc)
      refine ⟨T :: l, by simp [hl], by rw [List.flatMap_cons, List.flatMap_cons, hT, he], ?_, ?_⟩
      · intro E hE
        rcases List.mem_cons.1 hE with rfl | hE
        · exact ⟨o1, o2, o3, o4, o5⟩
        · exact hm E hE
      · simp only [List.map_cons, List.sum_cons, Rows.uptoBulkAll]
        omega
  obtain ⟨l, hl, he, hm, hs⟩ := h6
  refine ⟨l, ⟨?_, fun T hT => (hm T hT).2.1, fun T hT => (hm T hT).2.2.1, fun T hT => (hm T hT).1, fun T hT => (hm T hT).2.2.2.1, fun T hT => (hm T hT).2.2.2.2⟩, h4, ?_⟩
  · rw [hl, ← he]; exact h1
  · rcases h3 with ⟨rfl, rfl⟩ | ⟨sp, rfl⟩
    · have : l = [] := List.eq_nil_of_length_eq_zero (by simpa using hl)
      subst this
      simp
    · simp only [Rows.uptoBulk]
      omega
end

/-! ### the lists -/
theorem twin_kinds (T : TwinD) : T.a.K % 9 = T.b.K % 9 ∧ (T.a.K % 9 = 5 → T.a.B.length = T.b.B.length) ∧ T.a.N = T.AN ∧ T.b.N = T.BN ∧ T.a.B.length ≤ T.AB.length ∧ T.b.B.length ≤ T.BB.length := by
  unfold TwinD.a TwinD.b
  by_cases h5 : T.K % 9 = 5
  · rw [if_pos h5, if_pos h5]
    refine ⟨rfl, fun _ => ?_, rfl, rfl, ?_, ?_⟩ <;> simp only [List.length_take] <;> omega
  · rw [if_neg h5, if_neg h5]
    refine ⟨rfl, fun h => absurd h (by simp only; omega), rfl, rfl, Nat.le_refl _, Nat.le_refl _⟩

theorem lists_cmp : ∀ (L : List TwinD), (∀ T ∈ L, IsU64 T.AN ∧ IsU64 T.BN) → Cmp ((L.map TwinD.a).flatMap PutD.enc) ((L.map TwinD.b).flatMap PutD.enc) → L.all TwinD.like = true
  | [], _, _ => rfl
  | T :: L, hu, h => by
    have hk := twin_kinds T
    have h0 := hu T (List.mem_cons_self ..)
    simp only [List.map_cons, List.flatMap_cons] at h
    have h1 := enc_cmp T.a T.b hk.1 hk.2.1 (by rw [hk.2.2.1]; exact h0.1) (by rw [hk.2.2.2.1]; exact h0.2) _ _ h
    have h2 := lists_cmp L (fun T hT => hu T (List.mem_cons_of_mem _ hT)) h1.2
    rw [List.all_cons, h2, Bool.and_true]
    exact decide_eq_true h1.1
theorem lists_eq : ∀ (L : List TwinD), L.all TwinD.like = true → (L.map TwinD.a).flatMap PutD.enc = (L.map TwinD.b).flatMap PutD.enc
  | [], _ => rfl
  | T :: L, h => by
    rw [List.all_cons, Bool.and_eq_true] at h
    have h1 := of_decide_eq_true h.1
    simp only [List.map_cons, List.flatMap_cons]
    rw [lists_eq L h.2, enc_eq T.a T.b (twin_kinds T).1 h1.1 h1.2]
theorem allB_a (l : List TwinD) : allB ((l.filter TwinD.may).map TwinD.a) = ((l.filter TwinD.may).map TwinD.a).flatMap PutD.enc := by
  unfold allB
  rw [List.filter_eq_self.2]
  intro d hd
  obtain ⟨T, hT, rfl⟩ := List.mem_map.1 hd
  have := (List.mem_filter.1 hT).2
  unfold TwinD.may at this
  rw [Bool.and_eq_true] at this
  exact this.1
theorem allB_b (l : List TwinD) : allB ((l.filter TwinD.may).map TwinD.b) = ((l.filter TwinD.may).map TwinD.b).flatMap PutD.enc := by
  unfold allB
  rw [List.filter_eq_self.2]
  intro d hd
  obtain ⟨T, hT, rfl⟩ := List.mem_map.1 hd
  have := (List.mem_filter.1 hT).2
  unfold TwinD.may at this
  rw [Bool.and_eq_true] at this
  exact this.2
theorem sum_filter (f : TwinD → PutD) (g : TwinD → Nat) (hg : ∀ T, (f T).B.length + 10 ≤ 10 * g T) : ∀ l : List TwinD, sumB ((l.filter TwinD.may).map f) ≤ 10 * (l.map g).sum
  | [] => by simp [sumB]
  | T :: l => by
    have ih := sum_filter f g hg l
    have h := hg T
    rw [List.filter_cons]
    simp only [List.map_cons, List.sum_cons]
    split
    · simp only [sumB, List.map_cons, List.sum_cons] at ih ⊢
      omega
    · omega
theorem length_le_sum (g : TwinD → Nat) (hg : ∀ T, 1 ≤ g T) : ∀ l : List TwinD, l.length ≤ (l.map g).sum
  | [] => by simp
  | T :: l => by
    have := length_le_sum g hg l
    have := hg T
    simp only [List.map_cons, List.sum_cons, List.length_cons]
    omega

theorem apart_call (w : World) (v : Value) (l : List TwinD) (h : Twins w.heap.size w v l) (hv : ∀ k, inFoot v k → k < w.heap.size) (hs : (l.map fun T => T.AB.length + T.BB.length + 6).sum ≤ 1048576) :
    Calls Try.prog 7 #[v] w fun e w' => e = .returned (.bool true) ∧ Ext Nil w w' := by
  have hu : ∀ T ∈ l.filter TwinD.may, IsU64 T.AN ∧ IsU64 T.BN := fun T hT => ⟨(h.a T (List.mem_filter.1 hT).1).n, (h.b T (List.mem_filter.1 hT).1).n⟩
  refine apart_walk w v l h hv ?_ ?_ ?_ ?_ ?_
  · exact Nat.le_trans (length_le_sum _ (fun T => by omega) l) hs
  · have := sum_filter TwinD.a (fun T => T.AB.length + T.BB.length + 6) (fun T => by have := (twin_kinds T).2.2.2.2.1; omega) l
    unfold Fits; omega
  · have := sum_filter TwinD.b (fun T => T.AB.length + T.BB.length + 6) (fun T => by have := (twin_kinds T).2.2.2.2.2; omega) l
    unfold Fits; omega
  · intro hl
    rw [allB_a, allB_b]
    exact lists_eq _ hl
  · intro hl ht
    have hc := Cmp.of_take ht
    rw [allB_a, allB_b] at hc
    rw [lists_cmp _ hu hc] at hl
    cases hl

namespace codecApart
set_option maxRecDepth 100000 in
theorem law {H : Type} (enc : TypeId × Value → H) (W : World) (_base : Nat) (args : Array Value) (ds gs : List (DataW H)) (before : List MemPlace)
    (hval : ∀ (j : Nat) t v, Try.f7.params[j]? = some t → args[j]? = some v → Value.okWide Try.prog W .any _base t v)
    (hW : DataW.Whole enc Try.prog Try.f7.params.toList Rows.codecApartSpec.vars false W args.toList ds gs before) (hk : Rows.uptoSmall H (ds ++ gs) = true) :
    Calls Try.prog 7 args W fun e w' => e = .returned (.bool true) ∧ Below W.heap.size W w' := by
  obtain ⟨p, q, hA, hV, -⟩ := hW
  rw [Try.params7] at hval
  have hA : DataW.TrodAll enc Try.prog W 0 (fun _ => true) true [43] args.toList ds p := hA
  obtain ⟨v0, vs0, d0, ds0, p0, q0, hargs, rfl, rfl, h0, r0⟩ := trodAll_cons hA
  obtain ⟨rfl, rfl, rfl⟩ := trodAll_nil r0
  obtain rfl : args = #[v0] := by cases args; simp_all
  obtain ⟨rfl, rfl⟩ := trodVars_none hV
  have hb := bulk_bound hk
  simp only [List.append_nil, Rows.uptoBulkAll, Nat.add_zero] at hb
  obtain ⟨fuel, hf⟩ := h0
  obtain ⟨a0, len, cap, rfl⟩ := okWide_slice Try.underlying43 (hval 0 43 v0 rfl rfl)
  obtain ⟨l, hT, hlt, hs⟩ := El.twins ⟨fuel, p0, hf⟩
  refine (apart_call W _ l hT hlt (Nat.le_trans hs hb)).mono fun e w' h => ⟨h.1, h.2.below (Nat.le_refl _) fun _ h => h.elim⟩
end codecApart
end Go.Proofs.Ytdgagpoeefbdjaa
