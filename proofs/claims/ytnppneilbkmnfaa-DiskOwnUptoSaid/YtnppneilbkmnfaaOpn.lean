/- Auxiliary: arguments that can be read as data, opened: slices of bytes, of values, of reads. No condition. -/
import Derived.Test.YtnppneilbkmnfaaRefW
import Derived.Test.YtnppneilbkmnfaaClose
import Derived.Deep.Slices
namespace Go.Proofs.Ytnppneilbkmnfaa
open Go.RowKit Go.ChangeShapes

section
variable {H : Type} {enc : TypeId × Value → H} {P : Program} {w : World}

/-- the cells cs read as the datum d of type t -/
def El (enc : TypeId × Value → H) (P : Program) (w : World) (t : TypeId) (cs : List Value) (d : DataW H) : Prop := ∃ fuel ps, DataW.trod enc P w 0 (fun _ => true) true fuel t cs = some (d, ps)

theorem cell_spot {a : Addr} {v : Value} (h : w.cell? a = some v) : a.spot = none ∧ a.block < w.heap.size := by
  unfold World.cell? at h
  by_cases hl : a.block < w.heap.size
  · refine ⟨?_, hl⟩
    rw [Array.getElem?_eq_getElem hl] at h
    revert h
    cases hb : w.heap[a.block] <;> simp only [] <;> intro h <;> try cases h
    cases hs : a.spot with
    | none => rfl
    | some _ => rw [hs] at h; simp at h
  · rw [Array.getElem?_eq_none (by omega)] at h
    simp at h

theorem mapM_get {f : Nat → Option Value} : ∀ {n : Nat} {cs : List Value}, (List.range n).mapM f = some cs → cs.length = n ∧ ∀ j u, cs[j]? = some u → f j = some u := by
  intro n cs h
  have hl := mapM_some_length h
  refine ⟨by simpa using hl, fun j u hu => ?_⟩
  have hj : j < n := by
    have := (List.getElem?_eq_some_iff.1 hu).1
    have hl' : cs.length = n := by simpa using hl
    omega
  have := mapM_some_get h j j (by simp [hj])
  rw [this]
  exact hu

theorem flat_mem {α : Type} (f : α → List Value) (m : Nat) : ∀ (l : List α) (_ : ∀ a ∈ l, (f a).length = m) (k : Nat) (hk : k < l.length) (j : Nat), j < m → (l.flatMap f)[k * m + j]? = (f l[k])[j]?
  | [], _, k, hk, _, _ => by simp at hk
  | a :: l, hf, 0, _, j, hj => by
    rw [List.flatMap_cons, Nat.zero_mul, Nat.zero_add, List.getElem?_append_left (by rw [hf a (List.mem_cons_self ..)]; exact hj)]
    rfl
  | a :: l, hf, k + 1, hk, j, hj => by
    have ih := flat_mem f m l (fun a ha => hf a (List.mem_cons_of_mem _ ha)) k (by simpa using hk) j hj
    have h0 := hf a (List.mem_cons_self ..)
    rw [List.flatMap_cons, List.getElem?_append_right (by rw [h0, Nat.add_mul]; omega), h0]
    rw [show (k + 1) * m + j - m = k * m + j from by rw [Nat.add_mul]; omega, ih]
    rfl

theorem flat_len {α : Type} (f : α → List Value) (m : Nat) : ∀ (l : List α) (_ : ∀ a ∈ l, (f a).length = m), (l.flatMap f).length = l.length * m
  | [], _ => by simp
  | a :: l, hf => by
    rw [List.flatMap_cons, List.length_append, hf a (List.mem_cons_self ..), flat_len f m l fun a ha => hf a (List.mem_cons_of_mem _ ha), List.length_cons, Nat.add_mul]
    omega

theorem open_row {t e : TypeId} {size : Nat} {v : Value} {d : DataW H} (ht : P.underlying t = some (.slice e)) (hc : P.cellsOf e = size) (hs : 0 < size) (h : El enc P w t [v] d) :
    ∃ ces : List (List Value × DataW H), Reads w size v ces.length (ces.flatMap (·.1)) ∧ (∀ c ∈ ces, c.1.length = size ∧ El enc P w e c.1 c.2) ∧ ((d = .nil ∧ ces = []) ∨ ∃ sp, d = .slice (ces.map (·.2)) sp) ∧ (∀ k, inFoot v k → k < w.heap.size) := by
  obtain ⟨fuel, ps, h⟩ := h
  rcases DataW.trod_slice ht h with ⟨h1, h2⟩ | ⟨a, len, cap, elems, rest, n, rfl, h1, h2, _, h3, h4, h5, h6, h7, _⟩
  · simp only [List.cons.injEq, and_true] at h1
    subst h1
    simp only [Prod.mk.injEq] at h2
    exact ⟨[], ⟨by simp, none, 0, rfl, Nat.le_refl _, by simp [maxLen], fun hne => absurd rfl hne⟩, by simp, .inl ⟨h2.1, rfl⟩, fun k hk => by simp [inFoot, foot] at hk⟩
  · simp only [List.cons.injEq, and_true] at h1
    subst h1
    simp only [Prod.mk.injEq] at h2
    rw [hc] at h6 h7
    have each : ∀ i, i < len → ∃ cs, w.cells? 0 (a.add (i * size)) size = some cs ∧ DataW.trod enc P w 0 (fun _ => true) true n e cs = elems[i]? := by
      intro i hi
      have := h6 i hi
      rw [List.getElem?_eq_getElem (by omega)] at this
      obtain ⟨cs, g1, g2⟩ := Option.bind_eq_some_iff.1 this
      exact ⟨cs, g1, by rw [g2, List.getElem?_eq_getElem]⟩
    obtain ⟨f, hf⟩ := Go.Deep.choose_lt (α := List Value) each
    have hcell : ∀ i, i < len → (f i).length = size ∧ ∀ j u, (f i)[j]? = some u → w.cell? ((a.add (i * size)).add j) = some u := by
      intro i hi
      have := (hf i hi).1
      unfold World.cells? at this
      rw [if_pos (Nat.zero_le _)] at this
      exact mapM_get this
    have hat : 0 < len → a.spot = none ∧ a.block < w.heap.size := by
      intro hi
      have h1 := hcell 0 hi
      have := h1.2 0 ((f 0)[0]'(by omega)) (List.getElem?_eq_getElem _)
      rw [Nat.zero_mul] at this
      exact cell_spot this
    have hmem : ∀ c ∈ (List.range len).map fun i => (f i, (elems[i]?.getD (.nil, [])).1), c.1.length = size := fun c hc => by
      obtain ⟨i, hi, rfl⟩ := List.mem_map.1 hc
      exact (hcell i (List.mem_range.1 hi)).1
    have hflen := flat_len (fun c : List Value × DataW H => c.1) size _ hmem
    refine ⟨(List.range len).map fun i => (f i, (elems[i]?.getD (.nil, [])).1), ⟨?_, some a, cap, by simp, by simpa using h3, h4, ?_⟩, ?_, .inr ⟨rest.map (·.1), ?_⟩, ?_⟩
    · rw [hflen]
    · intro hne
      have h0 : 0 < len := by
        rcases Nat.eq_zero_or_pos len with h0 | h0
        · subst h0; simp at hne
        · exact h0
      obtain ⟨b, off, spot⟩ := a
      have hsp : spot = none := (hat h0).1
      subst hsp
      refine ⟨b, off, rfl, fun j u hu => ?_⟩
      have hj : j < len * size := by
        have := (List.getElem?_eq_some_iff.1 hu).1
        rw [hflen] at this
        simpa using this
      have hdiv : j / size < len := by rw [Nat.div_lt_iff_lt_mul hs]; exact hj
      have hm := Nat.mod_lt j hs
      have hjj : j / size * size + j % size = j := by rw [Nat.mul_comm]; exact Nat.div_add_mod j size
      have hfl := flat_mem (fun c : List Value × DataW H => c.1) size ((List.range len).map fun i => (f i, (elems[i]?.getD (.nil, [])).1)) hmem (j / size) (by simpa using hdiv) (j % size) hm
      rw [hjj] at hfl
      rw [hfl] at hu
      simp only [List.getElem_map, List.getElem_range] at hu
      have := (hcell (j / size) hdiv).2 _ _ hu
      rw [Go.Deep.add_add, hjj] at this
      unfold Addr.add at this
      split at this
      · next h0 => rw [h0]; exact this
      · exact this
    · intro c hc
      obtain ⟨i, hi, rfl⟩ := List.mem_map.1 hc
      have hi := List.mem_range.1 hi
      refine ⟨(hcell i hi).1, n, (elems[i]?.getD (.nil, [])).2, ?_⟩
      rw [(hf i hi).2, List.getElem?_eq_getElem (by omega)]
      rfl
    · rw [h2.1]
      congr 1
      rw [List.map_map]
      apply List.ext_getElem
      · simp [h5]
      · intro i h8 h9
        simp at h8 h9
        simp [h8]
    · intro k hk
      cases cap with
      | zero => simp [inFoot, foot] at hk
      | succ c =>
        have hk : some a.block = some k := hk
        simp only [Option.some.injEq] at hk
        subst hk
        by_cases h0 : 0 < len
        · exact (hat h0).2
        · have := (h7 rfl).2 0 (by omega)
          rw [List.getElem?_eq_getElem (by have := (h7 rfl).1; omega)] at this
          obtain ⟨cs, g1, _⟩ := Option.bind_eq_some_iff.1 this
          unfold World.cells? at g1
          rw [if_pos (Nat.zero_le _)] at g1
          have g2 := mapM_get g1
          have := cell_spot (g2.2 0 (cs[0]'(by omega)) (List.getElem?_eq_getElem _))
          have e : (a.add ((len + 0) * size)).add 0 = a := by
            have : len = 0 := by omega
            subst this
            simp [Addr.add]
          rw [e] at this
          exact this.2
end

/-! ### bulk -/
theorem one_le {H : Type} (d : DataW H) : 1 ≤ Rows.uptoBulk d := by
  cases d with
  | lit l => cases l <;> simp [Rows.uptoBulk]
  | nil => simp [Rows.uptoBulk]
  | ptr d => simp [Rows.uptoBulk]
  | slice elems spare => simp [Rows.uptoBulk]
  | agg parts => simp [Rows.uptoBulk]
  | iface t d => simp [Rows.uptoBulk]
  | map entries => simp [Rows.uptoBulk]
  | held h => simp [Rows.uptoBulk]
theorem bulk_append {H : Type} (l r : List (DataW H)) : Rows.uptoBulkAll (l ++ r) = Rows.uptoBulkAll l + Rows.uptoBulkAll r := by
  induction l with
  | nil => simp [Rows.uptoBulkAll]
  | cons x l ih => simp only [List.cons_append, Rows.uptoBulkAll, ih]; omega
theorem bulk_length {H : Type} (l : List (DataW H)) : l.length ≤ Rows.uptoBulkAll l := by
  induction l with
  | nil => simp [Rows.uptoBulkAll]
  | cons x r ih => have := one_le x; simp only [Rows.uptoBulkAll, List.length_cons]; omega
theorem bulk_bound {H : Type} {l : List (DataW H)} (hk : Rows.uptoSmall H l = true) : Rows.uptoBulkAll l ≤ 1048576 := of_decide_eq_true hk

/-! ### the types of this program -/
theorem cells3 : Try.prog.cellsOf 3 = 1 := by kernel_rfl
theorem cells29 : Try.prog.cellsOf 31 = 1 := by kernel_rfl
theorem cells5 : Try.prog.cellsOf 5 = 1 := by kernel_rfl

section
variable {H : Type} {enc : TypeId × Value → H} {w : World}

theorem El.int {k : IntKind} {t : TypeId} {cs : List Value} {d : DataW H} (ht : Try.prog.underlying t = some (.int k)) (h : El enc Try.prog w t cs d) : ∃ n, cs = [.int k n] ∧ (Lit.int k n).wf = true := by
  obtain ⟨f, ps, h⟩ := h
  obtain ⟨n, h1, _, h2⟩ := DataW.trod_int ht h
  exact ⟨n, h1, h2⟩

theorem El.bytes {v : Value} {d : DataW H} (h : El enc Try.prog w 31 [v] d) : ∃ l : List UInt8, Bytes w v l ∧ (∀ k, inFoot v k → k < w.heap.size) ∧ l.length + 1 ≤ Rows.uptoBulk d := by
  obtain ⟨ces, h1, h2, h3, h4⟩ := open_row Try.underlying31 cells5 (by omega) h
  have h5 : ∀ c ∈ ces, ∃ b : UInt8, c.1 = [bv b] := by
    intro c hc
    obtain ⟨n, e, hw⟩ := (h2 c hc).2.int Try.underlying5
    refine ⟨toB n, ?_⟩
    have hx : 0 ≤ n ∧ n ≤ 255 := by simpa [Lit.wf, IntKind.min, IntKind.max, IntKind.signed, IntKind.bits] using hw
    rw [e, bv_toB hx.1 (by omega)]
  have h6 : ∃ l : List UInt8, l.length = ces.length ∧ ces.flatMap (·.1) = bvs l := by
    clear h1 h2 h3 h4 h
    induction ces with
    | nil => exact ⟨[], rfl, rfl⟩
    | cons c ces ih =>
      obtain ⟨b, hb⟩ := h5 c (List.mem_cons_self ..)
      obtain ⟨l, hl, he⟩ := ih fun c hc => h5 c (List.mem_cons_of_mem _ hc)
      exact ⟨b :: l, by simp [hl], by rw [List.flatMap_cons, hb, he]; rfl⟩
  obtain ⟨l, hl, he⟩ := h6
  refine ⟨l, ?_, h4, ?_⟩
  · unfold Bytes
    rw [hl, ← he]
    exact h1
  · rcases h3 with ⟨rfl, rfl⟩ | ⟨sp, rfl⟩
    · simp [hl, Rows.uptoBulk]
    · have := bulk_length (ces.map (·.2))
      rw [List.length_map] at this
      simp only [Rows.uptoBulk]
      omega

end
end Go.Proofs.Ytnppneilbkmnfaa
