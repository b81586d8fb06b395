/- Auxiliary: images (rows of files with a name and bytes) as they lie in memory of one's own; names as strings. No condition. -/
import Derived.Test.YtnppneilbkmnfaaDs
namespace Go.Proofs.Ytnppneilbkmnfaa
open Go.RowKit

/-- a name as a string -/
def encS (l : Nm) : Value := .string ⟨l.toArray⟩
theorem encS_toList (l : Nm) : (⟨l.toArray⟩ : ByteArray).data.toList = l := by simp
theorem encS_size (l : Nm) : (⟨l.toArray⟩ : ByteArray).size = l.length := by simp [ByteArray.size]

/-- a file of an image, as it lies -/
structure FI where
  nm : Nm
  b : List UInt8
  v : Value
namespace FI
def cells (x : FI) : List Value := [encS x.nm, x.v]
def pair (x : FI) : Nm × List UInt8 := (x.nm, x.b)
end FI
theorem fiCells_length (l : List FI) : (l.flatMap FI.cells).length = l.length * 2 := flat_len FI.cells 2 l fun _ _ => rfl
theorem fiCells_at (l : List FI) (k : Nat) (hk : k < l.length) (j : Nat) (hj : j < 2) : (l.flatMap FI.cells)[k * 2 + j]? = (l[k].cells)[j]? := flat_mem FI.cells 2 l (fun _ _ => rfl) k hk j hj
def OwnI (w : World) (v : Value) (l : List FI) : Prop := Own w 41 2 v l.length (l.flatMap FI.cells)
theorem OwnI.ext {F : Nat → Prop} {w w' : World} {v : Value} {l : List FI} (h : OwnI w v l) (e : Ext F w w') (hf : ∀ k, inFoot v k → ¬ F k) : OwnI w' v l := Own.ext h e hf
/-- all blocks of an image -/
def ibl (v : Value) (l : List FI) : List Nat := footL v ++ l.flatMap fun x => footL x.v
/-- an image in memory of its own -/
structure ImgO (w : World) (v : Value) (l : List FI) : Prop where
  row : OwnI w v l
  bytes : ∀ x ∈ l, OwnB w x.v x.b
  nodup : (ibl v l).Nodup
theorem ImgO.ext {F : Nat → Prop} {w w' : World} {v : Value} {l : List FI} (h : ImgO w v l) (e : Ext F w w') (hf : ∀ k ∈ ibl v l, ¬ F k) : ImgO w' v l :=
  ⟨h.row.ext e fun k hk => hf k (by simp [ibl, mem_footL, hk]), fun x hx => (h.bytes x hx).ext e fun k hk => hf k (by
    simp only [ibl, List.mem_append, List.mem_flatMap]
    exact .inr ⟨x, hx, mem_footL.2 hk⟩), h.nodup⟩
theorem ImgO.lt {w : World} {v : Value} {l : List FI} (h : ImgO w v l) : ∀ k ∈ ibl v l, k < w.heap.size := by
  intro k hk
  simp only [ibl, List.mem_append, List.mem_flatMap] at hk
  rcases hk with hk | ⟨x, hx, hk⟩
  · exact Own.lt h.row k (mem_footL.1 hk)
  · exact (h.bytes x hx).lt k (mem_footL.1 hk)
theorem ImgO.nil (w : World) : ImgO w (.slice none 0 0) [] := ⟨Own.nil _ _ _, (by intro x hx; cases hx), by simp [ibl, footL, foot]⟩

theorem encS_one (l : Nm) : (encS l).oneCell' = true := rfl
theorem slice_one {v : Value} (h : ∃ ao n cap, v = .slice ao n cap) : v.oneCell' = true := by
  obtain ⟨ao, n, cap, rfl⟩ := h
  rfl
theorem fiCells_one (x : FI) (h : ∃ ao n cap, x.v = .slice ao n cap) : ∀ u ∈ x.cells, u.oneCell' = true := by
  intro u hu
  simp only [FI.cells, List.mem_cons, List.not_mem_nil, or_false] at hu
  rcases hu with rfl | rfl
  · rfl
  · exact slice_one h
theorem info_file : (Try.prog.info? 41).map (fun i => (i.zero, i.size, i.bytes)) = some (some (.agg #[.string ⟨#[]⟩, .slice none 0 0]), 2, 40) := by kernel_rfl

/-- append of a file onto a row of files -/
theorem run_appendI {w : World} {v : Value} {l : List FI} (hown : OwnI w v l) {vx : Value} {x : FI} (hm : Reads w 2 vx 1 x.cells) (hx : ∃ ao n cap, x.v = .slice ao n cap) (hfit : l.length ≤ 1099511627776) (ty : TypeId) :
    ∃ ao cap w', (Builtin.append_ #[34, 34] ty #[v, vx]).run Try.prog w = .ok (.slice ao (l.length + 1) cap) w' ∧ OwnI w' (.slice ao (l.length + 1) cap) (l ++ [x]) ∧ Step (inFoot v) w (inFoot (.slice ao (l.length + 1) cap)) w' := by
  obtain ⟨i, hi, hz, h1, h2⟩ := info_parts info_file
  obtain ⟨v', w', hr, h3, h4, h5⟩ := run_append (P := Try.prog) w 34 34 ty 41 i (.agg #[.string ⟨#[]⟩, .slice none 0 0]) 2 40 Try.underlying34 hi hz h1 h2 rfl v l.length _ hown vx 1 x.cells (Reads.src (P := Try.prog) hm Try.underlying34 (fiCells_one x hx))
    (by unfold maxLen; omega) (by omega)
  obtain ⟨ao, cap, rfl, h6, h7⟩ := h3.shape
  refine ⟨ao, cap, w', hr, ?_, h4, h5⟩
  unfold OwnI
  rw [List.length_append, List.flatMap_append]
  simpa using h3
theorem Reads.oneFI (w : World) (x : FI) : Reads (w.alloc (.cells x.cells.toArray 41 (0, 0))) 2 (.slice (some ⟨w.heap.size, 0, none⟩) 1 1) 1 x.cells :=
  ⟨rfl, _, _, rfl, Nat.le_refl _, by simp [maxLen], fun _ => ⟨_, _, rfl, fun j u hu => by rw [Nat.zero_add]; exact (At.new w x.cells 41).cell j hu⟩⟩
/-- a builtin's run as a step of the walk -/
theorem wpList_append_run {P : Program} {ops : Array Oper} {rest : List Oper} {o : Oper} {a : Act} {Q : Exit → Act → World → Prop} {w w' : World} (hgd : o.guard = none) (s x : Operand) (t t2 : TypeId)
    (ho : o.op = .call { callee := .builtin .append, args := #[s, x], argTypes := #[t, t2] }) (vs vx v : Value) (hs : a.eval s = vs) (hx : a.eval x = vx) (hrun : (Builtin.append_ #[t, t2] o.type #[vs, vx]).run P w = .ok v w')
    (h : wpList P ops Q rest (a.put o.dst v) w') : wpList P ops Q (o :: rest) a w := by
  refine wpList_plain hgd fun K hK => ?_
  unfold Oper.wp execOp
  simp only [ho, resolve, invoke, builtin, Sem.run_bind, Sem.run_pure, Result.andThen_ok, List.map_toArray, List.map_cons, List.map_nil, hs, hx, hrun]
  exact hK _ _ h

/-- an image, one file longer -/
theorem ImgO.snoc {w X w1 : World} {v v' : Value} {l : List FI} {x : FI} (h : ImgO w v l) (e : Ext Nil w X) (hx : OwnB X x.v x.b) (hxk : ∀ k, inFoot x.v k → w.heap.size ≤ k ∧ k < X.heap.size) (hO : OwnI w1 v' (l ++ [x])) (hS : Step (inFoot v) X (inFoot v') w1) :
    ImgO w1 v' (l ++ [x]) ∧ ∀ k ∈ ibl v' (l ++ [x]), k ∈ ibl v l ∨ w.heap.size ≤ k := by
  have hnd := h.nodup
  have hlt := h.lt
  simp only [ibl, List.nodup_append, List.mem_append] at hnd hlt
  obtain ⟨h1, h2, h3⟩ := hnd
  refine ⟨⟨hO, ?_, ?_⟩, ?_⟩
  · intro y hy
    rcases List.mem_append.1 hy with hy | hy
    · exact ((h.bytes y hy).ext e fun _ _ h => h).ext hS.1 fun k hk hk2 => h3 k (mem_footL.2 hk2) k (List.mem_flatMap.2 ⟨y, hy, mem_footL.2 hk⟩) rfl
    · rw [List.mem_singleton] at hy
      subst hy
      exact hx.ext hS.1 fun k hk hk2 => by
        have := (hxk k hk).1
        have := Own.lt h.row k hk2
        omega
  · simp only [ibl, List.flatMap_append, List.flatMap_cons, List.flatMap_nil, List.append_nil, List.nodup_append, List.mem_append]
    refine ⟨footL_nodup _, ⟨h2, footL_nodup _, ?_⟩, ?_⟩
    · intro a ha b hb e'
      subst e'
      have h4 := hlt a (.inr ha)
      have := (hxk a (mem_footL.1 hb)).1
      omega
    · intro a ha b hb e'
      subst e'
      have hsz := e.size
      rcases hS.2 a (mem_footL.1 ha) with hv | hv
      · rcases hb with hb | hb
        · exact h3 a (mem_footL.2 hv) a hb rfl
        · have := (hxk a (mem_footL.1 hb)).1
          have := Own.lt h.row a hv
          omega
      · rcases hb with hb | hb
        · have := hlt a (.inr hb); omega
        · have := (hxk a (mem_footL.1 hb)).2; omega
  · intro k hk
    simp only [ibl, List.flatMap_append, List.flatMap_cons, List.flatMap_nil, List.append_nil, List.mem_append] at hk ⊢
    rcases hk with hk | hk | hk
    · rcases hS.2 k (mem_footL.1 hk) with hv | hv
      · exact .inl (.inl (mem_footL.2 hv))
      · exact .inr (Nat.le_trans e.size hv)
    · exact .inl (.inr hk)
    · exact .inr (hxk k (mem_footL.1 hk)).1
end Go.Proofs.Ytnppneilbkmnfaa
