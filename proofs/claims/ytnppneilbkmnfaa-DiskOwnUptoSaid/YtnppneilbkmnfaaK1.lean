/- Auxiliary: sorted and Names: the disk's names as a row of one's own. No condition. | Auxiliary: images (rows of files with a name and bytes) as they lie in memory of one's own; names as strings. No condition. | The contract of the disk's Crash. Condition: the disk stands, and what its numbers lie in is none of its blocks. | The contract of the disk's Crash. Condition: the disk stands, and what its numbers lie in is none of its blocks. | The contract of the disk's Crash, whole; a disk of one's own over the memory that was there. Condition: the disk stands, and what its numbers lie in is none of its blocks. -/
import Derived.Test.YtnppneilbkmnfaaIter
import Derived.Test.YtnppneilbkmnfaaDs
import Derived.Laws.BitsAllLaws
namespace Go.Proofs.Ytnppneilbkmnfaa
open Go.RowKit

theorem before_lt : ∀ a b : List UInt8, bytesBefore a b = true → a < b
  | [], [], h => by simp [bytesBefore] at h
  | [], y :: r, _ => by simp
  | x :: q, [], h => by simp [bytesBefore] at h
  | x :: q, y :: r, h => by
    simp only [bytesBefore, Bool.or_eq_true, Bool.and_eq_true, decide_eq_true_eq, beq_iff_eq] at h
    rw [List.cons_lt_cons_iff]
    exact h.imp id fun h => ⟨h.1, before_lt q r h.2⟩
theorem rises_sorted {l : List Nm} (h : Rises id l) : l.mergeSort (fun x y => decide (x ≤ y)) = l := by
  apply List.mergeSort_of_pairwise
  exact List.Pairwise.imp (fun {a b} hab => by
    simp only [decide_eq_true_eq]
    exact List.le_of_lt (before_lt a b hab)) h
theorem strKeys_mapD (l : List FB) : strKeys (mapD l) = l.map FB.nm := by
  show (l.map ent).map _ = _
  rw [List.map_map]
  rfl
theorem names_rise {w : World} {d mb : Nat} {av : Value} {fbs : List FB} {D : Dk} (h : DAt w d mb av fbs D) : Rises id (fbs.map FB.nm) := (rises_map FB.nm id FB.nm (fun _ => rfl) fbs).2 h.rises
theorem own_of_row {w : World} {base : Nat} {v : Value} {n : Nat} {xs : List Value} (h : w.ownsRow base 9 1 v n xs) (hz : v = .slice none 0 0 ↔ n = 0) : (∃ ao cap, v = .slice ao n cap) ∧ Own w 9 1 v n xs ∧ ∀ k, inFoot v k → base ≤ k := by
  obtain ⟨h0, h⟩ := h
  rcases h with ⟨rfl, rfl⟩ | ⟨g, cap, cur, rfl, hb, hc, h1, h2, h3, h4⟩
  · exact ⟨⟨none, 0, rfl⟩, ⟨h0, .inl ⟨none, rfl, rfl⟩⟩, fun k hk => by simp [inFoot, foot] at hk⟩
  · have hn : n ≠ 0 := fun e => by have := hz.2 e; simp at this
    obtain ⟨cap, rfl⟩ : ∃ c, cap = c + 1 := ⟨cap - 1, by omega⟩
    refine ⟨⟨_, _, rfl⟩, ⟨h0, .inr ⟨g, cap, cur.toList, rfl, At.mk hc, h1, h2, ?_, h4⟩⟩, ?_⟩
    · rw [Array.length_toList, h3]
    · intro k hk
      simp only [inFoot, foot, Option.some.injEq] at hk
      omega

def namesV (l : List Nm) : List Value := l.map encS
theorem below_ext {w w' : World} {o : Obj} (h : Below (w.alloc o).heap.size (w.alloc o) w') : Ext Nil w w' := by
  exact ((Ext.refl Nil w).alloc o).trans (G := Nil) ⟨h.os, h.tape, h.output, h.size, fun k hk _ => h.block k hk⟩ fun _ _ h => h

theorem sorted_at (w : World) (d mb : Nat) (av : Value) (fbs : List FB) (D : Dk) (h : DAt w d mb av fbs D) :
    Calls Try.prog 62 #[.pointer (some ⟨d, 0, none⟩)] w fun e w' => ∃ ao cap, e = .returned (.slice ao D.fs.length cap) ∧ Own w' 9 1 (.slice ao D.fs.length cap) D.fs.length (namesV (D.fs.map FileM.nm)) ∧ Step Nil w (inFoot (.slice ao D.fs.length cap)) w' := by
  have f2 := h.cells.cell 2 rfl
  have hM := h.map
  have hc := h.count
  have hk := names_rise h
  have hwf := h.wf.count
  have hsame : D.fs.map FileM.nm = fbs.map FB.nm := by rw [← h.same, List.map_map]; rfl
  rw [hsame]
  rw [← hc]
  have hsz : Maps.size (mapD fbs) = fbs.length := by unfold mapD; rw [Maps.size_eq, List.length_map]
  have h1 := callsIn_wide.1 (Go.Proofs.Try.maps_Keys_93 (some mb) w)
  have h2 := callsIn_wide.1 (Go.Proofs.Try.slices_Sorted_keys_92_93 mb fbs.length (mapD fbs) ptrElem w hM (by rw [hsz]; unfold maxLen; omega) (by rw [hsz]; omega))
  have H1 := Lib.hid h1; have H2 := Lib.hid h2
  clear h1 h2
  go_enter Try.func62, Try.ntmps62
  go_wp2_with (first
    | (go_at_call 92; refine (H2.out).mono ?_; rintro e w' ⟨v, ss, rfl, hp, ho, hn, hb⟩)
    | (go_at_call 93; refine (H1.out).mono ?_; rintro e w' ⟨rfl, rfl⟩))
  have hl : ss.length = fbs.length := by rw [hp.length_eq, strKeys_mapD, List.length_map]
  have hsort : ss.mergeSort (fun x y => decide (x ≤ y)) = fbs.map FB.nm := by
    rw [mergeSort_of_perm hp, strKeys_mapD]
    exact rises_sorted hk
  rw [hsort, hl] at ho
  obtain ⟨⟨ao, cap, rfl⟩, O, hf⟩ := own_of_row ho (hn.trans (by rw [← hl]; exact List.length_eq_zero_iff.symm))
  go_ret
  exact ⟨ao, cap, rfl, by
    show Own _ _ _ _ _ (List.map encStr _)
    exact O, below_ext hb, fun k hk => .inr (by
    have := hf k hk
    rw [World.size_alloc] at this
    omega)⟩

/-- the names that Names tells -/
def Dk.names (D : Dk) : List Nm := if D.off then [] else D.fs.map FileM.nm
theorem names_m (w : World) (d : Nat) (D : Dk) (F : Nat → Prop) (hD : Disk w d D F) :
    Calls Try.prog 37 #[.pointer (some ⟨d, 0, none⟩)] w fun e w' => ∃ ao cap, e = .returned (.slice ao D.names.length cap) ∧ Own w' 9 1 (.slice ao D.names.length cap) D.names.length (namesV D.names) ∧ Step Nil w (inFoot (.slice ao D.names.length cap)) w' := by
  obtain ⟨mb, av, fbs, h, rfl⟩ := hD
  have f3 := h.cells.cell 3 rfl
  unfold Dk.names
  cases ho : D.off
  · rw [ho] at f3
    simp only [Bool.false_eq_true, if_false, List.length_map]
    clear ho
    go_enter Try.func37, Try.ntmps37
    go_wp2_with (first
      | (go_at_call 56; refine (missing_at w d mb av fbs D h).mono ?_; rintro e w' ⟨rfl, rfl⟩)
      | (go_at_call 62; refine (sorted_at w d mb av fbs D h).mono ?_; rintro e w' ⟨ao, cap, rfl, O, S⟩))
    go_ret
    exact ⟨ao, cap, rfl, O, S⟩
  · rw [ho] at f3
    simp only [if_true]
    clear ho
    go_enter Try.func37, Try.ntmps37
    go_wp2_with (go_at_call 56; refine (missing_at w d mb av fbs D h).mono ?_; rintro e w' ⟨rfl, rfl⟩)
    go_ret
    exact ⟨none, 0, rfl, Own.nil _ _ _, Step.nilNil _ rfl⟩
end Go.Proofs.Ytnppneilbkmnfaa
namespace Go.Proofs.Ytnppneilbkmnfaa
open Go.RowKit

/-- a name as a string -/
def encS (l : Nm) : Value := .string ⟨l.toArray⟩
theorem encS_toList (l : Nm) : (⟨l.toArray⟩ : ByteArray).data.toList = l := by simp
theorem encS_size (l : Nm) : (⟨l.toArray⟩ : ByteArray).size = l.length := by simp [ByteArray.size]

/-- a file of an image, as it lies -/
structure FI where
  nm : Nm
  b : List UInt8
  v : Value
namespace FI
def cells (x : FI) : List Value := [encS x.nm, x.v]
def pair (x : FI) : Nm × List UInt8 := (x.nm, x.b)
end FI
theorem fiCells_length (l : List FI) : (l.flatMap FI.cells).length = l.length * 2 := flat_len FI.cells 2 l fun _ _ => rfl
theorem fiCells_at (l : List FI) (k : Nat) (hk : k < l.length) (j : Nat) (hj : j < 2) : (l.flatMap FI.cells)[k * 2 + j]? = (l[k].cells)[j]? := flat_mem FI.cells 2 l (fun _ _ => rfl) k hk j hj
def OwnI (w : World) (v : Value) (l : List FI) : Prop := Own w 41 2 v l.length (l.flatMap FI.cells)
theorem OwnI.ext {F : Nat → Prop} {w w' : World} {v : Value} {l : List FI} (h : OwnI w v l) (e : Ext F w w') (hf : ∀ k, inFoot v k → ¬ F k) : OwnI w' v l := Own.ext h e hf
/-- all blocks of an image -/
def ibl (v : Value) (l : List FI) : List Nat := footL v ++ l.flatMap fun x => footL x.v
/-- an image in memory of its own -/
structure ImgO (w : World) (v : Value) (l : List FI) : Prop where
  row : OwnI w v l
  bytes : ∀ x ∈ l, OwnB w x.v x.b
  nodup : (ibl v l).Nodup
theorem ImgO.ext {F : Nat → Prop} {w w' : World} {v : Value} {l : List FI} (h : ImgO w v l) (e : Ext F w w') (hf : ∀ k ∈ ibl v l, ¬ F k) : ImgO w' v l :=
  ⟨h.row.ext e fun k hk => hf k (by simp [ibl, mem_footL, hk]), fun x hx => (h.bytes x hx).ext e fun k hk => hf k (by
    simp only [ibl, List.mem_append, List.mem_flatMap]
    exact .inr ⟨x, hx, mem_footL.2 hk⟩), h.nodup⟩
theorem ImgO.lt {w : World} {v : Value} {l : List FI} (h : ImgO w v l) : ∀ k ∈ ibl v l, k < w.heap.size := by
  intro k hk
  simp only [ibl, List.mem_append, List.mem_flatMap] at hk
  rcases hk with hk | ⟨x, hx, hk⟩
  · exact Own.lt h.row k (mem_footL.1 hk)
  · exact (h.bytes x hx).lt k (mem_footL.1 hk)
theorem ImgO.nil (w : World) : ImgO w (.slice none 0 0) [] := ⟨Own.nil _ _ _, (by intro x hx; cases hx), by simp [ibl, footL, foot]⟩

theorem slice_one {v : Value} (h : ∃ ao n cap, v = .slice ao n cap) : v.oneCell' = true := by
  obtain ⟨ao, n, cap, rfl⟩ := h
  rfl
theorem fiCells_one (x : FI) (h : ∃ ao n cap, x.v = .slice ao n cap) : ∀ u ∈ x.cells, u.oneCell' = true := by
  intro u hu
  simp only [FI.cells, List.mem_cons, List.not_mem_nil, or_false] at hu
  rcases hu with rfl | rfl
  · rfl
  · exact slice_one h
theorem info_file : (Try.prog.info? 41).map (fun i => (i.zero, i.size, i.bytes)) = some (some (.agg #[.string ⟨#[]⟩, .slice none 0 0]), 2, 40) := by kernel_rfl

/-- append of a file onto a row of files -/
theorem run_appendI {w : World} {v : Value} {l : List FI} (hown : OwnI w v l) {vx : Value} {x : FI} (hm : Reads w 2 vx 1 x.cells) (hx : ∃ ao n cap, x.v = .slice ao n cap) (hfit : l.length ≤ 1099511627776) (ty : TypeId) :
    ∃ ao cap w', (Builtin.append_ #[34, 34] ty #[v, vx]).run Try.prog w = .ok (.slice ao (l.length + 1) cap) w' ∧ OwnI w' (.slice ao (l.length + 1) cap) (l ++ [x]) ∧ Step (inFoot v) w (inFoot (.slice ao (l.length + 1) cap)) w' := by
  obtain ⟨i, hi, hz, h1, h2⟩ := info_parts info_file
  obtain ⟨v', w', hr, h3, h4, h5⟩ := run_append (P := Try.prog) w 34 34 ty 41 i (.agg #[.string ⟨#[]⟩, .slice none 0 0]) 2 40 Try.underlying34 hi hz h1 h2 rfl v l.length _ hown vx 1 x.cells (Reads.src (P := Try.prog) hm Try.underlying34 (fiCells_one x hx))
    (by unfold maxLen; omega) (by omega)
  obtain ⟨ao, cap, rfl, h6, h7⟩ := h3.shape
  refine ⟨ao, cap, w', hr, ?_, h4, h5⟩
  unfold OwnI
  rw [List.length_append, List.flatMap_append]
  simpa using h3
theorem Reads.oneFI (w : World) (x : FI) : Reads (w.alloc (.cells x.cells.toArray 41 (0, 0))) 2 (.slice (some ⟨w.heap.size, 0, none⟩) 1 1) 1 x.cells :=
  ⟨rfl, _, _, rfl, Nat.le_refl _, by simp [maxLen], fun _ => ⟨_, _, rfl, fun j u hu => by rw [Nat.zero_add]; exact (At.new w x.cells 41).cell j hu⟩⟩
/-- a builtin's run as a step of the walk -/
theorem wpList_append_run {P : Program} {ops : Array Oper} {rest : List Oper} {o : Oper} {a : Act} {Q : Exit → Act → World → Prop} {w w' : World} (hgd : o.guard = none) (s x : Operand) (t t2 : TypeId)
    (ho : o.op = .call { callee := .builtin .append, args := #[s, x], argTypes := #[t, t2] }) (vs vx v : Value) (hs : a.eval s = vs) (hx : a.eval x = vx) (hrun : (Builtin.append_ #[t, t2] o.type #[vs, vx]).run P w = .ok v w')
    (h : wpList P ops Q rest (a.put o.dst v) w') : wpList P ops Q (o :: rest) a w := by
  refine wpList_plain hgd fun K hK => ?_
  unfold Oper.wp execOp
  simp only [ho, resolve, invoke, builtin, Sem.run_bind, Sem.run_pure, Result.andThen_ok, List.map_toArray, List.map_cons, List.map_nil, hs, hx, hrun]
  exact hK _ _ h

/-- an image, one file longer -/
theorem ImgO.snoc {w X w1 : World} {v v' : Value} {l : List FI} {x : FI} (h : ImgO w v l) (e : Ext Nil w X) (hx : OwnB X x.v x.b) (hxk : ∀ k, inFoot x.v k → w.heap.size ≤ k ∧ k < X.heap.size) (hO : OwnI w1 v' (l ++ [x])) (hS : Step (inFoot v) X (inFoot v') w1) :
    ImgO w1 v' (l ++ [x]) ∧ ∀ k ∈ ibl v' (l ++ [x]), k ∈ ibl v l ∨ w.heap.size ≤ k := by
  have hnd := h.nodup
  have hlt := h.lt
  simp only [ibl, List.nodup_append, List.mem_append] at hnd hlt
  obtain ⟨h1, h2, h3⟩ := hnd
  refine ⟨⟨hO, ?_, ?_⟩, ?_⟩
  · intro y hy
    rcases List.mem_append.1 hy with hy | hy
    · exact ((h.bytes y hy).ext e fun _ _ h => h).ext hS.1 fun k hk hk2 => h3 k (mem_footL.2 hk2) k (List.mem_flatMap.2 ⟨y, hy, mem_footL.2 hk⟩) rfl
    · rw [List.mem_singleton] at hy
      subst hy
      exact hx.ext hS.1 fun k hk hk2 => by
        have := (hxk k hk).1
        have := Own.lt h.row k hk2
        omega
  · simp only [ibl, List.flatMap_append, List.flatMap_cons, List.flatMap_nil, List.append_nil, List.nodup_append, List.mem_append]
    refine ⟨footL_nodup _, ⟨h2, footL_nodup _, ?_⟩, ?_⟩
    · intro a ha b hb e'
      subst e'
      have h4 := hlt a (.inr ha)
      have := (hxk a (mem_footL.1 hb)).1
      omega
    · intro a ha b hb e'
      subst e'
      have hsz := e.size
      rcases hS.2 a (mem_footL.1 ha) with hv | hv
      · rcases hb with hb | hb
        · exact h3 a (mem_footL.2 hv) a hb rfl
        · have := (hxk a (mem_footL.1 hb)).1
          have := Own.lt h.row a hv
          omega
      · rcases hb with hb | hb
        · have := hlt a (.inr hb); omega
        · have := (hxk a (mem_footL.1 hb)).2; omega
  · intro k hk
    simp only [ibl, List.flatMap_append, List.flatMap_cons, List.flatMap_nil, List.append_nil, List.mem_append] at hk ⊢
    rcases hk with hk | hk | hk
    · rcases hS.2 k (mem_footL.1 hk) with hv | hv
      · exact .inl (.inl (mem_footL.2 hv))
      · exact .inr (Nat.le_trans e.size hv)
    · exact .inl (.inr hk)
    · exact .inr (hxk k (mem_footL.1 hk)).1
end Go.Proofs.Ytnppneilbkmnfaa
namespace Go.Proofs.Ytnppneilbkmnfaa
open Go.RowKit

/-- the result that lies in a cell: an image -/
theorem results_image {P : Program} {fn : Func} {a u : Tmp} (h : fn.results = #[.cell a 36, .tmp u]) (tmps : Array Value) {w : World} {b : Nat} {v : Value} (ha : tmps.getD a undef = .pointer (some ⟨b, 0, none⟩)) (hc : w.cell? ⟨b, 0, none⟩ = some v) (hP : (isAgg 36).run P w = .ok true w) (hZ : (sizeOf 36).run P w = .ok 1 w) :
    (results fn tmps).run P w = .ok (.tuple #[.agg #[v], tmps.getD u undef]) w := by
  have e0 : (⟨b, 0, none⟩ : Addr).add 0 = ⟨b, 0, none⟩ := rfl
  rw [Array.getD_eq_getD_getElem?] at ha
  simp [results, h, ha, loadVar, asAddr, loadCells, loadCellsFrom, e0, Result.andThen, hP, hZ, run_load, hc]
theorem agg_image (w : World) : (isAgg 36).run Try.prog w = .ok true w := by kernel_rfl
theorem size_image (w : World) : (sizeOf 36).run Try.prog w = .ok 1 w := by kernel_rfl

theorem crash_out_m (w : World) (d : Nat) (D : Dk) (F : Nat → Prop) (hD : Disk w d D F) (kv : Value) (junk : Int) (ho : D.out = true) :
    Calls Try.prog 23 #[.pointer (some ⟨d, 0, none⟩), kv, .int .u8 junk] w fun e w' => e = .returned (.tuple #[.agg #[.slice none 0 0], .int .i64 63]) ∧ Ext Nil w w' := by
  obtain ⟨mb, av, fbs, h, rfl⟩ := hD
  have eW : Ext Nil w (w.alloc (.cells #[.slice none 0 0] 36 (0, 0))) := (Ext.refl _ _).alloc _
  have hW := h.ext eW fun _ _ h => h
  have c4 := hW.cells.cell 4 rfl
  rw [ho] at c4
  go_enter Try.func23, Try.ntmps23
  go_wp2_with (go_at_call 56; refine (missing_at _ d mb av fbs D hW).mono ?_; rintro e w' ⟨rfl, rfl⟩)
  refine bodyPost_ret (results_image rfl _ (b := w.heap.size) (v := .slice none 0 0) rfl (At.new w [.slice none 0 0] 36 |>.cell 0 rfl) (agg_image _) (size_image _)) rfl ?_
  exact ⟨rfl, (Ext.refl _ _).alloc _⟩

theorem findK_mem {α : Type} (k : α → Nm) {l : List α} (h : Rises k l) {a : α} (ha : a ∈ l) : findK k (k a) l = some a := by
  induction l with
  | nil => cases ha
  | cons y r ih =>
    have h2 := List.pairwise_cons.1 h
    unfold findK
    rw [List.find?_cons]
    rcases List.mem_cons.1 ha with rfl | ha
    · simp
    · have := before_ne (h2.1 a ha)
      have e : (k y == k a) = false := by simpa using this
      rw [e]
      exact ih h2.2 ha
/-- the disk as Crash leaves it -/
def Dk.shut (D : Dk) : Dk := { D with off := true, out := true }
theorem Dk.shut_wf {D : Dk} (h : D.Wf) : D.shut.Wf := ⟨h.rises, h.lim0, h.lim1, h.used, h.synced, h.names, h.count, h.kinds, fun _ => rfl⟩
theorem DAt.shut {w : World} {d mb : Nat} {av : Value} {fbs : List FB} {D : Dk} (h : DAt w d mb av fbs D) :
    DAt ((w.setCell ⟨d, 3, none⟩ (.bool true)).setCell ⟨d, 4, none⟩ (.bool true)) d mb av fbs D.shut ∧ Ext (One d) w ((w.setCell ⟨d, 3, none⟩ (.bool true)).setCell ⟨d, 4, none⟩ (.bool true)) := by
  have e : Ext (One d) w ((w.setCell ⟨d, 3, none⟩ (.bool true)).setCell ⟨d, 4, none⟩ (.bool true)) := ((Ext.refl (One d) w).setCell (p := ⟨d, 3, none⟩) (fun _ => rfl) _).setCell (p := ⟨d, 4, none⟩) (fun _ => rfl) _
  exact ⟨(h.rearm (D' := D.shut) (e.mono fun k _ hk => .inl hk) ((h.cells.set 3 (.bool true)).set 4 (.bool true)) (h.arms.ext e fun k hk ek => h.part.2.1 (by have ek : k = d := ek; rwa [ek] at hk)) (fun k hk => .inl hk) rfl (Dk.shut_wf h.wf)).1, e⟩
theorem take_set_last (b : List UInt8) (m : Nat) (h1 : 1 ≤ m) (h2 : m ≤ b.length) (c : UInt8) : (b.take m).set (m - 1) c = b.take (m - 1) ++ [c] := by
  obtain ⟨m, rfl⟩ : ∃ k, m = k + 1 := ⟨m - 1, by omega⟩
  rw [Nat.add_sub_cancel, List.take_succ_eq_append_getElem (by omega)]
  rw [List.set_append_right _ _ (by simp; exact Nat.min_le_left ..)]
  have e : min m b.length = m := by omega
  simp [e]
theorem xor_u8 (a b : UInt8) : bits .xor .u8 (a.toNat : Int) (b.toNat : Int) = ((a ^^^ b).toNat : Int) := by
  rw [Go.u8_xor_nat _ _ a.toNat_lt b.toNat_lt, UInt8.toNat_xor]
theorem image_at {D : Dk} {keep : List Int} {junk : UInt8} {i : Nat} {f : FileM} (hf : D.fs[i]? = some f) : (D.image keep junk)[i]? = some (f.nm, Dk.left f (Dk.kept keep i f) junk) := by
  unfold Dk.image
  rw [List.getElem?_mapIdx, hf]
  rfl
theorem image_len (D : Dk) (keep : List Int) (junk : UInt8) : (D.image keep junk).length = D.fs.length := by unfold Dk.image; simp
theorem pairs_snoc {img : List (Nm × List UInt8)} {l : List FI} {x : FI} (h : l.map FI.pair = img.take l.length) (hx : img[l.length]? = some x.pair) : (l ++ [x]).map FI.pair = img.take (l ++ [x]).length := by
  rw [List.map_append, h, List.length_append, List.length_singleton, List.take_add_one, hx]
  rfl
end Go.Proofs.Ytnppneilbkmnfaa
namespace Go.Proofs.Ytnppneilbkmnfaa
open Go.RowKit

theorem Reads.ints {w : World} {v : Value} {l : List Int} (h : Reads w 1 v l.length (l.map (.int .i64 ·))) : ∃ ao cap, v = .slice ao l.length cap ∧ l.length ≤ cap ∧ cap ≤ maxLen ∧ (l ≠ [] → ∃ b off, ao = some ⟨b, off, none⟩ ∧ ∀ j (hj : j < l.length), w.cell? ⟨b, off + j, none⟩ = some (.int .i64 l[j])) := by
  obtain ⟨h1, ao, cap, rfl, h2, h3, h4⟩ := h
  refine ⟨ao, cap, rfl, h2, h3, fun hne => ?_⟩
  obtain ⟨b, off, rfl, hc⟩ := h4 (by simpa using hne)
  exact ⟨b, off, rfl, fun j hj => hc j _ (by simp [hj])⟩

theorem Reads.intsAt {w : World} {ao : Option Addr} {cap : Nat} {l : List Int} (h : Reads w 1 (.slice ao l.length cap) l.length (l.map (.int .i64 ·))) (hne : l ≠ []) : ∃ b off, ao = some ⟨b, off, none⟩ ∧ ∀ j (hj : j < l.length), w.cell? ⟨b, off + j, none⟩ = some (.int .i64 l[j]) := by
  obtain ⟨ao', cap', e, -, -, h4⟩ := h.ints
  simp only [Value.slice.injEq, true_and] at e
  obtain ⟨rfl, rfl⟩ := e
  exact h4 hne
theorem names_at {w : World} {ao : Option Addr} {n cap : Nat} {L : List Nm} (h : Own w 9 1 (.slice ao n cap) n (namesV L)) (hn : 0 < n) : ∃ g c, ao = some ⟨g, 0, none⟩ ∧ cap = c + 1 ∧ n ≤ c + 1 ∧ c + 1 ≤ maxLen ∧ ∀ k (hk : k < L.length), w.cell? ⟨g, k, none⟩ = some (.string ⟨(L[k]).toArray⟩) := by
  have hr := h.reads
  rcases h.2 with ⟨ao', h1, h2⟩ | ⟨g, c, cs, h1, h2, h3, h4, h5, h6⟩
  · omega
  · simp only [Value.slice.injEq, true_and] at h1
    obtain ⟨rfl, rfl⟩ := h1
    obtain ⟨-, ao', cap', h7, -, -, h8⟩ := hr
    simp only [Value.slice.injEq, true_and] at h7
    obtain ⟨rfl, rfl⟩ := h7
    refine ⟨g, c, rfl, rfl, h3, h4, fun k hk => ?_⟩
    obtain ⟨b, off, h9, hc⟩ := h8 (by intro e; rw [namesV, List.map_eq_nil_iff] at e; subst e; simp at hk)
    simp only [Option.some.injEq, Addr.mk.injEq, and_true] at h9
    obtain ⟨rfl, rfl⟩ := h9
    have := hc k (encS L[k]) (by unfold namesV; rw [List.getElem?_map, List.getElem?_eq_getElem hk]; rfl)
    rwa [Nat.zero_add] at this

/-- what a round of Crash finds -/
structure CrR (im : Nat) (wn : World) (img : List (Nm × List UInt8)) (l : List FI) (v : Value) (wr : World) : Prop where
  pairs : l.map FI.pair = img.take l.length
  own : ImgO wr v l
  new : ∀ k ∈ ibl v l, wn.heap.size ≤ k
  at_ : At wr im 36 [v]
  ext : Ext (One im) wn wr
theorem CrR.next {im : Nat} {wn wr X w3 : World} {img : List (Nm × List UInt8)} {l : List FI} {v v' : Value} {y : FI} (h : CrR im wn img l v wr) (him : im < wn.heap.size) (e : Ext Nil wr X) (hy : OwnB X y.v y.b) (hyk : ∀ k, inFoot y.v k → wr.heap.size ≤ k ∧ k < X.heap.size)
    (hO : OwnI w3 v' (l ++ [y])) (hS : Step (inFoot v) X (inFoot v') w3) (himg : img[l.length]? = some y.pair) : CrR im wn img (l ++ [y]) v' (w3.setCell ⟨im, 0, none⟩ v') := by
  obtain ⟨h1, h2⟩ := h.own.snoc e hy hyk hO hS
  have hw := h.ext.size
  have hk : ∀ k ∈ ibl v' (l ++ [y]), wn.heap.size ≤ k := fun k hk => (h2 k hk).elim (h.new k) fun h => Nat.le_trans hw h
  have hfv : ∀ k, inFoot v k → wn.heap.size ≤ k := fun k hk => h.new k (by simp [ibl, mem_footL, hk])
  have hiv : ¬ inFoot v im := fun e => by have := hfv im e; omega
  refine ⟨pairs_snoc h.pairs himg, h1.ext ((Ext.refl (One im) w3).setCell (p := ⟨im, 0, none⟩) (fun _ => rfl) v') fun k hk' e => ?_, hk, ((h.at_.ext e fun h => h).ext hS.1 hiv).set 0 v', ?_⟩
  · have e : k = im := e
    have := hk k hk'
    omega
  · exact ((h.ext.trans e fun _ _ h => h.elim).trans hS.1 fun i hi hf => by have := hfv i hf; omega).setCell (p := ⟨im, 0, none⟩) (fun _ => rfl) v'

set_option maxRecDepth 20000 in
set_option maxHeartbeats 2000000 in
theorem crash_in_m (w : World) (d : Nat) (D : Dk) (F : Nat → Prop) (hD : Disk w d D F) (kv : Value) (keep : List Int) (hk : Reads w 1 kv keep.length (keep.map (.int .i64 ·))) (hkF : ∀ k, inFoot kv k → ¬ F k) (junk : UInt8) (ho : D.out = false) :
    Calls Try.prog 23 #[.pointer (some ⟨d, 0, none⟩), kv, .int .u8 junk.toNat] w fun e w' => ∃ v l, e = .returned (.tuple #[.agg #[v], .int .i64 0]) ∧ l.map FI.pair = D.image keep junk ∧ ImgO w' v l ∧ (∀ k ∈ ibl v l, w.heap.size ≤ k) ∧ Disk w' d D.shut F ∧ Ext (One d) w w' := by
  obtain ⟨mb, av, fbs, h, rfl⟩ := hD
  obtain ⟨W0, hW0⟩ : ∃ W0, W0 = w.alloc (.cells #[.slice none 0 0] 36 (0, 0)) := ⟨_, rfl⟩
  have e0 : Ext Nil w W0 := by rw [hW0]; exact (Ext.refl _ _).alloc _
  have h0 := h.ext e0 fun _ _ h => h
  have hr0 : At W0 w.heap.size 36 [.slice none 0 0] := by rw [hW0]; exact At.new w [.slice none 0 0] 36
  obtain ⟨h1, e1⟩ := h0.shut
  obtain ⟨W1, hW1⟩ : ∃ W1, W1 = (W0.setCell ⟨d, 3, none⟩ (.bool true)).setCell ⟨d, 4, none⟩ (.bool true) := ⟨_, rfl⟩
  rw [← hW1] at h1 e1
  have hdl := h.cells.lt
  have hr1 := hr0.ext e1 (by show ¬ w.heap.size = d; omega)
  have hk1 := (hk.ext e0 fun _ _ h => h).ext e1 fun k hkk e => hkF k hkk (by have e : k = d := e; rw [e]; simp [dbl])
  have e2 : Ext Nil W1 (W1.alloc (.cells #[.slice none 0 0] 36 (0, 0))) := (Ext.refl _ _).alloc _
  have h2 := h1.ext e2 fun _ _ h => h
  have hr2 := hr1.ext e2 fun h => h
  have hi2 : At (W1.alloc (.cells #[.slice none 0 0] 36 (0, 0))) W1.heap.size 36 [.slice none 0 0] := At.new W1 [.slice none 0 0] 36
  have hk2 := hk1.ext e2 fun _ _ h => h
  have hS : Calls Try.prog 62 #[.pointer (some ⟨d, 0, none⟩)] (W1.alloc (.cells #[.slice none 0 0] 36 (0, 0))) (fun e w' => ∃ ao cap, e = .returned (.slice ao D.fs.length cap) ∧ Own w' 9 1 (.slice ao D.fs.length cap) D.fs.length (namesV (D.fs.map FileM.nm)) ∧ Step Nil (W1.alloc (.cells #[.slice none 0 0] 36 (0, 0))) (inFoot (.slice ao D.fs.length cap)) w') := sorted_at _ d mb av fbs D.shut h2
  have c3 := h0.cells.cell 3 rfl
  have c4 := h0.cells.cell 4 rfl
  rw [ho] at c4
  have z3 := h0.cells.frozen 3
  have z4 := h0.cells.frozen 4
  have HS := Lib.hid hS; have HDL := Lib.hid hdl
  subst hW1 hW0
  clear hS hdl
  go_enter Try.func23, Try.ntmps23
  go_wp2_with (first
    | (go_at_call 56; refine (missing_at _ d mb av fbs D h0).mono ?_; rintro e w' ⟨rfl, rfl⟩)
    | (go_at_call 62; refine (HS.out).mono ?_; rintro e wn ⟨ao, cap, rfl, O, S⟩))
  have hDS : D.shut.fs = D.fs := rfl
  have hn := h2.ext S.1 fun _ _ h => h
  have rn := hr2.ext S.1 fun h => h
  have hin : At wn (w.heap.size + 1) 36 [.slice none 0 0] := by
    have := hi2.ext S.1 fun h => h
    simpa [World.setCell] using this
  have kn := hk2.ext S.1 fun _ _ h => h
  have hbW : w.heap.size + 2 ≤ wn.heap.size := by
    have := S.1.size
    simpa [World.setCell] using this
  have hof : ∀ k, inFoot (.slice ao D.fs.length cap) k → w.heap.size + 2 ≤ k ∧ k < wn.heap.size := fun k hk => ⟨by
    have := (S.2 k hk).resolve_left fun h => h
    simpa [World.setCell] using this, O.lt k hk⟩
  have eN : Ext (One d) w wn := (((e0.mono fun _ _ h => h.elim).same e1).trans e2 fun _ _ h => h.elim).trans S.1 fun _ _ h => h.elim
  have hc := hn.count
  rw [hDS] at hc
  clear e0 h0 hr0 c3 c4 z3 z4 e1 h1 hr1 hk1 e2 h2 hr2 hi2 hk2 HS S
  clear hDS
  obtain ⟨ka, kcap, rfl, hkc, hkm, hkat⟩ := kn.ints
  have HN := Lib.hid hn; have HRN := Lib.hid rn; have HIN := Lib.hid hin; have HKN := Lib.hid kn; have HKW := Lib.hid hk; have HO := Lib.hid O; have HOF := Lib.hid hof; have HEN := Lib.hid eN; have HKF := Lib.hid hkF; have HH := Lib.hid h
  clear hn rn hin kn hkat hk O hof eN hkF h
  go_loopw [31] (fun i wr => ∃ (l : List FI) (v : Value), i = .int .i64 l.length ∧ l.length ≤ D.fs.length ∧ CrR (w.heap.size + 1) wn (D.image keep junk) l v wr) (fun i _ => D.fs.length - (intOf i).toNat)
  case atStart => exact ⟨[], .slice none 0 0, rfl, Nat.zero_le _, rfl, ImgO.nil _, by simp [ibl, footL, foot], HIN.out, Ext.refl _ _⟩
  case round =>
    obtain ⟨l, v, rfl, hle, hR⟩ := hrel
    have hE := hR.ext
    have hwn := HN.out.ext hE (by intro k hk e; have e : k = w.heap.size + 1 := e; have := HH.out.lt k hk; omega)
    by_cases hlt : l.length < D.fs.length
    · obtain ⟨g, c, rfl, rfl, hn1, hn2, hnm⟩ := names_at HO.out (by omega)
      have hg := HOF.out g rfl
      obtain ⟨x, hx⟩ : ∃ x, fbs[l.length]? = some x := ⟨fbs[l.length]'(by omega), List.getElem?_eq_getElem (by omega)⟩
      have hxm := List.mem_of_getElem? hx
      have hfx : D.fs[l.length]? = some x.f := by rw [← HH.out.same, List.getElem?_map, hx]; rfl
      have nmc : wr.cell? ⟨g, l.length, none⟩ = some (.string ⟨x.f.nm.toArray⟩) := by
        have h1 := hnm l.length (by simpa using hlt)
        rw [List.getElem_map, (List.getElem?_eq_some_iff.1 hfx).2] at h1
        exact hE.cell h1 (by show ¬ g = _; omega)
      clear hnm
      have hok := HH.out.wf.names _ (List.mem_of_getElem? hfx)
      have hnl : x.f.nm.length ≤ maxLen := by
        unfold nmOk at hok
        simp only [Bool.and_eq_true, decide_eq_true_eq] at hok
        unfold maxLen
        omega
      have hfk : findK FB.nm x.f.nm fbs = some x := findK_mem FB.nm HH.out.rises hxm
      have hl := MapAt.look hwn.map ⟨x.f.nm.toArray⟩ (by rw [encS_size]; exact hnl)
      unfold fileAt at hl
      rw [encS_toList, hfk] at hl
      have c2 := hwn.cells.cell 2 rfl
      have hxo := hwn.files x hxm
      have f0 := hxo.1.cell 0 rfl
      have f1 := hxo.1.cell 1 rfl
      obtain ⟨bo, bcap, hv, hbc, hbm⟩ := hxo.2.shape
      rw [hv] at f0
      have hsy := HH.out.wf.synced _ (List.mem_of_getElem? hfx)
      have hbl := sumF_mem (List.mem_of_getElem? hfx)
      have hul := HH.out.wf.used
      have hl1 := HH.out.wf.lim1
      have hblen : x.f.b.length ≤ 1073741824 := by omega
      have hlen : D.fs.length ≤ 65536 := HH.out.wf.count
      have HV := Lib.hid hv; have HXO := Lib.hid hxo; have HFX := Lib.hid hfx; have HWN := Lib.hid hwn; have HR := Lib.hid hR; have HE := Lib.hid hE
      clear hv hxo hfx hwn hR hE hx hfk hul hl1 hbl hok
      obtain ⟨k, hkk⟩ : ∃ k, k = Dk.kept keep l.length x.f := ⟨_, rfl⟩
      have hkle : k ≤ x.f.b.length - x.f.sy := by
        rw [hkk]; unfold Dk.kept
        cases keep[l.length]? with
        | none => exact Nat.zero_le _
        | some n => exact Nat.min_le_right ..
      obtain ⟨m, hm⟩ : ∃ m, m = x.f.sy + k := ⟨_, rfl⟩
      have hmw : IntKind.i64.wrap ((x.f.sy : Int) + (k : Int)) = (m : Int) := by rw [IntWalk.i64_in _ (by omega)]; omega
      have hml : m ≤ x.f.b.length := by omega
      have hBX : Bytes wr (.slice bo m bcap) (x.f.b.take m) := by
        have := HXO.out.2.bytes
        rw [HV.out] at this
        exact this.take m hml
      have htl : (x.f.b.take m).length = m := by rw [List.length_take]; omega
      have hmc : m ≤ bcap := by omega
      have HTL := Lib.hid htl
      clear htl
      by_cases hik : l.length < keep.length
      · have hne : keep ≠ [] := by intro e; rw [e] at hik; simp at hik
        obtain ⟨kb, ko, rfl, hkat⟩ := HKN.out.intsAt hne
        obtain ⟨kb', ko', hke, hkw⟩ := HKW.out.intsAt hne
        simp only [Option.some.injEq, Addr.mk.injEq, and_true] at hke
        obtain ⟨rfl, rfl⟩ := hke
        have hkbl : kb < w.heap.size := (cell_spot (hkw l.length hik)).2
        have kc := HE.out.cell (hkat l.length hik) (by show ¬ kb = _; omega)
        clear hkw hne hkbl
        have hkv : min (max keep[l.length] 0) ((x.f.b.length : Int) - (x.f.sy : Int)) = (k : Int) := by
          rw [hkk]; unfold Dk.kept
          rw [List.getElem?_eq_getElem hik]
          simp only []
          omega
        have HKK := Lib.hid hkk; have HM := Lib.hid hm
        clear hkat hkk hm
        go_wp2_with fail
        go_quiet (fail)
        have f0 := ((Ext.refl Nil wr).drewN nq).cell f0 fun h => h
        have f1 := ((Ext.refl Nil wr).drewN nq).cell f1 fun h => h
        have hBX := hBX.ext ((Ext.refl Nil wr).drewN nq) fun _ _ h => h
        have HBX := Lib.hid hBX
        clear kc hkv hBX
        have eX : Ext Nil wr (wr.drewN nq) := (Ext.refl Nil wr).drewN nq
        generalize wr.drewN nq = X at *
        go_wp2_with fail
        refine wp_region_held_drew (S := fun w' => w'.cell? ⟨x.blk, 0, none⟩ = some (.slice bo x.f.b.length bcap) ∧ w'.cell? ⟨x.blk, 1, none⟩ = some (.int .i64 x.f.sy)) (by kernel_rfl) ⟨f0, f1⟩ (fun hHeld => ?_)
        refine wpAnyH_take (i := 0) (v := .pointer (some ⟨x.blk, 0, none⟩)) rfl (by kernel_rfl) (by kernel_rfl) (by kernel_rfl) (fun _ _ _ h => h) (Or.inl ⟨by rfl, ?y1⟩) (by assumption) ?r1
        case y1 => (intro w hSw; obtain ⟨s1, s2⟩ := hSw; go_simp)
        simp only [Act.put]
        refine wpAnyH_take (i := 1) (v := .pointer (some ⟨x.blk, 0, none⟩)) rfl (by kernel_rfl) (by kernel_rfl) (by kernel_rfl) (fun _ _ _ h => h) (Or.inl ⟨by rfl, ?y2⟩) (by assumption) ?r2
        case y2 => (intro w hSw; obtain ⟨s1, s2⟩ := hSw; go_simp)
        simp only [Act.put]
        refine wpAnyH_take (i := 2) (v := .pointer (some ⟨x.blk, 0, none⟩)) rfl (by kernel_rfl) (by kernel_rfl) (by kernel_rfl) (fun _ _ _ h => h) (Or.inl ⟨by rfl, ?y3⟩) (by assumption) ?r3
        case y3 => (intro w hSw; obtain ⟨s1, s2⟩ := hSw; go_simp)
        simp only [Act.put]
        refine wpAnyH_take (i := 3) (v := .slice bo x.f.b.length bcap) rfl (by kernel_rfl) (by kernel_rfl) (by kernel_rfl) (fun _ _ _ h => h) (Or.inl ⟨by rfl, ?y4⟩) (by assumption) ?r4
        case y4 => (intro w hSw; obtain ⟨s1, s2⟩ := hSw; go_simp)
        simp only [Act.put]
        refine wpAnyH_take (i := 4) (v := .pointer (some ⟨x.blk, 0, none⟩)) rfl (by kernel_rfl) (by kernel_rfl) (by kernel_rfl) (fun _ _ _ h => h) (Or.inl ⟨by rfl, ?y5⟩) (by assumption) ?r5
        case y5 => (intro w hSw; obtain ⟨s1, s2⟩ := hSw; go_simp)
        simp only [Act.put]
        refine wpAnyH_take (i := 5) (v := .pointer (some ⟨x.blk, 0, none⟩)) rfl (by kernel_rfl) (by kernel_rfl) (by kernel_rfl) (fun _ _ _ h => h) (Or.inl ⟨by rfl, ?y6⟩) (by assumption) ?r6
        case y6 => (intro w hSw; obtain ⟨s1, s2⟩ := hSw; go_simp)
        simp only [Act.put]
        refine wpAnyH_take (i := 6) (v := .pointer (some ⟨x.blk, 1, none⟩)) rfl (by kernel_rfl) (by kernel_rfl) (by kernel_rfl) (fun _ _ _ h => h) (Or.inl ⟨by rfl, ?y7⟩) (by assumption) ?r7
        case y7 => (intro w hSw; obtain ⟨s1, s2⟩ := hSw; go_simp)
        simp only [Act.put]
        refine wpAnyH_take (i := 7) (v := .int .i64 x.f.sy) rfl (by kernel_rfl) (by kernel_rfl) (by kernel_rfl) (fun _ _ _ h => h) (Or.inl ⟨by rfl, ?y8⟩) (by assumption) ?r8
        case y8 => (intro w hSw; obtain ⟨s1, s2⟩ := hSw; go_simp)
        simp only [Act.put]
        refine wpAnyH_take (i := 8) (v := .int .i64 k) rfl (by kernel_rfl) (by kernel_rfl) (by kernel_rfl) (fun _ _ _ h => h) (Or.inl ⟨by rfl, ?y9⟩) (by assumption) ?r9
        case y9 => (intro w hSw; obtain ⟨s1, s2⟩ := hSw; go_simp)
        simp only [Act.put]
        refine wpAnyH_take (i := 9) (v := .int .i64 m) rfl (by kernel_rfl) (by kernel_rfl) (by kernel_rfl) (fun _ _ _ h => h) (Or.inl ⟨by rfl, ?y10⟩) (by assumption) ?r10
        case y10 => (intro w hSw; obtain ⟨s1, s2⟩ := hSw; go_simp)
        simp only [Act.put]
        refine wpAnyH_take (i := 10) (v := .slice bo m bcap) rfl (by kernel_rfl) (by kernel_rfl) (by kernel_rfl) (fun _ _ _ h => h) (Or.inl ⟨by rfl, ?y11⟩) (by assumption) ?r11
        case y11 => (intro w hSw; obtain ⟨s1, s2⟩ := hSw; go_simp)
        simp only [Act.put]
        refine wpAnyH_ready (rs := [11]) (by kernel_rfl) (by simp) (AllReadyH.cons rfl (fun K hK => ?_) AllReadyH.nil)
        go_simp
        refine (clone_q X.drew _ (x.f.b.take m) (HBX.out.ext (Ext.refl Nil X).drew fun _ _ h => h) HTL.out (by unfold Fits; omega)).mono ?_
        rintro e w1 ⟨ao2, cap2, hc2, hm2, rfl, O2, S2⟩
        have S2 : Step Nil X _ w1 := ⟨((Ext.refl Nil X).drew).same S2.1, S2.2⟩
        go_wp2_with fail
        refine hK.out _ _ ⟨S2.1.cell f0 fun h => h, S2.1.cell f1 fun h => h⟩ (fun hHeld => ?_)
        clear hK K
        refine wpAnyH_take (i := 12) (v := .slice ao2 m cap2) rfl (by kernel_rfl) (by kernel_rfl) (by kernel_rfl) (fun _ _ _ h => h) (Or.inl ⟨by rfl, ?y12⟩) (by assumption) ?r12
        case y12 => (intro w hSw; go_simp)
        simp only [Act.put]
        refine wpAnyH_done (by kernel_rfl) ?_ _
        have hnew : ∀ q, inFoot (.slice ao2 m cap2) q → wr.heap.size ≤ q ∧ q < w1.heap.size := fun q hq => ⟨Nat.le_trans eX.size ((S2.2 q hq).resolve_left fun h => h), O2.lt q hq⟩
        have e1 : Ext Nil wr w1 := eX.same S2.1
        by_cases hk0 : k = 0
        · subst hk0
          have hyp : (D.image keep junk)[l.length]? = some (FI.pair (⟨x.f.nm, x.f.b.take m, .slice ao2 m cap2⟩ : FI)) := by
            rw [image_at HFX.out, ← HKK.out]
            simp [FI.pair, Dk.left, HM.out]
          have OI := HR.out.own.row.ext e1 fun _ _ h => h
          have hX := (Ext.refl Nil w1).alloc (.cells #[.string ⟨x.f.nm.toArray⟩, .slice ao2 m cap2] 41 (0, 0))
          have hRo := Reads.oneFI w1 (⟨x.f.nm, x.f.b.take m, .slice ao2 m cap2⟩ : FI)
          obtain ⟨ao3, cap3, w3, hrun, O3, S3⟩ := run_appendI (OI.ext hX fun _ _ h => h) hRo ⟨_, _, _, rfl⟩ (by omega) 34
          have hA := (HR.out.at_.ext e1 fun h => h)
          have a0 := hA.cell 0 rfl
          have hiv : ¬ inFoot v (w.heap.size + 1) := fun e => by have := HR.out.new (w.heap.size + 1) (by simp [ibl, mem_footL, e]); omega
          have hA3 := (hA.ext hX fun h => h).ext S3.1 hiv
          have a3 := hA3.cell 0 rfl
          have z3 := hA3.frozen 0
          have hN := HR.out.next (by omega) (e1.same hX) ((O2).ext hX fun _ _ h => h) (fun q hq => ⟨(hnew q hq).1, Nat.lt_of_lt_of_le (hnew q hq).2 hX.size⟩) O3 S3 hyp
          have HNX := Lib.hid hN
          clear hN hA hA3 hX OI hyp O3 S3 hRo
          go_wp2_with (at_builtin; refine wpList_append_run rfl (.tmp 86) (.tmp 90) 34 34 rfl _ _ _ rfl rfl hrun ?_)
          refine ⟨⟨l ++ [(⟨x.f.nm, x.f.b.take m, .slice ao2 m cap2⟩ : FI)], _, by simp, by simp; omega, HNX.out⟩, by simp [intOf]; omega⟩
        · have hk1 : (0 : Int) < (k : Int) := by omega
          have hmp : 1 ≤ m := by have := HM.out; omega
          obtain ⟨J, hJ⟩ : ∃ J, J = m - 1 := ⟨_, rfl⟩
          have hJw : IntKind.i64.wrap ((m : Int) - 1) = (J : Int) := by rw [IntWalk.i64_in _ (by omega)]; omega
          have hJm : J < m := by omega
          obtain ⟨g2, cg, cs2, rfl, rfl, -⟩ := O2.head (by intro e; have := HTL.out; rw [e] at this; simp at this; omega)
          have hJl : J < (x.f.b.take m).length := by rw [HTL.out]; omega
          have hat := O2.at J hJl
          have hO2 := fun c => O2.store J hJl c
          have hgn := hnew g2 rfl
          obtain ⟨b0, hb0⟩ : ∃ b0, b0 = (x.f.b.take m)[J] := ⟨_, rfl⟩
          rw [← hb0] at hat
          obtain ⟨a1, a2⟩ := hat
          have hxor := xor_u8 b0 junk
          have O4 := hO2 (b0 ^^^ junk)
          have e4 : Ext Nil wr (w1.setCell ⟨g2, J, none⟩ (.int .u8 ((b0 ^^^ junk).toNat : Int))) := e1.setCell (p := ⟨g2, J, none⟩) (fun h => by have h : g2 < wr.heap.size := h; omega) _
          have O4 : OwnB (w1.setCell ⟨g2, J, none⟩ (.int .u8 ((b0 ^^^ junk).toNat : Int))) (.slice (some ⟨g2, 0, none⟩) m (cg + 1)) ((x.f.b.take m).set J (b0 ^^^ junk)) := O4
          have HJ := Lib.hid hJ; have HB0 := Lib.hid hb0
          have aw := (HR.out.at_.ext e1 fun h => h).cell 0 rfl
          have hgi : ¬ g2 = w.heap.size + 1 := by have := HE.out.size; have := hgn.1; omega
          have hgi' : ¬ w.heap.size + 1 = g2 := fun e => hgi e.symm
          clear hO2 hJ hb0
          have hs : (w1.setCell ⟨g2, J, none⟩ (.int .u8 ((b0 ^^^ junk).toNat : Int))).heap.size = w1.heap.size := by simp [World.setCell]
          have hnew4 : ∀ q, inFoot (.slice (some ⟨g2, 0, none⟩) m (cg + 1)) q → wr.heap.size ≤ q ∧ q < (w1.setCell ⟨g2, J, none⟩ (.int .u8 ((b0 ^^^ junk).toNat : Int))).heap.size := fun q hq => by rw [hs]; exact hnew q hq
          have hyp : (D.image keep junk)[l.length]? = some (FI.pair (⟨x.f.nm, (x.f.b.take m).set J (b0 ^^^ junk), .slice (some ⟨g2, 0, none⟩) m (cg + 1)⟩ : FI)) := by
            rw [image_at HFX.out, ← HKK.out]
            have hme := HM.out
            have hJe := HJ.out
            subst hJe
            rw [take_set_last _ _ hmp hml, HB0.out]
            unfold Dk.left
            rw [if_neg hk0, ← hme, List.getElem_take, List.getD_eq_getElem?_getD, List.getElem?_eq_getElem (by omega)]
            rfl
          have OI := HR.out.own.row.ext e4 fun _ _ h => h
          have hX := (Ext.refl Nil (w1.setCell ⟨g2, J, none⟩ (.int .u8 ((b0 ^^^ junk).toNat : Int)))).alloc (.cells #[.string ⟨x.f.nm.toArray⟩, .slice (some ⟨g2, 0, none⟩) m (cg + 1)] 41 (0, 0))
          have hRo := Reads.oneFI (w1.setCell ⟨g2, J, none⟩ (.int .u8 ((b0 ^^^ junk).toNat : Int))) (⟨x.f.nm, (x.f.b.take m).set J (b0 ^^^ junk), .slice (some ⟨g2, 0, none⟩) m (cg + 1)⟩ : FI)
          rw [hs] at hRo
          obtain ⟨ao3, cap3, w3, hrun, O3, S3⟩ := run_appendI (OI.ext hX fun _ _ h => h) hRo ⟨_, _, _, rfl⟩ (by omega) 34
          have hA := (HR.out.at_.ext e4 fun h => h)
          have a0 := hA.cell 0 rfl
          have hiv : ¬ inFoot v (w.heap.size + 1) := fun e => by have := HR.out.new (w.heap.size + 1) (by simp [ibl, mem_footL, e]); omega
          have hA3 := (hA.ext hX fun h => h).ext S3.1 hiv
          have a3 := hA3.cell 0 rfl
          have z3 := hA3.frozen 0
          have hN := HR.out.next (by omega) (e4.same hX) ((O4).ext hX fun _ _ h => h) (fun q hq => ⟨(hnew4 q hq).1, Nat.lt_of_lt_of_le (hnew4 q hq).2 hX.size⟩) O3 S3 hyp
          have HNX := Lib.hid hN
          clear hN hA hA3 hX OI hyp O3 S3 hRo
          go_wp2_with (at_builtin; refine wpList_append_run rfl (.tmp 86) (.tmp 90) 34 34 rfl _ _ _ rfl rfl hrun ?_)
          refine ⟨⟨l ++ [(⟨x.f.nm, (x.f.b.take m).set J (b0 ^^^ junk), .slice (some ⟨g2, 0, none⟩) m (cg + 1)⟩ : FI)], _, by simp, by simp; omega, HNX.out⟩, by simp [intOf]; omega⟩
      · have hk0 : k = 0 := by
          rw [hkk]; unfold Dk.kept
          rw [List.getElem?_eq_none (by omega)]
        subst hk0
        have hmw0 : IntKind.i64.wrap (x.f.sy : Int) = (m : Int) := by rw [IntWalk.i64_in _ (by omega)]; omega
        have HKK := Lib.hid hkk; have HM := Lib.hid hm
        have HBX := Lib.hid hBX
        clear hkk hm hBX
        go_wp2_with fail
        refine wp_region_held_drew (S := fun w' => w'.cell? ⟨x.blk, 0, none⟩ = some (.slice bo x.f.b.length bcap) ∧ w'.cell? ⟨x.blk, 1, none⟩ = some (.int .i64 x.f.sy)) (by kernel_rfl) ⟨f0, f1⟩ (fun hHeld => ?_)
        refine wpAnyH_take (i := 0) (v := .pointer (some ⟨x.blk, 0, none⟩)) rfl (by kernel_rfl) (by kernel_rfl) (by kernel_rfl) (fun _ _ _ h => h) (Or.inl ⟨by rfl, ?y13⟩) (by assumption) ?r13
        case y13 => (intro w hSw; obtain ⟨s1, s2⟩ := hSw; go_simp)
        simp only [Act.put]
        refine wpAnyH_take (i := 1) (v := .pointer (some ⟨x.blk, 0, none⟩)) rfl (by kernel_rfl) (by kernel_rfl) (by kernel_rfl) (fun _ _ _ h => h) (Or.inl ⟨by rfl, ?y14⟩) (by assumption) ?r14
        case y14 => (intro w hSw; obtain ⟨s1, s2⟩ := hSw; go_simp)
        simp only [Act.put]
        refine wpAnyH_take (i := 2) (v := .pointer (some ⟨x.blk, 0, none⟩)) rfl (by kernel_rfl) (by kernel_rfl) (by kernel_rfl) (fun _ _ _ h => h) (Or.inl ⟨by rfl, ?y15⟩) (by assumption) ?r15
        case y15 => (intro w hSw; obtain ⟨s1, s2⟩ := hSw; go_simp)
        simp only [Act.put]
        refine wpAnyH_take (i := 3) (v := .slice bo x.f.b.length bcap) rfl (by kernel_rfl) (by kernel_rfl) (by kernel_rfl) (fun _ _ _ h => h) (Or.inl ⟨by rfl, ?y16⟩) (by assumption) ?r16
        case y16 => (intro w hSw; obtain ⟨s1, s2⟩ := hSw; go_simp)
        simp only [Act.put]
        refine wpAnyH_take (i := 4) (v := .pointer (some ⟨x.blk, 0, none⟩)) rfl (by kernel_rfl) (by kernel_rfl) (by kernel_rfl) (fun _ _ _ h => h) (Or.inl ⟨by rfl, ?y17⟩) (by assumption) ?r17
        case y17 => (intro w hSw; obtain ⟨s1, s2⟩ := hSw; go_simp)
        simp only [Act.put]
        refine wpAnyH_take (i := 5) (v := .pointer (some ⟨x.blk, 0, none⟩)) rfl (by kernel_rfl) (by kernel_rfl) (by kernel_rfl) (fun _ _ _ h => h) (Or.inl ⟨by rfl, ?y18⟩) (by assumption) ?r18
        case y18 => (intro w hSw; obtain ⟨s1, s2⟩ := hSw; go_simp)
        simp only [Act.put]
        refine wpAnyH_take (i := 6) (v := .pointer (some ⟨x.blk, 1, none⟩)) rfl (by kernel_rfl) (by kernel_rfl) (by kernel_rfl) (fun _ _ _ h => h) (Or.inl ⟨by rfl, ?y19⟩) (by assumption) ?r19
        case y19 => (intro w hSw; obtain ⟨s1, s2⟩ := hSw; go_simp)
        simp only [Act.put]
        refine wpAnyH_take (i := 7) (v := .int .i64 x.f.sy) rfl (by kernel_rfl) (by kernel_rfl) (by kernel_rfl) (fun _ _ _ h => h) (Or.inl ⟨by rfl, ?y20⟩) (by assumption) ?r20
        case y20 => (intro w hSw; obtain ⟨s1, s2⟩ := hSw; go_simp)
        simp only [Act.put]
        refine wpAnyH_take (i := 8) (v := .int .i64 0) rfl (by kernel_rfl) (by kernel_rfl) (by kernel_rfl) (fun _ _ _ h => h) (Or.inl ⟨by rfl, ?y21⟩) (by assumption) ?r21
        case y21 => (intro w hSw; obtain ⟨s1, s2⟩ := hSw; go_simp)
        simp only [Act.put]
        refine wpAnyH_take (i := 9) (v := .int .i64 m) rfl (by kernel_rfl) (by kernel_rfl) (by kernel_rfl) (fun _ _ _ h => h) (Or.inl ⟨by rfl, ?y22⟩) (by assumption) ?r22
        case y22 => (intro w hSw; obtain ⟨s1, s2⟩ := hSw; go_simp)
        simp only [Act.put]
        refine wpAnyH_take (i := 10) (v := .slice bo m bcap) rfl (by kernel_rfl) (by kernel_rfl) (by kernel_rfl) (fun _ _ _ h => h) (Or.inl ⟨by rfl, ?y23⟩) (by assumption) ?r23
        case y23 => (intro w hSw; obtain ⟨s1, s2⟩ := hSw; go_simp)
        simp only [Act.put]
        refine wpAnyH_ready (rs := [11]) (by kernel_rfl) (by simp) (AllReadyH.cons rfl (fun K hK => ?_) AllReadyH.nil)
        go_simp
        refine (clone_q wr.drew _ (x.f.b.take m) (HBX.out.ext (Ext.refl Nil wr).drew fun _ _ h => h) HTL.out (by unfold Fits; omega)).mono ?_
        rintro e w1 ⟨ao2, cap2, hc2, hm2, rfl, O2, S2⟩
        have S2 : Step Nil wr _ w1 := ⟨((Ext.refl Nil wr).drew).same S2.1, S2.2⟩
        go_wp2_with fail
        refine hK.out _ _ ⟨S2.1.cell f0 fun h => h, S2.1.cell f1 fun h => h⟩ (fun hHeld => ?_)
        clear hK K
        refine wpAnyH_take (i := 12) (v := .slice ao2 m cap2) rfl (by kernel_rfl) (by kernel_rfl) (by kernel_rfl) (fun _ _ _ h => h) (Or.inl ⟨by rfl, ?y24⟩) (by assumption) ?r24
        case y24 => (intro w hSw; go_simp)
        simp only [Act.put]
        refine wpAnyH_done (by kernel_rfl) ?_ _
        have hnew : ∀ q, inFoot (.slice ao2 m cap2) q → wr.heap.size ≤ q ∧ q < w1.heap.size := fun q hq => ⟨(S2.2 q hq).resolve_left fun h => h, O2.lt q hq⟩
        have e1 : Ext Nil wr w1 := S2.1
        have hyp : (D.image keep junk)[l.length]? = some (FI.pair (⟨x.f.nm, x.f.b.take m, .slice ao2 m cap2⟩ : FI)) := by
          rw [image_at HFX.out, ← HKK.out]
          simp [FI.pair, Dk.left, HM.out]
        have OI := HR.out.own.row.ext e1 fun _ _ h => h
        have hX := (Ext.refl Nil w1).alloc (.cells #[.string ⟨x.f.nm.toArray⟩, .slice ao2 m cap2] 41 (0, 0))
        have hRo := Reads.oneFI w1 (⟨x.f.nm, x.f.b.take m, .slice ao2 m cap2⟩ : FI)
        obtain ⟨ao3, cap3, w3, hrun, O3, S3⟩ := run_appendI (OI.ext hX fun _ _ h => h) hRo ⟨_, _, _, rfl⟩ (by omega) 34
        have hA := (HR.out.at_.ext e1 fun h => h)
        have a0 := hA.cell 0 rfl
        have hiv : ¬ inFoot v (w.heap.size + 1) := fun e => by have := HR.out.new (w.heap.size + 1) (by simp [ibl, mem_footL, e]); omega
        have hA3 := (hA.ext hX fun h => h).ext S3.1 hiv
        have a3 := hA3.cell 0 rfl
        have z3 := hA3.frozen 0
        have hN := HR.out.next (by omega) (e1.same hX) ((O2).ext hX fun _ _ h => h) (fun q hq => ⟨(hnew q hq).1, Nat.lt_of_lt_of_le (hnew q hq).2 hX.size⟩) O3 S3 hyp
        have HNX := Lib.hid hN
        clear hN hA hA3 hX OI hyp O3 S3 hRo
        go_wp2_with (at_builtin; refine wpList_append_run rfl (.tmp 86) (.tmp 90) 34 34 rfl _ _ _ rfl rfl hrun ?_)
        refine ⟨⟨l ++ [(⟨x.f.nm, x.f.b.take m, .slice ao2 m cap2⟩ : FI)], _, by simp, by simp; omega, HNX.out⟩, by simp [intOf]; omega⟩
    · have hle2 : l.length = D.fs.length := by omega
      obtain ⟨va, vc, rfl, -, -⟩ := Own.shape hR.own.row
      have him := hR.at_
      have a0 := him.cell 0 rfl
      have hRN := HRN.out.ext hE (by show ¬ w.heap.size = _; omega)
      have r0 := hRN.cell 0 rfl
      have r1 := hRN.frozen 0
      have hres := hRN.set 0 (.slice va l.length vc)
      have HL2 := Lib.hid hle2; have HRES := Lib.hid hres; have HR := Lib.hid hR; have HWN := Lib.hid hwn; have HE := Lib.hid hE
      clear hle2 hres hR hwn hE him hRN
      go_wp2_with fail
      refine bodyPost_ret (results_image rfl _ (b := w.heap.size) (v := .slice va l.length vc) rfl (HRES.out.cell 0 rfl) (agg_image _) (size_image _)) rfl ?_
      have eF : Ext (One w.heap.size) wr (wr.setCell ⟨w.heap.size, 0, none⟩ (.slice va l.length vc)) := (Ext.refl (One w.heap.size) wr).setCell (p := ⟨w.heap.size, 0, none⟩) (fun _ => rfl) (.slice va l.length vc)
      refine ⟨_, l, rfl, ?_, HR.out.own.ext eF ?_, fun q hq => ?_, ⟨mb, av, fbs, HWN.out.ext eF ?_, rfl⟩, ?_⟩
      · have hle2 := HL2.out
        rw [HR.out.pairs, List.take_of_length_le (by rw [image_len]; omega)]
      · intro q hq e
        have e : q = w.heap.size := e
        have := HR.out.new q hq
        omega
      · have := HR.out.new q hq
        omega
      · intro q hq e
        have e : q = w.heap.size := e
        have := HH.out.lt q hq
        omega
      · exact (HEN.out.trans HE.out fun i hi e => by have e : i = w.heap.size + 1 := e; omega).trans eF fun i hi e => by have e : i = w.heap.size := e; omega
end Go.Proofs.Ytnppneilbkmnfaa
namespace Go.Proofs.Ytnppneilbkmnfaa
open Go.RowKit

/-- what a crash tells -/
def Dk.told (D : Dk) (keep : List Int) (junk : UInt8) : List (Nm × List UInt8) := if D.out then [] else D.image keep junk
/-- what Crash does -/
structure Crashed (w : World) (d : Nat) (F : Nat → Prop) (D : Dk) (keep : List Int) (junk : UInt8) (v : Value) (l : List FI) (w' : World) : Prop where
  pairs : l.map FI.pair = D.told keep junk
  own : ImgO w' v l
  new : ∀ k ∈ ibl v l, w.heap.size ≤ k
  disk : Disk w' d D.crash.1 F
  ext : Ext (One d) w w'
theorem crash_m (w : World) (d : Nat) (D : Dk) (F : Nat → Prop) (hD : Disk w d D F) (kv : Value) (keep : List Int) (hk : Reads w 1 kv keep.length (keep.map (.int .i64 ·))) (hkF : ∀ k, inFoot kv k → ¬ F k) (junk : UInt8) :
    Calls Try.prog 23 #[.pointer (some ⟨d, 0, none⟩), kv, .int .u8 junk.toNat] w fun e w' => ∃ v l, e = .returned (.tuple #[.agg #[v], .int .i64 D.crash.2]) ∧ Crashed w d F D keep junk v l w' := by
  cases ho : D.out
  · refine (crash_in_m w d D F hD kv keep hk hkF junk ho).mono ?_
    rintro e w' ⟨v, l, rfl, h1, h2, h3, h4, h5⟩
    refine ⟨v, l, ?_, ?_, h2, h3, ?_, h5⟩
    · unfold Dk.crash; rw [ho]; rfl
    · unfold Dk.told; rw [ho]; exact h1
    · unfold Dk.crash; rw [ho]; exact h4
  · refine (crash_out_m w d D F hD kv junk.toNat ho).mono ?_
    rintro e w' ⟨rfl, h1⟩
    refine ⟨.slice none 0 0, [], ?_, ?_, ImgO.nil _, by simp [ibl, footL, foot], ?_, h1.mono fun _ _ h => h.elim⟩
    · unfold Dk.crash; rw [ho]; rfl
    · unfold Dk.told; rw [ho]; rfl
    · unfold Dk.crash; rw [ho]; exact hD.ext h1 fun _ _ h => h

/-- a disk of one's own: it stands in memory that was not there in w0, and of that nothing has turned -/
def Life (w0 w : World) (d : Nat) (D : Dk) : Prop := ∃ F, Disk w d D F ∧ (∀ k, F k → w0.heap.size ≤ k) ∧ Ext Nil w0 w
theorem Disk.self {w : World} {d : Nat} {D : Dk} {F : Nat → Prop} (h : Disk w d D F) : F d := by
  obtain ⟨mb, av, fbs, h, rfl⟩ := h
  simp [dbl]
theorem Life.of_new {w0 w : World} {d mb : Nat} {av : Value} {fbs : List FB} {D : Dk} (h : DAt w d mb av fbs D) (hk : ∀ k ∈ dbl d mb av fbs, w0.heap.size ≤ k) (e : Ext Nil w0 w) : Life w0 w d D := ⟨_, ⟨mb, av, fbs, h, rfl⟩, hk, e⟩
theorem Life.ext {w0 w w' : World} {d : Nat} {D : Dk} (h : Life w0 w d D) (e : Ext Nil w w') : Life w0 w' d D := by
  obtain ⟨F, h1, h2, h3⟩ := h
  exact ⟨F, h1.ext e fun _ _ h => h, h2, h3.same e⟩
end Go.Proofs.Ytnppneilbkmnfaa
