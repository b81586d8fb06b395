/- The contract of the laws' does. Condition: the disk is one's own; few calls were made; the call's data are older than the disk. | Auxiliary: an image that can be read as data, opened. No condition. | Auxiliary: rows of items in memory of one's own, each item with bytes that lie elsewhere; append over them. No condition. | Plain: what a call does to the disk's files, to its numbers and its troubles; what stays safe. No program in sight. | Plain: the law's book of what is safe (DiskSynced), call by call. No program in sight. | The contract of the laws' tells. Condition: the disk stands. | The contracts of the laws' opened and lives. Condition: the image can be read. | The contract of the laws' begins; bytes as strings. Condition: the bytes can be read. | The contract of the laws' sameImage. Condition: the images can be read. | The contract of the laws' survived. Condition: the image is what a crash leaves of the files told. | Auxiliary: a script (a row of calls) and the words of a law's argument, opened; a disk of one's own under the laws' calls. Condition: what is read is older than the disk. | The walk of the law DiskSurvives: it returns true, and no older memory turns. Condition: the arguments can be read. | The contracts of the laws' note and loosen. Condition: the book stands in memory of its own. | The contract of the laws' does on a disk; two disks apart; a disk beside a book of what is safe. Condition: few calls were made; what is read is none of the disk's. | The contracts of the laws' alike (of two disks that tell the same) and crashed. Condition: the disks stand apart. -/
import Derived.Test.YtnppneilbkmnfaaK2
import Derived.Test.YtnppneilbkmnfaaK3
import Derived.Deep.RegionHeld3
namespace Go.Proofs.Ytnppneilbkmnfaa
open Go.RowKit

/-- what a call does -/
def Dk.does (D : Dk) (o : OpD) (B : List UInt8) : Dk × Int :=
  if o.K = 1 then D.append o.s.data.toList B else if o.K = 2 then D.sync o.s.data.toList else if o.K = 3 then D.replace o.s.data.toList B
  else if o.K = 4 then D.cut o.s.data.toList o.N else if o.K = 5 then D.remove o.s.data.toList else if o.K = 11 then D.arm o.t0 o.t1 o.t2 else (D, 0)

end Go.Proofs.Ytnppneilbkmnfaa
namespace Go.Proofs.Ytnppneilbkmnfaa
open Go.RowKit Go.ChangeShapes
section
variable {H : Type} {enc : TypeId × Value → H} {w : World}
theorem cellsF : Try.prog.cellsOf 41 = 2 := by kernel_rfl
theorem cellsI : Try.prog.cellsOf 36 = 1 := by kernel_rfl
theorem cellsFs : Try.prog.cellsOf 34 = 1 := by kernel_rfl
set_option maxRecDepth 100000 in
theorem El.file {cs : List Value} {d : DataW H} (h : El enc Try.prog w 41 cs d) : ∃ x : FI, cs = x.cells ∧ x.nm.length ≤ maxLen ∧ Bytes w x.v x.b ∧ x.b.length + 1 ≤ Rows.uptoBulk d := by
  obtain ⟨f, ps, h⟩ := h
  obtain ⟨xs, n, _, hx, hl, hlen, hf⟩ := DataW.trod_struct Try.underlying41 h
  rw [cellsF] at hl
  match xs, hlen, cs, hl with
  | [y0, y1], _, [c0, c1], _ =>
    have f0 := hf 0 _ rfl
    have f1 := hf 1 _ rfl
    simp [cells9, cells29] at f0 f1
    obtain ⟨s, e0, hs⟩ := El.string Try.underlying9 ⟨n, y0.2, f0⟩
    obtain ⟨B, hB, -, hBk⟩ := El.bytes ⟨n, y1.2, f1⟩
    simp only [List.cons.injEq, and_true] at e0
    subst e0
    refine ⟨⟨s.data.toList, B, c1⟩, rfl, by show s.data.toList.length ≤ maxLen; rw [Array.length_toList]; exact hs, hB, ?_⟩
    have hd : d = .agg [y0.1, y1.1] := by simpa using congrArg Prod.fst hx
    rw [hd]
    simp only [Rows.uptoBulk, Rows.uptoBulkAll]
    show B.length + 1 ≤ _
    omega
theorem El.files {v : Value} {d : DataW H} (h : El enc Try.prog w 34 [v] d) : ∃ l : List FI, ImgR w v l ∧ l.length + 1 ≤ Rows.uptoBulk d := by
  obtain ⟨ces, h1, h2, h3, h4⟩ := open_row Try.underlying34 cellsF (by omega) h
  have h6 : ∃ l : List FI, l.length = ces.length ∧ ces.flatMap (·.1) = l.flatMap FI.cells ∧ (∀ x ∈ l, x.nm.length ≤ maxLen) ∧ ∀ x ∈ l, Bytes w x.v x.b := by
    clear h1 h3 h4 h
    induction ces with
    | nil => exact ⟨[], rfl, rfl, by simp, by simp⟩
    | cons c ces ih =>
      obtain ⟨x, e, hn, hb, -⟩ := El.file (h2 c (List.mem_cons_self ..)).2
      obtain ⟨l, hl, he, hm1, hm2⟩ := ih fun c hc => h2 c (List.mem_cons_of_mem _ hc)
      refine ⟨x :: l, by simp [hl], by rw [List.flatMap_cons, List.flatMap_cons, e, he], ?_, ?_⟩
      · intro y hy
        rcases List.mem_cons.1 hy with rfl | hy
        · exact hn
        · exact hm1 y hy
      · intro y hy
        rcases List.mem_cons.1 hy with rfl | hy
        · exact hb
        · exact hm2 y hy
  obtain ⟨l, hl, he, hm1, hm2⟩ := h6
  refine ⟨l, ⟨by rw [hl, ← he]; exact h1, hm1, hm2⟩, ?_⟩
  rcases h3 with ⟨rfl, rfl⟩ | ⟨sp, rfl⟩
  · simp [hl, Rows.uptoBulk]
  · have := bulk_length (ces.map (·.2))
    rw [List.length_map] at this
    simp only [Rows.uptoBulk]
    omega
end
end Go.Proofs.Ytnppneilbkmnfaa
namespace Go.Proofs.Ytnppneilbkmnfaa
open Go.RowKit

/-- a kind of row: its element's type, how many cells it has, which cells, which of them is a slice of bytes, and its bytes -/
structure RK (α : Type) where
  t : TypeId
  size : Nat
  cells : α → List Value
  pt : α → Value
  bs : α → List UInt8
structure Row {α : Type} (K : RK α) (w : World) (v : Value) (l : List α) : Prop where
  row : Own w K.t K.size v l.length (l.flatMap K.cells)
  bytes : ∀ x ∈ l, Bytes w (K.pt x) (K.bs x)
  apart : ∀ x ∈ l, ∀ k, inFoot (K.pt x) k → k < w.heap.size ∧ ¬ inFoot v k
section
variable {α : Type} {K : RK α}
theorem Row.nil (w : World) : Row K w (.slice none 0 0) [] := ⟨Own.nil _ _ _, by simp, by simp⟩
theorem Row.lt {w : World} {v : Value} {l : List α} (h : Row K w v l) : ∀ k, inFoot v k → k < w.heap.size := h.row.lt
theorem Row.ext {F : Nat → Prop} {w w' : World} {v : Value} {l : List α} (h : Row K w v l) (e : Ext F w w') (hf : ∀ k, inFoot v k → ¬ F k) (hb : ∀ x ∈ l, ∀ k, inFoot (K.pt x) k → ¬ F k) : Row K w' v l :=
  ⟨h.row.ext e hf, fun x hx => (h.bytes x hx).ext e (hb x hx), fun x hx k hk => ⟨Nat.lt_of_lt_of_le (h.apart x hx k hk).1 e.size, (h.apart x hx k hk).2⟩⟩
theorem Row.ext0 {w w' : World} {v : Value} {l : List α} (h : Row K w v l) (e : Ext Nil w w') : Row K w' v l := h.ext e (fun _ _ h => h) fun _ _ _ _ h => h
theorem Row.snoc {w X w1 : World} {v v' : Value} {l : List α} {x : α} (h : Row K w v l) (e : Ext Nil w X) (hx : Bytes X (K.pt x) (K.bs x)) (hxk : ∀ k, inFoot (K.pt x) k → k < X.heap.size ∧ ¬ inFoot v k)
    (hO : Own w1 K.t K.size v' (l ++ [x]).length ((l ++ [x]).flatMap K.cells)) (hS : Step (inFoot v) X (inFoot v') w1) : Row K w1 v' (l ++ [x]) := by
  have hX : ∀ y ∈ l ++ [x], Bytes X (K.pt y) (K.bs y) ∧ ∀ k, inFoot (K.pt y) k → k < X.heap.size ∧ ¬ inFoot v k := by
    intro y hy
    rcases List.mem_append.1 hy with hy | hy
    · exact ⟨(h.bytes y hy).ext e fun _ _ h => h, fun k hk => ⟨Nat.lt_of_lt_of_le (h.apart y hy k hk).1 e.size, (h.apart y hy k hk).2⟩⟩
    · rw [List.mem_singleton] at hy
      subst hy
      exact ⟨hx, hxk⟩
  refine ⟨hO, fun y hy => (hX y hy).1.ext hS.1 fun k hk => ((hX y hy).2 k hk).2, fun y hy k hk => ?_⟩
  have h1 := (hX y hy).2 k hk
  refine ⟨Nat.lt_of_lt_of_le h1.1 hS.1.size, fun hv => ?_⟩
  rcases hS.2 k hv with h2 | h2
  · exact h1.2 h2
  · omega
theorem Row.shape {w : World} {v : Value} {l : List α} (h : Row K w v l) : ∃ ao cap, v = .slice ao l.length cap ∧ l.length ≤ cap ∧ cap ≤ maxLen := Own.shape h.row
/-- a row, opened -/
theorem Row.open {w : World} {v : Value} {l : List α} (h : Row K w v l) (hlen : ∀ x ∈ l, (K.cells x).length = K.size) (hne : 0 < l.length) (hs : 0 < K.size) :
    ∃ g c, v = .slice (some ⟨g, 0, none⟩) l.length (c + 1) ∧ l.length ≤ c + 1 ∧ c + 1 ≤ maxLen ∧ g < w.heap.size ∧ (∀ k (hk : k < l.length) j u, (K.cells l[k])[j]? = some u → w.cell? ⟨g, k * K.size + j, none⟩ = some u) := by
  have hr := Own.reads h.row
  rcases h.row.2 with ⟨ao', h1, h2⟩ | ⟨g, c, cs, h1, h2, h3, h4, h5, h6⟩
  · omega
  · subst h1
    obtain ⟨-, ao', cap', h7, -, -, h8⟩ := hr
    simp only [Value.slice.injEq, true_and] at h7
    obtain ⟨rfl, rfl⟩ := h7
    have hfl := flat_len K.cells K.size l hlen
    obtain ⟨b, off, h9, hc⟩ := h8 (by
      intro e
      rw [e] at hfl
      have : 0 < l.length * K.size := Nat.mul_pos hne hs
      simp at hfl
      omega)
    simp only [Option.some.injEq, Addr.mk.injEq, and_true] at h9
    obtain ⟨rfl, rfl⟩ := h9
    refine ⟨g, c, rfl, h3, h4, h2.lt, fun k hk j u hu => ?_⟩
    have hj : j < K.size := by
      have := (List.getElem?_eq_some_iff.1 hu).1
      rwa [hlen _ (List.getElem_mem hk)] at this
    have := hc (k * K.size + j) u (by rw [flat_mem K.cells K.size l hlen k hk j hj]; exact hu)
    rwa [Nat.zero_add] at this
/-- append of an item onto a row -/
theorem Row.append {w : World} {v : Value} {l : List α} (hown : Own w K.t K.size v l.length (l.flatMap K.cells)) {ts : TypeId} {z : Value} {by_ : Nat} (hu : Try.prog.underlying ts = some (.slice K.t)) (hi : (Try.prog.info? K.t).map (fun i => (i.zero, i.size, i.bytes)) = some (some z, K.size, by_))
    (hz : z.cells.size = K.size) (hby : by_ ≤ 64) {vx : Value} {x : α} (hm : Reads w K.size vx 1 (K.cells x)) (hx : ∀ u ∈ K.cells x, u.oneCell' = true) (hfit : l.length ≤ 1099511627776) (ty : TypeId) :
    ∃ ao cap w', (Builtin.append_ #[ts, ts] ty #[v, vx]).run Try.prog w = .ok (.slice ao (l.length + 1) cap) w' ∧ Own w' K.t K.size (.slice ao (l.length + 1) cap) (l ++ [x]).length ((l ++ [x]).flatMap K.cells) ∧ Step (inFoot v) w (inFoot (.slice ao (l.length + 1) cap)) w' := by
  obtain ⟨i, hi, hz', h1, h2⟩ := info_parts hi
  obtain ⟨v', w', hr, h3, h4, h5⟩ := run_append (P := Try.prog) w ts ts ty K.t i z K.size by_ hu hi hz' h1 h2 hz v l.length _ hown vx 1 (K.cells x) (Reads.src (P := Try.prog) hm hu hx)
    (by unfold maxLen; omega) (by
      have : (l.length + 1) * by_ ≤ (l.length + 1) * 64 := Nat.mul_le_mul_left _ hby
      omega)
  obtain ⟨ao, cap, rfl, h6, h7⟩ := h3.shape
  refine ⟨ao, cap, w', hr, ?_, h4, h5⟩
  rw [List.length_append, List.flatMap_append]
  simpa using h3
end
/-- a list of values, read as one element -/
theorem Reads.item (w : World) (cs : List Value) (t : TypeId) (n : Nat) (hn : cs.length = n) : Reads (w.alloc (.cells cs.toArray t (0, 0))) n (.slice (some ⟨w.heap.size, 0, none⟩) 1 1) 1 cs :=
  ⟨by omega, _, _, rfl, Nat.le_refl _, by simp [maxLen], fun _ => ⟨_, _, rfl, fun j u hu => by rw [Nat.zero_add]; exact (At.new w cs t).cell j hu⟩⟩
end Go.Proofs.Ytnppneilbkmnfaa
namespace Go.Proofs.Ytnppneilbkmnfaa
open Go.RowKit

/-! ### a call, field by field -/
def addF (s : Nm) (b : List UInt8) (l : List FileM) : List FileM := match findK FileM.nm s l with | some f => putK FileM.nm ⟨s, f.b ++ b, f.sy⟩ l | none => putK FileM.nm ⟨s, b, 0⟩ l
def syncF (s : Nm) (l : List FileM) : List FileM := match findK FileM.nm s l with | some f => putK FileM.nm ⟨s, f.b, f.b.length⟩ l | none => l
def cutF (s : Nm) (n : Nat) (l : List FileM) : List FileM := match findK FileM.nm s l with | some f => putK FileM.nm ⟨s, f.b.take n, n⟩ l | none => l
namespace OpD
def nm (o : OpD) : Nm := o.s.data.toList
/-- what a call does to the files -/
def act (o : OpD) (B : List UInt8) (l : List FileM) : List FileM :=
  if o.K = 1 then addF o.nm B l else if o.K = 2 then syncF o.nm l else if o.K = 3 then putK FileM.nm ⟨o.nm, B, B.length⟩ l else if o.K = 4 then cutF o.nm o.N.toNat l else delK FileM.nm o.nm l
end OpD
/-- what stands against a call -/
def Dk.asks (D : Dk) (o : OpD) (B : List UInt8) : Int :=
  if o.K = 1 then (if D.refuse o.nm ≠ 0 then D.refuse o.nm else if D.room o.nm (D.size o.nm + B.length) then 0 else 62)
  else if o.K = 2 then D.seek o.nm
  else if o.K = 3 then (if D.refuse o.nm ≠ 0 then D.refuse o.nm else if D.room o.nm B.length then 0 else 62)
  else if o.K = 4 then (if D.seek o.nm ≠ 0 then D.seek o.nm else if o.N < 0 ∨ (D.size o.nm : Int) < o.N then 2 else 0)
  else D.seek o.nm
theorem Dk.addTo_eq (D : Dk) (s : Nm) (b : List UInt8) : D.addTo s b = { D with fs := addF s b D.fs } := by
  unfold Dk.addTo addF Dk.find
  cases findK FileM.nm s D.fs <;> rfl
theorem Dk.syncIt_eq (D : Dk) (s : Nm) : D.syncIt s = { D with fs := syncF s D.fs } := by
  unfold Dk.syncIt syncF Dk.find
  cases findK FileM.nm s D.fs <;> rfl
theorem Dk.cutTo_eq (D : Dk) (s : Nm) (n : Nat) : D.cutTo s n = { D with fs := cutF s n D.fs } := by
  unfold Dk.cutTo cutF Dk.find
  cases findK FileM.nm s D.fs <;> rfl
/-- a call of the kinds that are numbered -/
theorem does_num (D : Dk) (o : OpD) (B : List UInt8) (h : 1 ≤ o.K ∧ o.K ≤ 5) : D.does o B = if D.asks o B ≠ 0 then (D, D.asks o B) else D.num fun E => { E with fs := o.act B E.fs } := by
  have h5 : o.K = 1 ∨ o.K = 2 ∨ o.K = 3 ∨ o.K = 4 ∨ o.K = 5 := by omega
  unfold Dk.does Dk.asks OpD.act
  rcases h5 with e | e | e | e | e <;> simp only [e, if_pos, show ¬ (2 : Int) = 1 by omega, show ¬ (3 : Int) = 1 by omega, show ¬ (3 : Int) = 2 by omega, show ¬ (4 : Int) = 1 by omega, show ¬ (4 : Int) = 2 by omega, show ¬ (4 : Int) = 3 by omega, show ¬ (5 : Int) = 1 by omega, show ¬ (5 : Int) = 2 by omega, show ¬ (5 : Int) = 3 by omega, show ¬ (5 : Int) = 4 by omega]
  · have e1 : Dk.addTo o.s.data.toList B = fun E : Dk => { E with fs := addF o.nm B E.fs } := funext fun E => Dk.addTo_eq E _ _
    unfold Dk.append
    rw [e1]
    unfold OpD.nm
    by_cases h1 : D.refuse o.s.data.toList = 0
    · simp only [h1, ne_eq, not_true, if_false]
      by_cases h2 : D.room o.s.data.toList (D.size o.s.data.toList + B.length) = true
      · simp [h2]
      · simp [h2]
    · simp [h1]
  · have e1 : Dk.syncIt o.s.data.toList = fun E : Dk => { E with fs := syncF o.nm E.fs } := funext fun E => Dk.syncIt_eq E _
    unfold Dk.sync
    rw [e1]
    rfl
  · unfold Dk.replace
    unfold OpD.nm
    by_cases h1 : D.refuse o.s.data.toList = 0
    · simp only [h1, ne_eq, not_true, if_false]
      by_cases h2 : D.room o.s.data.toList B.length = true
      · simp only [h2, if_true, if_false, not_true]
        rfl
      · simp [h2]
    · simp [h1]
  · have e1 : Dk.cutTo o.s.data.toList o.N.toNat = fun E : Dk => { E with fs := cutF o.nm o.N.toNat E.fs } := funext fun E => Dk.cutTo_eq E _ _
    unfold Dk.cut
    rw [e1]
    unfold OpD.nm
    by_cases h1 : D.seek o.s.data.toList = 0
    · simp only [h1, ne_eq, not_true, if_false]
      by_cases h2 : o.N < 0 ∨ (D.size o.s.data.toList : Int) < o.N
      · simp [h2]
      · simp [h2]
    · simp [h1]
  · unfold Dk.remove
    rfl
theorem does_arm (D : Dk) (o : OpD) (B : List UInt8) (h : o.K = 11) : D.does o B = D.arm o.t0 o.t1 o.t2 := by
  unfold Dk.does
  rw [h]
  simp
theorem does_else (D : Dk) (o : OpD) (B : List UInt8) (h : ¬ (1 ≤ o.K ∧ o.K ≤ 5)) (h2 : o.K ≠ 11) : D.does o B = (D, 0) := by
  unfold Dk.does
  rw [if_neg (by omega), if_neg (by omega), if_neg (by omega), if_neg (by omega), if_neg (by omega), if_neg h2]

/-! ### what stands against it -/
theorem find_same {D E : Dk} (h : D.fs = E.fs) (s : Nm) : D.find s = E.find s := by unfold Dk.find; rw [h]
theorem size_same {D E : Dk} (h : D.fs = E.fs) (s : Nm) : D.size s = E.size s := by unfold Dk.size; rw [find_same h]
theorem room_same {D E : Dk} (h : D.fs = E.fs) (h2 : D.lim = E.lim) (s : Nm) (n : Nat) : D.room s n = E.room s n := by unfold Dk.room Dk.used; rw [size_same h, find_same h, h, h2]
/-! ### numbers and troubles -/
theorem tick_arms (D : Dk) : D.tick.arms.length ≤ D.arms.length := List.length_filter_le ..
theorem num_grows (D : Dk) (g : List FileM → List FileM) : (D.num fun E => { E with fs := g E.fs }).1.calls = D.calls + 1 ∧ (D.num fun E => { E with fs := g E.fs }).1.arms.length ≤ D.arms.length ∧ (D.num fun E => { E with fs := g E.fs }).1.out = D.out ∧ (D.num fun E => { E with fs := g E.fs }).1.lim = D.lim := by
  have ht := tick_arms D
  unfold Dk.num
  split
  · exact ⟨rfl, ht, rfl, rfl⟩
  · split
    · exact ⟨rfl, ht, rfl, rfl⟩
    · split <;> exact ⟨rfl, ht, rfl, rfl⟩
theorem does_grows (D : Dk) (o : OpD) (B : List UInt8) : (D.does o B).1.calls ≤ D.calls + 1 ∧ (D.does o B).1.arms.length ≤ D.arms.length + 1 ∧ (D.does o B).1.out = D.out ∧ (D.does o B).1.lim = D.lim := by
  by_cases h1 : 1 ≤ o.K ∧ o.K ≤ 5
  · rw [does_num D o B h1]
    split
    · exact ⟨by simp, by simp, rfl, rfl⟩
    · have := num_grows D (o.act B)
      exact ⟨by omega, by omega, this.2.2⟩
  · by_cases h2 : o.K = 11
    · rw [does_arm D o B h2]
      unfold Dk.arm
      repeat' split
      all_goals simp
    · rw [does_else D o B h1 h2]
      simp
/-! ### what is safe -/
end Go.Proofs.Ytnppneilbkmnfaa
namespace Go.Proofs.Ytnppneilbkmnfaa
open Go.RowKit

/-- an item of the book -/
structure SI where
  nm : Nm
  b : List UInt8
  op : Bool
  v : Value
def SI.cells (x : SI) : List Value := [encS x.nm, x.v, .bool x.op]
end Go.Proofs.Ytnppneilbkmnfaa
namespace Go.Proofs.Ytnppneilbkmnfaa
open Go.RowKit

/-- a file as it is told, where its bytes lie -/
structure TI where
  f : FileM
  v : Value
def TI.cells (x : TI) : List Value := [encS x.f.nm, x.v, .int .i64 x.f.sy]
/-- all blocks of a row -/
def feet {α : Type} (K : RK α) (v : Value) (l : List α) (k : Nat) : Prop := inFoot v k ∨ ∃ x ∈ l, inFoot (K.pt x) k
theorem Row.extF {α : Type} {K : RK α} {F : Nat → Prop} {w w' : World} {v : Value} {l : List α} (h : Row K w v l) (e : Ext F w w') (hf : ∀ k, feet K v l k → ¬ F k) : Row K w' v l :=
  h.ext e (fun k hk => hf k (.inl hk)) fun x hx k hk => hf k (.inr ⟨x, hx, hk⟩)
theorem Row.feet_lt {α : Type} {K : RK α} {w : World} {v : Value} {l : List α} (h : Row K w v l) : ∀ k, feet K v l k → k < w.heap.size := by
  rintro k (hk | ⟨x, hx, hk⟩)
  · exact h.lt k hk
  · exact (h.apart x hx k hk).1
end Go.Proofs.Ytnppneilbkmnfaa
namespace Go.Proofs.Ytnppneilbkmnfaa
open Go.RowKit

/-- the disk that New or Mount makes -/
noncomputable def openD (lim : Int) (m : Bool) (l : List FI) : Option Dk :=
  if m = true then (if mountE lim l = 0 then some (mntD lim.toNat l) else none) else if lim < 1 ∨ 1073741824 < lim then none else some (Dk.fresh lim.toNat)
noncomputable def livesD (lim : Int) (m : Bool) (l : List FI) : Dk := (openD lim m l).getD (Dk.fresh 4096)
def Dk.Calm (D : Dk) : Prop := D.off = false ∧ D.out = false ∧ D.calls = 0 ∧ D.arms = []
theorem openD_calm {lim : Int} {m : Bool} {l : List FI} {D : Dk} (h : openD lim m l = some D) : D.Calm := by
  unfold openD at h
  split at h
  · split at h
    · obtain rfl := Option.some.inj h
      exact ⟨rfl, rfl, rfl, rfl⟩
    · cases h
  · split at h
    · cases h
    · obtain rfl := Option.some.inj h
      exact ⟨rfl, rfl, rfl, rfl⟩
theorem Life.base {w0 w1 w : World} {d : Nat} {D : Dk} (e : Ext Nil w0 w1) (h : Life w1 w d D) : Life w0 w d D := by
  obtain ⟨F, h1, h2, h3⟩ := h
  exact ⟨F, h1, fun k hk => Nat.le_trans e.size (h2 k hk), e.same h3⟩
theorem life_new {w w' : World} {n : Nat} (h : DAt w' (w.heap.size + 1) w.heap.size (.slice none 0 0) [] (Dk.fresh n)) (e : Ext Nil w w') : Life w w' (w.heap.size + 1) (Dk.fresh n) :=
  Life.of_new h (by intro q hq; simp [dbl, footL, foot] at hq; omega) e
end Go.Proofs.Ytnppneilbkmnfaa
namespace Go.Proofs.Ytnppneilbkmnfaa
open Go.RowKit

theorem to_str (w : World) (x : Value) (B : List UInt8) (hx : Bytes w x B) : (convert 31 9 x).run Try.prog w = .ok (.string ⟨B.toArray⟩) w := by
  obtain ⟨ao, cap, rfl, hcap, hmax, hc⟩ := hx.open
  rw [run_convert_bytes_string (P := Try.prog) w 31 9 5 ao B.length cap Try.underlying31 Try.underlying5 Try.underlying9]
  have fold : ∀ (l : List UInt8) (s : ByteArray), (l.map fun b => (b.toNat : Int)).foldl (fun (r : ByteArray) (n : Int) => r.push (UInt8.ofNat n.toNat)) s = ⟨s.data ++ l.toArray⟩ := by
    intro l
    induction l with
    | nil => intro s; simp
    | cons b l ih =>
      intro s
      simp only [List.map_cons, List.foldl_cons]
      rw [ih]
      congr 1
      rw [show UInt8.ofNat ((b.toNat : Int)).toNat = b from by simp]
      simp only [ByteArray.push]
      apply Array.ext'
      simp
  have hl : ∀ a : Addr, ao = some a → (loadCells a B.length).run Try.prog w = .ok ((B.map fun b => (b.toNat : Int)).map (Value.int .u8)).toArray w := by
    intro a ha
    subst ha
    have h := run_firstCells_some (P := Try.prog) w 1 B.length a B.length cap (bvs B) (by simp [bvs]) (fun j u hj => by
      obtain ⟨b, off, hb, hcc⟩ := hc (by intro e; subst e; simp [bvs] at hj)
      simp only [Option.some.injEq] at hb
      subst hb
      have hj' : j < B.length := by
        have := (List.getElem?_eq_some_iff.1 hj).1
        simpa [bvs] using this
      have := hcc j hj'
      have hu : u = .int .u8 (B[j].toNat : Int) := by
        have := (List.getElem?_eq_some_iff.1 hj).2
        rw [← this]
        simp [bvs, bv]
      rw [hu, ← this]
      unfold Addr.add
      split
      · next h0 => subst h0; rfl
      · rfl)
    simp only [Builtin.firstCells, Nat.mul_one] at h
    rw [h]
    simp only [bvs, List.map_map]
    rfl
  cases ao with
  | none =>
    have hB : B = [] := by
      rcases Classical.em (B = []) with h | h
      · exact h
      · obtain ⟨b, off, h2, _⟩ := hc h
        cases h2
    subst hB
    simp [Conv.bytesToString]
    rfl
  | some a =>
    rw [run_bytesToString (P := Try.prog) w a B.length cap _ (hl a rfl), fold]
    simp
end Go.Proofs.Ytnppneilbkmnfaa
namespace Go.Proofs.Ytnppneilbkmnfaa
open Go.RowKit

/-- an image whose cells can be read -/
structure ImgV (w : World) (v : Value) (l : List FI) : Prop where
  row : Reads w 2 v l.length (l.flatMap FI.cells)
  bytes : ∀ x ∈ l, Bytes w x.v x.b
theorem ImgR.see {w : World} {v : Value} {l : List FI} (h : ImgR w v l) : ImgV w v l := ⟨h.row, h.bytes⟩
theorem ImgO.see {w : World} {v : Value} {l : List FI} (h : ImgO w v l) : ImgV w v l := ⟨Own.reads h.row, fun x hx => (h.bytes x hx).bytes⟩
theorem ImgV.ext {F : Nat → Prop} {w w' : World} {v : Value} {l : List FI} (h : ImgV w v l) (e : Ext F w w') (hf : ∀ k ∈ ibl v l, ¬ F k) : ImgV w' v l :=
  ⟨h.row.ext e fun k hk => hf k (by simp [ibl, mem_footL, hk]), fun x hx => (h.bytes x hx).ext e fun k hk => hf k (by
    simp only [ibl, List.mem_append, List.mem_flatMap]
    exact .inr ⟨x, hx, mem_footL.2 hk⟩)⟩
theorem ImgV.ext0 {w w' : World} {v : Value} {l : List FI} (h : ImgV w v l) (e : Ext Nil w w') : ImgV w' v l := h.ext e fun _ _ h => h
theorem ImgV.at {w : World} {ao : Option Addr} {n cap : Nat} {l : List FI} (h : ImgV w (.slice ao n cap) l) {k : Nat} {x : FI} (hx : l[k]? = some x) :
    ∃ b off bx cx, ao = some ⟨b, off, none⟩ ∧ x.v = .slice bx x.b.length cx ∧ w.cell? ⟨b, off + k * 2, none⟩ = some (.string ⟨x.nm.toArray⟩) ∧ w.cell? ⟨b, off + k * 2 + 1, none⟩ = some (.slice bx x.b.length cx) ∧ b < w.heap.size ∧ Bytes w (.slice bx x.b.length cx) x.b := by
  have hB := h.bytes x (List.mem_of_getElem? hx)
  obtain ⟨bx, cx, hv, -⟩ := hB.open
  obtain ⟨hi, he⟩ := List.getElem?_eq_some_iff.1 hx
  subst he
  obtain ⟨h1, ao', cap', h0, h2, h3, h4⟩ := h.row
  simp only [Value.slice.injEq] at h0
  obtain ⟨rfl, rfl, rfl⟩ := h0
  obtain ⟨b, off, rfl, hc⟩ := h4 (by intro e; rw [e] at h1; simp at h1; omega)
  have c0 := hc (k * 2) (encS l[k].nm) (fiCells_at l k hi 0 (by omega))
  have c1 := hc (k * 2 + 1) l[k].v (fiCells_at l k hi 1 (by omega))
  rw [hv] at c1 hB
  exact ⟨b, off, bx, cx, rfl, hv, c0, c1, (cell_spot c0).2, hB⟩
theorem ImgV.shape {w : World} {v : Value} {l : List FI} (h : ImgV w v l) : ∃ ao cap, v = .slice ao l.length cap ∧ l.length ≤ cap ∧ cap ≤ maxLen := by
  obtain ⟨-, ao, cap, rfl, h2, h3, -⟩ := h.row
  exact ⟨ao, cap, rfl, h2, h3⟩
theorem take_same {α : Type} {A B : List α} {k : Nat} (h : A.take k = B.take k) {a b : α} (ha : A[k]? = some a) (hb : B[k]? = some b) (e : a = b) : A.take (k + 1) = B.take (k + 1) := by
  rw [List.take_add_one, List.take_add_one, h, ha, hb, e]
theorem pairs_at {l : List FI} {k : Nat} {x : FI} (h : l[k]? = some x) : (l.map FI.pair)[k]? = some (x.nm, x.b) := by rw [List.getElem?_map, h]; rfl
theorem pairs_ne {A B : List FI} {k : Nat} {x y : FI} (hx : A[k]? = some x) (hy : B[k]? = some y) (h : ¬ (x.nm = y.nm ∧ x.b = y.b)) : decide (A.map FI.pair = B.map FI.pair) = false := by
  refine decide_eq_false fun e => h ?_
  have h1 := pairs_at hx
  rw [e, pairs_at hy] at h1
  simp only [Option.some.injEq, Prod.mk.injEq] at h1
  exact ⟨h1.1.symm, h1.2.symm⟩

set_option maxRecDepth 20000 in
set_option maxHeartbeats 1000000 in
theorem sameImage_m (w : World) (va vb : Value) (A B : List FI) (ha : ImgV w va A) (hb : ImgV w vb B) :
    Calls Try.prog 35 #[.agg #[va], .agg #[vb]] w fun e w' => e = .returned (.bool (decide (A.map FI.pair = B.map FI.pair))) ∧ Ext Nil w w' := by
  obtain ⟨aa, ca, rfl, ha1, ha2⟩ := ha.shape
  obtain ⟨ab, cb, rfl, hb1, hb2⟩ := hb.shape
  unfold maxLen at ha2 hb2
  obtain ⟨W, hW⟩ : ∃ W, W = (w.alloc (.cells #[.slice aa A.length ca] 36 (0, 0))).alloc (.cells #[.slice ab B.length cb] 36 (0, 0)) := ⟨_, rfl⟩
  have eW : Ext Nil w W := by rw [hW]; exact ((Ext.refl _ _).alloc _).alloc _
  have k0 : W.cell? ⟨w.heap.size, 0, none⟩ = some (.slice aa A.length ca) := by rw [hW]; exact ((At.new w [.slice aa A.length ca] 36).alloc _).cell 0 rfl
  have k1 : W.cell? ⟨w.heap.size + 1, 0, none⟩ = some (.slice ab B.length cb) := by
    rw [hW]
    have := (At.new (w.alloc (.cells #[.slice aa A.length ca] 36 (0, 0))) [.slice ab B.length cb] 36).cell 0 rfl
    rwa [show (w.alloc (.cells #[.slice aa A.length ca] 36 (0, 0))).heap.size = w.heap.size + 1 by simp] at this
  have hs : w.heap.size + 1 < W.heap.size := by rw [hW]; simp
  have HA := Lib.hid (ha.ext0 eW); have HB := Lib.hid (hb.ext0 eW); have HE := Lib.hid eW; have HK0 := Lib.hid k0; have HK1 := Lib.hid k1; have HS := Lib.hid hs
  clear ha hb eW k0 k1 hs
  by_cases hl : A.length = B.length
  · have HL := Lib.hid hl
    have hl1 : ((A.length : Int) != (B.length : Int)) = false := by rw [hl]; simp
    have hl2 : (A.length != B.length) = false := by rw [hl]; simp
    clear hl
    go_enter Try.func35, Try.ntmps35
    go_wp2_with fail
    rw [← hW]
    clear hW
    go_loopw [5] (fun i wr => ∃ k : Nat, k ≤ A.length ∧ i = .int .i64 k ∧ (∃ n, wr = W.drewN n) ∧ (A.map FI.pair).take k = (B.map FI.pair).take k) (fun i _ => A.length - (intOf i).toNat)
    case atStart => exact ⟨0, Nat.zero_le _, rfl, ⟨0, rfl⟩, rfl⟩
    case round =>
      obtain ⟨k, hk, rfl, ⟨n, rfl⟩, htk⟩ := hrel
      have HT := Lib.hid htk
      clear htk
      by_cases hlt : k < A.length
      · have hlt2 : k < B.length := by have := HL.out; omega
        obtain ⟨x, hx⟩ : ∃ x, A[k]? = some x := ⟨_, List.getElem?_eq_getElem hlt⟩
        obtain ⟨y, hy⟩ : ∃ y, B[k]? = some y := ⟨_, List.getElem?_eq_getElem hlt2⟩
        obtain ⟨ba, oa, bx, cx, rfl, -, x0, x1, -, hx2⟩ := HA.out.at hx
        obtain ⟨bb, ob, by_, cy, rfl, -, y0, y1, -, hy2⟩ := HB.out.at hy
        have s1 := fun n => to_str (W.drewN n) _ _ (hx2.drewN n)
        have s2 := fun n => to_str (W.drewN n) _ _ (hy2.drewN n)
        have k0 := HK0.out
        have k1 := HK1.out
        have HX := Lib.hid hx; have HY := Lib.hid hy
        clear hx2 hy2 hx hy
        by_cases hn : x.nm = y.nm
        · by_cases hbq : x.b = y.b
          · have hnb : (x.nm == y.nm) = true := by rw [hn]; simp
            have hbb : (x.b == y.b) = true := by rw [hbq]; simp
            have HN := Lib.hid hn; have HBQ := Lib.hid hbq
            clear hn hbq
            go_wp2_with fail
            go_quiet (fail)
            go_wp2_with fail
            refine ⟨⟨k + 1, by omega, by go_num, ⟨_, rfl⟩, take_same HT.out (pairs_at HX.out) (pairs_at HY.out) (by rw [HN.out, HBQ.out])⟩, by simp [intOf]; omega⟩
          · have hnb : (x.nm == y.nm) = true := by rw [hn]; simp
            have hbb : (x.b == y.b) = false := by rw [beq_eq_false_iff_ne]; exact hbq
            have HN := Lib.hid hn; have HBQ := Lib.hid hbq
            clear hn hbq
            go_wp2_with fail
            go_quiet (fail)
            go_wp2_with fail
            go_ret
            exact ⟨ret_bool (pairs_ne HX.out HY.out fun h => HBQ.out h.2).symm, (HE.out.drewN _).drewN _⟩
        · have hnb : (x.nm == y.nm) = false := by rw [beq_eq_false_iff_ne]; exact hn
          have HN := Lib.hid hn
          clear hn
          go_wp2_with fail
          go_quiet (fail)
          go_wp2_with fail
          go_ret
          exact ⟨ret_bool (pairs_ne HX.out HY.out fun h => HN.out h.1).symm, (HE.out.drewN _).drewN _⟩
      · have hk0 := HK0.out
        obtain rfl : k = A.length := by omega
        go_wp2_with fail
        go_ret
        refine ⟨ret_bool (decide_eq_true ?_).symm, HE.out.drewN _⟩
        have h := HT.out
        rwa [List.take_of_length_le (by simp), List.take_of_length_le (by have := HL.out; simp; omega)] at h
  · have hl1 : ((A.length : Int) != (B.length : Int)) = true := by rw [bne_iff_ne]; omega
    have hl2 : (A.length != B.length) = true := by rw [bne_iff_ne]; omega
    go_enter Try.func35, Try.ntmps35
    go_wp2_with fail
    go_ret
    refine ⟨ret_bool (decide_eq_false fun e => hl ?_).symm, ?_⟩
    · have := congrArg List.length e
      simpa using this
    · rw [← hW]
      exact HE.out
end Go.Proofs.Ytnppneilbkmnfaa
namespace Go.Proofs.Ytnppneilbkmnfaa
open Go.RowKit
/-- a callee in a drawn region, behind others -/
theorem quiet_behind {P : Program} {f : FuncId} {args : Array Value} {w : World} {a n : Nat} {v : Value}
    (h : Calls P f args (w.drewN (a + n)) fun e w' => e = .returned v ∧ ∃ m, w' = (w.drewN (a + n)).drewN m) : Calls P f args (w.drewN (a + n)) fun e w'' => e = .returned v ∧ ∃ m, w'' = w.drewN (a + m) :=
  h.mono fun _ _ ⟨he, m, hm⟩ => ⟨he, n + m, by rw [hm, World.drewN_drewN, Nat.add_assoc]⟩
end Go.Proofs.Ytnppneilbkmnfaa
namespace Go.Proofs.Ytnppneilbkmnfaa
open Go.RowKit Go.ChangeShapes

/-- a call of a script -/
structure OpI where
  o : OpD
  B : List UInt8
  ks : List Int
def OpI.cells (x : OpI) : List Value := x.o.cells
theorem OpOk.ext0 {w w' : World} {o : OpD} {B : List UInt8} {ks : List Int} (h : OpOk w o B ks) (e : Ext Nil w w') : OpOk w' o B ks :=
  ⟨h.name, h.dn, h.data.ext e fun _ _ h => h, fun k hk => Nat.lt_of_lt_of_le (h.dlt k hk) e.size, h.kn, h.keep.ext e fun _ _ h => h, fun k hk => Nat.lt_of_lt_of_le (h.klt k hk) e.size, h.junk⟩
structure ScrR (w : World) (v : Value) (l : List OpI) : Prop where
  row : Reads w 10 v l.length (l.flatMap OpI.cells)
  ok : ∀ x ∈ l, OpOk w x.o x.B x.ks
  small : ∀ x ∈ l, x.B.length ≤ 1048576 ∧ x.ks.length ≤ 1048576
  few : l.length ≤ 1048576
theorem ScrR.ext0 {w w' : World} {v : Value} {l : List OpI} (h : ScrR w v l) (e : Ext Nil w w') : ScrR w' v l :=
  ⟨h.row.ext e fun _ _ h => h, fun x hx => (h.ok x hx).ext0 e, h.small, h.few⟩
theorem ScrR.shape {w : World} {v : Value} {l : List OpI} (h : ScrR w v l) : ∃ ao cap, v = .slice ao l.length cap ∧ l.length ≤ cap ∧ cap ≤ maxLen := by
  obtain ⟨-, ao, cap, rfl, h2, h3, -⟩ := h.row
  exact ⟨ao, cap, rfl, h2, h3⟩
theorem OpI.len (x : OpI) : x.cells.length = 10 := rfl
/-- a call of a script, cell by cell -/
theorem ScrR.at {w : World} {ao : Option Addr} {n cap : Nat} {l : List OpI} (h : ScrR w (.slice ao n cap) l) {k : Nat} {x : OpI} (hx : l[k]? = some x) :
    ∃ b off, ao = some ⟨b, off, none⟩ ∧ b < w.heap.size ∧ ∀ j u, x.o.cells[j]? = some u → w.cell? ⟨b, off + k * 10 + j, none⟩ = some u := by
  obtain ⟨hi, he⟩ := List.getElem?_eq_some_iff.1 hx
  subst he
  have hfl := flat_len OpI.cells 10 l fun _ _ => rfl
  obtain ⟨h1, ao', cap', h0, h2, h3, h4⟩ := h.row
  simp only [Value.slice.injEq] at h0
  obtain ⟨rfl, rfl, rfl⟩ := h0
  obtain ⟨b, off, rfl, hc⟩ := h4 (by intro e; rw [e] at h1; simp at h1; omega)
  have hcc : ∀ j u, l[k].o.cells[j]? = some u → w.cell? ⟨b, off + k * 10 + j, none⟩ = some u := by
    intro j u hu
    have hj : j < 10 := by
      have := (List.getElem?_eq_some_iff.1 hu).1
      exact this
    have := hc (k * 10 + j) u (by rw [flat_mem OpI.cells 10 l (fun _ _ => rfl) k hi j hj]; exact hu)
    rwa [← Nat.add_assoc] at this
  exact ⟨b, off, rfl, (cell_spot (hcc 0 _ rfl)).2, hcc⟩
theorem ScrR.cells {w : World} {ao : Option Addr} {n cap : Nat} {l : List OpI} (h : ScrR w (.slice ao n cap) l) {k : Nat} {x : OpI} (hx : l[k]? = some x) :
    ∃ b off, ao = some ⟨b, off, none⟩ ∧ b < w.heap.size ∧ w.cell? ⟨b, off + k * 10, none⟩ = some (.int .i64 x.o.K) ∧ w.cell? ⟨b, off + k * 10 + 1, none⟩ = some (.int .i64 x.o.who) ∧ w.cell? ⟨b, off + k * 10 + 2, none⟩ = some (.string x.o.s) ∧
      w.cell? ⟨b, off + k * 10 + 3, none⟩ = some (.slice x.o.dx x.o.dn x.o.dc) ∧ w.cell? ⟨b, off + k * 10 + 4, none⟩ = some (.int .i64 x.o.N) ∧ w.cell? ⟨b, off + k * 10 + 5, none⟩ = some (.int .i64 x.o.t0) ∧ w.cell? ⟨b, off + k * 10 + 6, none⟩ = some (.int .i64 x.o.t1) ∧
      w.cell? ⟨b, off + k * 10 + 7, none⟩ = some (.bool x.o.t2) ∧ w.cell? ⟨b, off + k * 10 + 8, none⟩ = some (.slice x.o.kx x.o.kn x.o.kc) ∧ w.cell? ⟨b, off + k * 10 + 9, none⟩ = some (.int .u8 x.o.junk) := by
  obtain ⟨b, off, h1, h2, h3⟩ := h.at hx
  exact ⟨b, off, h1, h2, h3 0 _ rfl, h3 1 _ rfl, h3 2 _ rfl, h3 3 _ rfl, h3 4 _ rfl, h3 5 _ rfl, h3 6 _ rfl, h3 7 _ rfl, h3 8 _ rfl, h3 9 _ rfl⟩
section
variable {H : Type} {enc : TypeId × Value → H} {w : World}
theorem El.script {v : Value} {d : DataW H} (h : El enc Try.prog w 45 [v] d) (hb : Rows.uptoBulk d ≤ 1048576) : ∃ l : List OpI, ScrR w v l := by
  obtain ⟨ces, h1, h2, h3, h4⟩ := open_row Try.underlying45 cellsOp (by omega) h
  have hbulk : Rows.uptoBulkAll (ces.map (·.2)) ≤ 1048576 ∨ ces = [] := by
    rcases h3 with ⟨-, rfl⟩ | ⟨sp, rfl⟩
    · exact .inr rfl
    · simp only [Rows.uptoBulk] at hb
      exact .inl (by omega)
  have hlen : ces.length ≤ 1048576 := by
    rcases hbulk with h | rfl
    · have := bulk_length (ces.map (·.2))
      rw [List.length_map] at this
      omega
    · simp
  have hone : ∀ c ∈ ces, Rows.uptoBulk c.2 ≤ 1048576 := by
    intro c hc
    rcases hbulk with h | rfl
    · obtain ⟨A, B, e⟩ := List.append_of_mem (List.mem_map_of_mem (f := (·.2)) hc)
      rw [e, bulk_append] at h
      simp only [Rows.uptoBulkAll] at h
      omega
    · cases hc
  have h6 : ∃ l : List OpI, l.length = ces.length ∧ ces.flatMap (·.1) = l.flatMap OpI.cells ∧ ∀ x ∈ l, OpOk w x.o x.B x.ks ∧ x.B.length ≤ 1048576 ∧ x.ks.length ≤ 1048576 := by
    clear h1 h3 h4 h hlen hbulk
    induction ces with
    | nil => exact ⟨[], rfl, rfl, by simp⟩
    | cons c ces ih =>
      obtain ⟨o, B, ks, e, ho, hk⟩ := El.op (h2 c (List.mem_cons_self ..)).2
      have := hone c (List.mem_cons_self ..)
      obtain ⟨l, hl, he, hm⟩ := ih (fun c hc => h2 c (List.mem_cons_of_mem _ hc)) fun c hc => hone c (List.mem_cons_of_mem _ hc)
      refine ⟨⟨o, B, ks⟩ :: l, by simp [hl], by rw [List.flatMap_cons, List.flatMap_cons, e, he]; rfl, fun y hy => ?_⟩
      rcases List.mem_cons.1 hy with rfl | hy
      · exact ⟨ho, by show B.length ≤ _; omega, by show ks.length ≤ _; omega⟩
      · exact hm y hy
  obtain ⟨l, hl, he, hm⟩ := h6
  exact ⟨l, ⟨by rw [hl, ← he]; exact h1, fun x hx => (hm x hx).1, fun x hx => (hm x hx).2, by omega⟩⟩
theorem El.u8 {v : Value} {d : DataW H} (h : El enc Try.prog w 5 [v] d) : ∃ b : UInt8, v = .int .u8 b.toNat := by
  obtain ⟨n, e, hw⟩ := h.int Try.underlying5
  have hx : 0 ≤ n ∧ n ≤ 255 := by simpa [Lit.wf, IntKind.min, IntKind.max, IntKind.signed, IntKind.bits] using hw
  refine ⟨toB n, ?_⟩
  simp only [List.cons.injEq, and_true] at e
  rw [e]
  exact (bv_toB hx.1 (by omega)).symm
theorem cellsM : Try.prog.cellsOf 44 = 3 := by kernel_rfl
set_option maxRecDepth 100000 in
theorem El.image {v : List Value} {d : DataW H} (h : El enc Try.prog w 36 v d) : ∃ (u : Value) (l : List FI), v = [u] ∧ ImgR w u l ∧ l.length + 1 ≤ Rows.uptoBulk d := by
  obtain ⟨f, ps, h⟩ := h
  obtain ⟨xs, n, _, hx, hl, hlen, hf⟩ := DataW.trod_struct Try.underlying36 h
  rw [cellsI] at hl
  match xs, hlen, v, hl with
  | [y0], _, [c0], _ =>
    have f0 := hf 0 _ rfl
    simp [cellsFs] at f0
    obtain ⟨l, h1, h2⟩ := El.files ⟨n, y0.2, f0⟩
    refine ⟨c0, l, rfl, h1, ?_⟩
    have hd : d = .agg [y0.1] := by simpa using congrArg Prod.fst hx
    rw [hd]
    simp only [Rows.uptoBulk, Rows.uptoBulkAll]
    omega
set_option maxRecDepth 100000 in
theorem El.made {cs : List Value} {d : DataW H} (h : El enc Try.prog w 44 cs d) : ∃ (lim : Int) (m : Bool) (v : Value) (l : List FI), cs = [.int .i64 lim, .bool m, v] ∧ ImgR w v l ∧ l.length + 1 ≤ Rows.uptoBulk d := by
  obtain ⟨f, ps, h⟩ := h
  obtain ⟨xs, n, _, hx, hl, hlen, hf⟩ := DataW.trod_struct Try.underlying44 h
  rw [cellsM] at hl
  match xs, hlen, cs, hl with
  | [y0, y1, y2], _, [c0, c1, c2], _ =>
    have f0 := hf 0 _ rfl
    have f1 := hf 1 _ rfl
    have f2 := hf 2 _ rfl
    simp [cells3, cells4, cellsI] at f0 f1 f2
    obtain ⟨lim, e0, -⟩ := El.int Try.underlying3 ⟨n, y0.2, f0⟩
    obtain ⟨m, e1⟩ := El.bool Try.underlying4 ⟨n, y1.2, f1⟩
    obtain ⟨u, l, e2, h1, h2⟩ := El.image ⟨n, y2.2, f2⟩
    simp only [List.cons.injEq, and_true] at e0 e1 e2
    subst e0 e1 e2
    refine ⟨lim, m, c2, l, rfl, h1, ?_⟩
    have hd : d = .agg [y0.1, y1.1, y2.1] := by simpa using congrArg Prod.fst hx
    rw [hd]
    simp only [Rows.uptoBulk, Rows.uptoBulkAll]
    omega
end

/-! ### a disk of one's own -/
theorem Life.lt {w0 w : World} {d : Nat} {D : Dk} (hL : Life w0 w d D) : w0.heap.size ≤ d ∧ d < w.heap.size := by
  obtain ⟨F, hD, hF, hE⟩ := hL
  exact ⟨hF d hD.self, hD.lt d hD.self⟩
theorem Life.world {w0 w : World} {d : Nat} {D : Dk} (hL : Life w0 w d D) : Ext Nil w0 w := by
  obtain ⟨F, hD, hF, hE⟩ := hL
  exact hE
end Go.Proofs.Ytnppneilbkmnfaa
namespace Go.Proofs.Ytnppneilbkmnfaa
open Go.RowKit

def kSafe : RK SI := ⟨65, 3, SI.cells, SI.v, SI.b⟩
end Go.Proofs.Ytnppneilbkmnfaa
namespace Go.Proofs.Ytnppneilbkmnfaa
open Go.RowKit

/-! ### two disks apart -/
def Two (W w : World) (a : Nat) (A : Dk) (b : Nat) (B : Dk) : Prop := ∃ F G, Disk w a A F ∧ Disk w b B G ∧ (∀ k, F k → ¬ G k) ∧ (∀ k, F k → W.heap.size ≤ k) ∧ (∀ k, G k → W.heap.size ≤ k) ∧ Ext Nil W w
theorem Two.swap {W w : World} {a b : Nat} {A B : Dk} (h : Two W w a A b B) : Two W w b B a A := by
  obtain ⟨F, G, h1, h2, h3, h4, h5, h6⟩ := h
  exact ⟨G, F, h2, h1, fun k hg hf => h3 k hf hg, h5, h4, h6⟩
theorem Two.ext0 {W w w' : World} {a b : Nat} {A B : Dk} (h : Two W w a A b B) (e : Ext Nil w w') : Two W w' a A b B := by
  obtain ⟨F, G, h1, h2, h3, h4, h5, h6⟩ := h
  exact ⟨F, G, h1.ext e fun _ _ h => h, h2.ext e fun _ _ h => h, h3, h4, h5, h6.same e⟩
theorem Two.first {W w : World} {a b : Nat} {A B : Dk} (h : Two W w a A b B) : Life W w a A := by
  obtain ⟨F, G, h1, h2, h3, h4, h5, h6⟩ := h
  exact ⟨F, h1, h4, h6⟩
theorem Two.second {W w : World} {a b : Nat} {A B : Dk} (h : Two W w a A b B) : Life W w b B := h.swap.first
theorem Two.make {W w1 w2 : World} {a b : Nat} {A B : Dk} (h1 : Life W w1 a A) (h2 : Life w1 w2 b B) : Two W w2 a A b B := by
  obtain ⟨F, hF1, hF2, hF3⟩ := h1
  obtain ⟨G, hG1, hG2, hG3⟩ := h2
  have hs := hF3.size
  exact ⟨F, G, hF1.ext hG3 fun _ _ h => h, hG1, fun k hf hg => by have := hF1.lt k hf; have := hG2 k hg; omega, hF2, fun k hk => Nat.le_trans hs (hG2 k hk), hF3.same hG3⟩
/-! ### a disk beside a book -/
def LS (W w : World) (d : Nat) (D : Dk) (u : Value) (l : List SI) : Prop := ∃ F, Disk w d D F ∧ (∀ k, F k → W.heap.size ≤ k) ∧ Ext Nil W w ∧ Row kSafe w u l ∧ ∀ k, feet kSafe u l k → ¬ F k
theorem LS.ext0 {W w w' : World} {d : Nat} {D : Dk} {u : Value} {l : List SI} (h : LS W w d D u l) (e : Ext Nil w w') : LS W w' d D u l := by
  obtain ⟨F, h1, h2, h3, h4, h5⟩ := h
  exact ⟨F, h1.ext e fun _ _ h => h, h2, h3.same e, h4.ext0 e, h5⟩
theorem LS.begin {W w : World} {d : Nat} {D : Dk} (h : Life W w d D) : LS W w d D (.slice none 0 0) [] := by
  obtain ⟨F, h1, h2, h3⟩ := h
  refine ⟨F, h1, h2, h3, Row.nil _, ?_⟩
  rintro k (h | ⟨x, hx, -⟩)
  · simp [inFoot, foot] at h
  · cases hx
theorem LS.shape {W w : World} {d : Nat} {D : Dk} {u : Value} {l : List SI} (h : LS W w d D u l) : ∃ ao cap, u = .slice ao l.length cap ∧ l.length ≤ cap ∧ cap ≤ maxLen := by
  obtain ⟨F, h1, h2, h3, h4, h5⟩ := h
  exact h4.shape
end Go.Proofs.Ytnppneilbkmnfaa
