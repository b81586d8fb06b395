/- Plain: the disk of the law DiskCounted, call by call (no program in sight). | The walk of the law DiskCounted: it returns true, and no older memory turns. Condition: none. | The methods at a disk that no call made: it has no map. Condition: none. | The walks of the law DiskNil: nothing, DiskNil. Condition: none. | Auxiliary: a call (Op) that can be read as data, opened. No condition. -/
import Derived.Test.YtnppneilbkmnfaaK1
import Derived.Test.YtnppneilbkmnfaaOpn
namespace Go.Proofs.Ytnppneilbkmnfaa
open Go.RowKit

theorem num_any (w : World) (e : Int) : Calls Try.prog 18 #[.int .i64 e] w fun r w' => r = .returned (.int .i64 e) ∧ w = w' := by
  go_enter Try.func18, Try.ntmps18
  go_wp2
  go_ret
  exact ⟨rfl, rfl⟩

/-- a row of files, opened at its k-th -/
theorem OwnI.at {w : World} {v : Value} {l : List FI} (h : OwnI w v l) (k : Nat) (hk : k < l.length) : ∃ g c, v = .slice (some ⟨g, 0, none⟩) l.length (c + 1) ∧ l.length ≤ c + 1 ∧ c + 1 ≤ maxLen ∧ w.cell? ⟨g, k * 2, none⟩ = some (encS l[k].nm) ∧ w.cell? ⟨g, k * 2 + 1, none⟩ = some l[k].v ∧ g < w.heap.size := by
  have hr := Own.reads h
  rcases h.2 with ⟨ao', h1, h2⟩ | ⟨g, c, cs, h1, h2, h3, h4, h5, h6⟩
  · omega
  · subst h1
    obtain ⟨-, ao', cap', h7, -, -, h8⟩ := hr
    simp only [Value.slice.injEq, true_and] at h7
    obtain ⟨rfl, rfl⟩ := h7
    obtain ⟨b, off, h9, hc⟩ := h8 (by intro e; have := fiCells_length l; rw [e] at this; simp at this; omega)
    simp only [Option.some.injEq, Addr.mk.injEq, and_true] at h9
    obtain ⟨rfl, rfl⟩ := h9
    have c0 := hc (k * 2) (encS l[k].nm) (fiCells_at l k hk 0 (by omega))
    have c1 := hc (k * 2 + 1) l[k].v (fiCells_at l k hk 1 (by omega))
    rw [Nat.zero_add] at c0 c1
    exact ⟨g, c, rfl, h3, h4, c0, c1, h2.lt⟩
end Go.Proofs.Ytnppneilbkmnfaa
namespace Go.Proofs.Ytnppneilbkmnfaa
open Go.RowKit

/-- a disk that no call made -/
def Zd (w : World) (z : Nat) : Prop := w.cell? ⟨z, 2, none⟩ = some (.map none) ∧ z < w.heap.size
theorem Zd.ext {w w' : World} {z : Nat} (h : Zd w z) (e : Ext Nil w w') : Zd w' z := ⟨e.cell h.1 fun h => h, Nat.lt_of_lt_of_le h.2 e.size⟩
theorem Zd.al {w : World} {z : Nat} (h : Zd w z) (o : Obj) : Zd (w.alloc o) z := h.ext ((Ext.refl _ _).alloc o)
end Go.Proofs.Ytnppneilbkmnfaa
namespace Go.Proofs.Ytnppneilbkmnfaa
open Go.RowKit

/-- no disk, or one that no call made -/
def Gone (w : World) (p : Value) : Prop := p = .pointer none ∨ ∃ z, p = .pointer (some ⟨z, 0, none⟩) ∧ Zd w z
theorem Gone.ext {w w' : World} {p : Value} (h : Gone w p) (e : Ext Nil w w') : Gone w' p := h.imp id fun ⟨z, h1, h2⟩ => ⟨z, h1, h2.ext e⟩
/-- a call, as it lies in cells -/
structure OpD where
  K : Int
  who : Int
  s : ByteArray
  dx : Option Addr
  dn : Nat
  dc : Nat
  N : Int
  t0 : Int
  t1 : Int
  t2 : Bool
  kx : Option Addr
  kn : Nat
  kc : Nat
  junk : Int
def OpD.cells (o : OpD) : List Value := [.int .i64 o.K, .int .i64 o.who, .string o.s, .slice o.dx o.dn o.dc, .int .i64 o.N, .int .i64 o.t0, .int .i64 o.t1, .bool o.t2, .slice o.kx o.kn o.kc, .int .u8 o.junk]

def OpD.at (o : OpD) (k : Int) : OpD := { o with K := k }
end Go.Proofs.Ytnppneilbkmnfaa
namespace Go.Proofs.Ytnppneilbkmnfaa
open Go.RowKit Go.ChangeShapes
section
variable {H : Type} {enc : TypeId × Value → H} {w : World}
theorem cells9 : Try.prog.cellsOf 9 = 1 := by kernel_rfl
theorem cells4 : Try.prog.cellsOf 4 = 1 := by kernel_rfl
theorem cellsT : Try.prog.cellsOf 29 = 3 := by kernel_rfl
theorem cellsK : Try.prog.cellsOf 39 = 1 := by kernel_rfl
theorem cellsOp : Try.prog.cellsOf 47 = 10 := by kernel_rfl

theorem El.string {t : TypeId} {cs : List Value} {d : DataW H} (ht : Try.prog.underlying t = some .string) (h : El enc Try.prog w t cs d) : ∃ s, cs = [.string s] ∧ s.size ≤ maxLen := by
  obtain ⟨f, ps, h⟩ := h
  obtain ⟨s, h1, -, h2⟩ := DataW.trod_string ht h
  exact ⟨s, h1, h2⟩
theorem El.bool {t : TypeId} {cs : List Value} {d : DataW H} (ht : Try.prog.underlying t = some .bool) (h : El enc Try.prog w t cs d) : ∃ b, cs = [.bool b] := by
  obtain ⟨f, ps, h⟩ := h
  obtain ⟨b, h1, -⟩ := DataW.trod_bool ht h
  exact ⟨b, h1⟩
set_option maxRecDepth 100000 in
theorem El.trouble {cs : List Value} {d : DataW H} (h : El enc Try.prog w 29 cs d) : ∃ a k b, cs = [.int .i64 a, .int .i64 k, .bool b] := by
  obtain ⟨f, ps, h⟩ := h
  obtain ⟨xs, n, _, _, hl, hlen, hf⟩ := DataW.trod_struct Try.underlying29 h
  rw [cellsT] at hl
  match xs, hlen, cs, hl with
  | [y0, y1, y2], _, [c0, c1, c2], _ =>
    have f0 := hf 0 _ rfl
    have f1 := hf 1 _ rfl
    have f2 := hf 2 _ rfl
    simp [cells3, cells4] at f0 f1 f2
    obtain ⟨K, e0, -⟩ := El.int Try.underlying3 ⟨n, y0.2, f0⟩
    obtain ⟨A, e1, -⟩ := El.int Try.underlying3 ⟨n, y1.2, f1⟩
    obtain ⟨B, e2⟩ := El.bool Try.underlying4 ⟨n, y2.2, f2⟩
    simp only [List.cons.injEq, and_true] at e0 e1 e2
    subst e0 e1 e2
    exact ⟨K, A, B, rfl⟩
/-- a slice of ints, opened -/
theorem El.ints {v : Value} {d : DataW H} (h : El enc Try.prog w 39 [v] d) : ∃ l : List Int, Reads w 1 v l.length (l.map (.int .i64 ·)) ∧ (∀ k, inFoot v k → k < w.heap.size) ∧ l.length + 1 ≤ Rows.uptoBulk d := by
  obtain ⟨ces, h1, h2, h3, h4⟩ := open_row Try.underlying39 cells3 (by omega) h
  have h6 : ∃ l : List Int, l.length = ces.length ∧ ces.flatMap (·.1) = l.map (.int .i64 ·) := by
    clear h1 h3 h4 h
    induction ces with
    | nil => exact ⟨[], rfl, rfl⟩
    | cons c ces ih =>
      obtain ⟨n, e, -⟩ := (h2 c (List.mem_cons_self ..)).2.int Try.underlying3
      obtain ⟨l, hl, he⟩ := ih fun c hc => h2 c (List.mem_cons_of_mem _ hc)
      exact ⟨n :: l, by simp [hl], by rw [List.flatMap_cons, e, he]; rfl⟩
  obtain ⟨l, hl, he⟩ := h6
  refine ⟨l, ?_, h4, ?_⟩
  · rw [hl, ← he]
    exact h1
  · rcases h3 with ⟨rfl, rfl⟩ | ⟨sp, rfl⟩
    · simp [hl, Rows.uptoBulk]
    · have := bulk_length (ces.map (·.2))
      rw [List.length_map] at this
      simp only [Rows.uptoBulk]
      omega

/-- what lies behind a call's cells -/
structure OpOk (w : World) (o : OpD) (B : List UInt8) (ks : List Int) : Prop where
  name : o.s.size ≤ maxLen
  dn : o.dn = B.length
  data : Bytes w (.slice o.dx o.dn o.dc) B
  dlt : ∀ k, inFoot (.slice o.dx o.dn o.dc) k → k < w.heap.size
  kn : o.kn = ks.length
  keep : Reads w 1 (.slice o.kx o.kn o.kc) ks.length (ks.map (.int .i64 ·))
  klt : ∀ k, inFoot (.slice o.kx o.kn o.kc) k → k < w.heap.size
  junk : 0 ≤ o.junk ∧ o.junk < 256
set_option maxRecDepth 100000 in
theorem El.op {cs : List Value} {d : DataW H} (h : El enc Try.prog w 47 cs d) : ∃ (o : OpD) (B : List UInt8) (ks : List Int), cs = o.cells ∧ OpOk w o B ks ∧ B.length + ks.length + 2 ≤ Rows.uptoBulk d := by
  obtain ⟨f, ps, h⟩ := h
  obtain ⟨xs, n, _, hx, hl, hlen, hf⟩ := DataW.trod_struct Try.underlying47 h
  rw [cellsOp] at hl
  match xs, hlen, cs, hl with
  | [y0, y1, y2, y3, y4, y5, y6, y7], _, [c0, c1, c2, c3, c4, c5, c6, c7, c8, c9], _ =>
    have f0 := hf 0 _ rfl
    have f1 := hf 1 _ rfl
    have f2 := hf 2 _ rfl
    have f3 := hf 3 _ rfl
    have f4 := hf 4 _ rfl
    have f5 := hf 5 _ rfl
    have f6 := hf 6 _ rfl
    have f7 := hf 7 _ rfl
    simp [cells3, cells9, cells29, cellsT, cellsK, cells5] at f0 f1 f2 f3 f4 f5 f6 f7
    obtain ⟨K, e0, -⟩ := El.int Try.underlying3 ⟨n, y0.2, f0⟩
    obtain ⟨who, e1, -⟩ := El.int Try.underlying3 ⟨n, y1.2, f1⟩
    obtain ⟨s, e2, hs⟩ := El.string Try.underlying9 ⟨n, y2.2, f2⟩
    obtain ⟨B, hB, hBl, hBk⟩ := El.bytes ⟨n, y3.2, f3⟩
    obtain ⟨N, e4, -⟩ := El.int Try.underlying3 ⟨n, y4.2, f4⟩
    obtain ⟨t0, t1, t2, e5⟩ := El.trouble ⟨n, y5.2, f5⟩
    obtain ⟨ks, hK, hKl, hKk⟩ := El.ints ⟨n, y6.2, f6⟩
    obtain ⟨J, e7, hJ⟩ := El.int Try.underlying5 ⟨n, y7.2, f7⟩
    simp only [List.cons.injEq, and_true] at e0 e1 e2 e4 e5 e7
    obtain ⟨e5, e6, e8⟩ := e5
    subst e0 e1 e2 e4 e5 e6 e8 e7
    obtain ⟨dx, dc, rfl, -⟩ := hB.open
    obtain ⟨kx, kc, rfl, -⟩ := hK.ints
    have hJ2 : 0 ≤ J ∧ J ≤ 255 := by simpa [Lit.wf, IntKind.min, IntKind.max, IntKind.signed, IntKind.bits] using hJ
    refine ⟨⟨K, who, s, dx, B.length, dc, N, t0, t1, t2, kx, ks.length, kc, J⟩, B, ks, rfl, ⟨hs, rfl, hB, hBl, rfl, hK, hKl, hJ2.1, by show J < 256; omega⟩, ?_⟩
    have hd : d = .agg [y0.1, y1.1, y2.1, y3.1, y4.1, y5.1, y6.1, y7.1] := by simpa using congrArg Prod.fst hx
    rw [hd]
    simp only [Rows.uptoBulk, Rows.uptoBulkAll]
    omega
end
end Go.Proofs.Ytnppneilbkmnfaa
