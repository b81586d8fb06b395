/- The contract of the laws' does. Condition: the disk is one's own; few calls were made; the call's data are older than the disk. | Auxiliary: an image that can be read as data, opened. No condition. | Auxiliary: rows of items in memory of one's own, each item with bytes that lie elsewhere; append over them. No condition. | Plain: what a call does to the disk's files, to its numbers and its troubles; what stays safe. No program in sight. | Plain: the law's book of what is safe (DiskSynced), call by call. No program in sight. | The contract of the laws' tells. Condition: the disk stands. | The contracts of the laws' opened and lives. Condition: the image can be read. | The contract of the laws' begins; bytes as strings. Condition: the bytes can be read. | The contract of the laws' sameImage. Condition: the images can be read. | The contract of the laws' survived. Condition: the image is what a crash leaves of the files told. | Auxiliary: a script (a row of calls) and the words of a law's argument, opened; a disk of one's own under the laws' calls. Condition: what is read is older than the disk. -/
import Derived.Test.YtnppneilbkmnfaaZE
import Derived.Test.YtnppneilbkmnfaaZF
namespace Go.Proofs.Ytnppneilbkmnfaa
open Go.RowKit

/-- what a call does -/
def Dk.does (D : Dk) (o : OpD) (B : List UInt8) : Dk × Int :=
  if o.K = 1 then D.append o.s.data.toList B else if o.K = 2 then D.sync o.s.data.toList else if o.K = 3 then D.replace o.s.data.toList B
  else if o.K = 4 then D.cut o.s.data.toList o.N else if o.K = 5 then D.remove o.s.data.toList else if o.K = 11 then D.arm o.t0 o.t1 o.t2 else (D, 0)

set_option maxRecDepth 20000 in
set_option maxHeartbeats 1000000 in
theorem does_life (w0 w : World) (d : Nat) (D : Dk) (hL : Life w0 w d D) (o : OpD) (B : List UInt8) (ks : List Int) (ho : OpOk w0 o B ks) (hc : D.calls ≤ 1099511627776) (ha : D.arms.length ≤ 1099511627776) (hb : B.length ≤ 549755813888) :
    Calls Try.prog 25 #[.pointer (some ⟨d, 0, none⟩), .agg o.cells.toArray] w fun e w' => e = .returned (.int .i64 (D.does o B).2) ∧ Life w0 w' d (D.does o B).1 := by
  obtain ⟨K, who, s, dx, dn, dc, N, t0, t1, t2, kx, kn, kc, junk⟩ := o
  obtain ⟨hs, hdn, hdata, hdlt, -, -, -, -⟩ := ho
  simp only [] at hs hdn hdata hdlt
  have hdef : D.does ⟨K, who, s, dx, dn, dc, N, t0, t1, t2, kx, kn, kc, junk⟩ B = if K = 1 then D.append s.data.toList B else if K = 2 then D.sync s.data.toList else if K = 3 then D.replace s.data.toList B
    else if K = 4 then D.cut s.data.toList N else if K = 5 then D.remove s.data.toList else if K = 11 then D.arm t0 t1 t2 else (D, 0) := rfl
  rw [hdef]
  unfold OpD.cells
  simp only []
  have eW : Ext Nil w (w.alloc (.cells #[.int .i64 K, .int .i64 who, .string s, .slice dx dn dc, .int .i64 N, .int .i64 t0, .int .i64 t1, .bool t2, .slice kx kn kc, .int .u8 junk] 47 (0, 0))) := (Ext.refl _ _).alloc _
  obtain ⟨F, hD, hF, hE⟩ := hL.ext eW
  have hx := hdata.ext hE fun _ _ h => h
  have hxF : ∀ k, inFoot (.slice dx dn dc) k → ¬ F k := fun k hk hf => by have := hF k hf; have := hdlt k hk; omega
  have HD := Lib.hid hD; have HF := Lib.hid hF; have HE := Lib.hid hE; have HX := Lib.hid hx; have HXF := Lib.hid hxF; have HL := Lib.hid (hL.ext eW)
  clear hD hF hE hx hxF hdata hdlt hL eW hdef hdn
  by_cases h1 : K = 1
  · rw [if_pos h1]
    subst h1
    go_enter Try.func25, Try.ntmps25
    go_wp2_with (go_at_call 20; refine (append_m _ d D F HD.out hc s hs _ B HX.out HXF.out hb).mono ?_; intro e w' hq; obtain ⟨rfl, hl⟩ := Life.acted HF.out HE.out hq)
    go_ret
    exact ⟨rfl, hl⟩
  rw [if_neg h1]
  by_cases h2 : K = 2
  · rw [if_pos h2]
    subst h2
    go_enter Try.func25, Try.ntmps25
    go_wp2_with (go_at_call 65; refine (sync_m _ d D F HD.out hc s hs).mono ?_; intro e w' hq; obtain ⟨rfl, hl⟩ := Life.acted HF.out HE.out hq)
    go_ret
    exact ⟨rfl, hl⟩
  rw [if_neg h2]
  by_cases h3 : K = 3
  · rw [if_pos h3]
    subst h3
    go_enter Try.func25, Try.ntmps25
    go_wp2_with (go_at_call 52; refine (replace_m _ d D F HD.out hc s hs _ B HX.out HXF.out hb).mono ?_; intro e w' hq; obtain ⟨rfl, hl⟩ := Life.acted HF.out HE.out hq)
    go_ret
    exact ⟨rfl, hl⟩
  rw [if_neg h3]
  by_cases h4 : K = 4
  · rw [if_pos h4]
    subst h4
    go_enter Try.func25, Try.ntmps25
    go_wp2_with (go_at_call 66; refine (cut_m _ d D F HD.out hc s hs N).mono ?_; intro e w' hq; obtain ⟨rfl, hl⟩ := Life.acted HF.out HE.out hq)
    go_ret
    exact ⟨rfl, hl⟩
  rw [if_neg h4]
  by_cases h5 : K = 5
  · rw [if_pos h5]
    subst h5
    go_enter Try.func25, Try.ntmps25
    go_wp2_with (go_at_call 67; refine (remove_m _ d D F HD.out hc s hs).mono ?_; intro e w' hq; obtain ⟨rfl, hl⟩ := Life.acted HF.out HE.out hq)
    go_ret
    exact ⟨rfl, hl⟩
  rw [if_neg h5]
  by_cases h11 : K = 11
  · rw [if_pos h11]
    subst h11
    go_enter Try.func25, Try.ntmps25
    go_wp2_with (go_at_call 19; refine (arm_m _ d D F HD.out hc ha t0 t1 t2).mono ?_; intro e w' hq; obtain ⟨rfl, hl⟩ := Life.acted HF.out HE.out hq)
    go_ret
    exact ⟨rfl, hl⟩
  rw [if_neg h11]
  go_enter Try.func25, Try.ntmps25
  go_wp2_with fail
  go_ret
  exact ⟨rfl, HL.out⟩
end Go.Proofs.Ytnppneilbkmnfaa
namespace Go.Proofs.Ytnppneilbkmnfaa
open Go.RowKit Go.ChangeShapes
section
variable {H : Type} {enc : TypeId × Value → H} {w : World}
theorem cellsF : Try.prog.cellsOf 41 = 2 := by kernel_rfl
theorem cellsI : Try.prog.cellsOf 36 = 1 := by kernel_rfl
theorem cellsFs : Try.prog.cellsOf 34 = 1 := by kernel_rfl
set_option maxRecDepth 100000 in
theorem El.file {cs : List Value} {d : DataW H} (h : El enc Try.prog w 41 cs d) : ∃ x : FI, cs = x.cells ∧ x.nm.length ≤ maxLen ∧ Bytes w x.v x.b ∧ x.b.length + 1 ≤ Rows.uptoBulk d := by
  obtain ⟨f, ps, h⟩ := h
  obtain ⟨xs, n, _, hx, hl, hlen, hf⟩ := DataW.trod_struct Try.underlying41 h
  rw [cellsF] at hl
  match xs, hlen, cs, hl with
  | [y0, y1], _, [c0, c1], _ =>
    have f0 := hf 0 _ rfl
    have f1 := hf 1 _ rfl
    simp [cells9, cells29] at f0 f1
    obtain ⟨s, e0, hs⟩ := El.string Try.underlying9 ⟨n, y0.2, f0⟩
    obtain ⟨B, hB, -, hBk⟩ := El.bytes ⟨n, y1.2, f1⟩
    simp only [List.cons.injEq, and_true] at e0
    subst e0
    refine ⟨⟨s.data.toList, B, c1⟩, rfl, by show s.data.toList.length ≤ maxLen; rw [Array.length_toList]; exact hs, hB, ?_⟩
    have hd : d = .agg [y0.1, y1.1] := by simpa using congrArg Prod.fst hx
    rw [hd]
    simp only [Rows.uptoBulk, Rows.uptoBulkAll]
    show B.length + 1 ≤ _
    omega
theorem El.files {v : Value} {d : DataW H} (h : El enc Try.prog w 34 [v] d) : ∃ l : List FI, ImgR w v l ∧ l.length + 1 ≤ Rows.uptoBulk d := by
  obtain ⟨ces, h1, h2, h3, h4⟩ := open_row Try.underlying34 cellsF (by omega) h
  have h6 : ∃ l : List FI, l.length = ces.length ∧ ces.flatMap (·.1) = l.flatMap FI.cells ∧ (∀ x ∈ l, x.nm.length ≤ maxLen) ∧ ∀ x ∈ l, Bytes w x.v x.b := by
    clear h1 h3 h4 h
    induction ces with
    | nil => exact ⟨[], rfl, rfl, by simp, by simp⟩
    | cons c ces ih =>
      obtain ⟨x, e, hn, hb, -⟩ := El.file (h2 c (List.mem_cons_self ..)).2
      obtain ⟨l, hl, he, hm1, hm2⟩ := ih fun c hc => h2 c (List.mem_cons_of_mem _ hc)
      refine ⟨x :: l, by simp [hl], by rw [List.flatMap_cons, List.flatMap_cons, e, he], ?_, ?_⟩
      · intro y hy
        rcases List.mem_cons.1 hy with rfl | hy
        · exact hn
        · exact hm1 y hy
      · intro y hy
        rcases List.mem_cons.1 hy with rfl | hy
        · exact hb
        · exact hm2 y hy
  obtain ⟨l, hl, he, hm1, hm2⟩ := h6
  refine ⟨l, ⟨by rw [hl, ← he]; exact h1, hm1, hm2⟩, ?_⟩
  rcases h3 with ⟨rfl, rfl⟩ | ⟨sp, rfl⟩
  · simp [hl, Rows.uptoBulk]
  · have := bulk_length (ces.map (·.2))
    rw [List.length_map] at this
    simp only [Rows.uptoBulk]
    omega
end
end Go.Proofs.Ytnppneilbkmnfaa
namespace Go.Proofs.Ytnppneilbkmnfaa
open Go.RowKit

/-- a kind of row: its element's type, how many cells it has, which cells, which of them is a slice of bytes, and its bytes -/
structure RK (α : Type) where
  t : TypeId
  size : Nat
  cells : α → List Value
  pt : α → Value
  bs : α → List UInt8
structure Row {α : Type} (K : RK α) (w : World) (v : Value) (l : List α) : Prop where
  row : Own w K.t K.size v l.length (l.flatMap K.cells)
  bytes : ∀ x ∈ l, Bytes w (K.pt x) (K.bs x)
  apart : ∀ x ∈ l, ∀ k, inFoot (K.pt x) k → k < w.heap.size ∧ ¬ inFoot v k
section
variable {α : Type} {K : RK α}
theorem Row.nil (w : World) : Row K w (.slice none 0 0) [] := ⟨Own.nil _ _ _, by simp, by simp⟩
theorem Row.lt {w : World} {v : Value} {l : List α} (h : Row K w v l) : ∀ k, inFoot v k → k < w.heap.size := h.row.lt
theorem Row.ext {F : Nat → Prop} {w w' : World} {v : Value} {l : List α} (h : Row K w v l) (e : Ext F w w') (hf : ∀ k, inFoot v k → ¬ F k) (hb : ∀ x ∈ l, ∀ k, inFoot (K.pt x) k → ¬ F k) : Row K w' v l :=
  ⟨h.row.ext e hf, fun x hx => (h.bytes x hx).ext e (hb x hx), fun x hx k hk => ⟨Nat.lt_of_lt_of_le (h.apart x hx k hk).1 e.size, (h.apart x hx k hk).2⟩⟩
theorem Row.ext0 {w w' : World} {v : Value} {l : List α} (h : Row K w v l) (e : Ext Nil w w') : Row K w' v l := h.ext e (fun _ _ h => h) fun _ _ _ _ h => h
theorem Row.snoc {w X w1 : World} {v v' : Value} {l : List α} {x : α} (h : Row K w v l) (e : Ext Nil w X) (hx : Bytes X (K.pt x) (K.bs x)) (hxk : ∀ k, inFoot (K.pt x) k → k < X.heap.size ∧ ¬ inFoot v k)
    (hO : Own w1 K.t K.size v' (l ++ [x]).length ((l ++ [x]).flatMap K.cells)) (hS : Step (inFoot v) X (inFoot v') w1) : Row K w1 v' (l ++ [x]) := by
  have hX : ∀ y ∈ l ++ [x], Bytes X (K.pt y) (K.bs y) ∧ ∀ k, inFoot (K.pt y) k → k < X.heap.size ∧ ¬ inFoot v k := by
    intro y hy
    rcases List.mem_append.1 hy with hy | hy
    · exact ⟨(h.bytes y hy).ext e fun _ _ h => h, fun k hk => ⟨Nat.lt_of_lt_of_le (h.apart y hy k hk).1 e.size, (h.apart y hy k hk).2⟩⟩
    · rw [List.mem_singleton] at hy
      subst hy
      exact ⟨hx, hxk⟩
  refine ⟨hO, fun y hy => (hX y hy).1.ext hS.1 fun k hk => ((hX y hy).2 k hk).2, fun y hy k hk => ?_⟩
  have h1 := (hX y hy).2 k hk
  refine ⟨Nat.lt_of_lt_of_le h1.1 hS.1.size, fun hv => ?_⟩
  rcases hS.2 k hv with h2 | h2
  · exact h1.2 h2
  · omega
theorem Row.shape {w : World} {v : Value} {l : List α} (h : Row K w v l) : ∃ ao cap, v = .slice ao l.length cap ∧ l.length ≤ cap ∧ cap ≤ maxLen := Own.shape h.row
/-- a row, opened -/
theorem Row.open {w : World} {v : Value} {l : List α} (h : Row K w v l) (hlen : ∀ x ∈ l, (K.cells x).length = K.size) (hne : 0 < l.length) (hs : 0 < K.size) :
    ∃ g c, v = .slice (some ⟨g, 0, none⟩) l.length (c + 1) ∧ l.length ≤ c + 1 ∧ c + 1 ≤ maxLen ∧ g < w.heap.size ∧ (∀ k (hk : k < l.length) j u, (K.cells l[k])[j]? = some u → w.cell? ⟨g, k * K.size + j, none⟩ = some u) := by
  have hr := Own.reads h.row
  rcases h.row.2 with ⟨ao', h1, h2⟩ | ⟨g, c, cs, h1, h2, h3, h4, h5, h6⟩
  · omega
  · subst h1
    obtain ⟨-, ao', cap', h7, -, -, h8⟩ := hr
    simp only [Value.slice.injEq, true_and] at h7
    obtain ⟨rfl, rfl⟩ := h7
    have hfl := flat_len K.cells K.size l hlen
    obtain ⟨b, off, h9, hc⟩ := h8 (by
      intro e
      rw [e] at hfl
      have : 0 < l.length * K.size := Nat.mul_pos hne hs
      simp at hfl
      omega)
    simp only [Option.some.injEq, Addr.mk.injEq, and_true] at h9
    obtain ⟨rfl, rfl⟩ := h9
    refine ⟨g, c, rfl, h3, h4, h2.lt, fun k hk j u hu => ?_⟩
    have hj : j < K.size := by
      have := (List.getElem?_eq_some_iff.1 hu).1
      rwa [hlen _ (List.getElem_mem hk)] at this
    have := hc (k * K.size + j) u (by rw [flat_mem K.cells K.size l hlen k hk j hj]; exact hu)
    rwa [Nat.zero_add] at this
/-- append of an item onto a row -/
theorem Row.append {w : World} {v : Value} {l : List α} (hown : Own w K.t K.size v l.length (l.flatMap K.cells)) {ts : TypeId} {z : Value} {by_ : Nat} (hu : Try.prog.underlying ts = some (.slice K.t)) (hi : (Try.prog.info? K.t).map (fun i => (i.zero, i.size, i.bytes)) = some (some z, K.size, by_))
    (hz : z.cells.size = K.size) (hby : by_ ≤ 64) {vx : Value} {x : α} (hm : Reads w K.size vx 1 (K.cells x)) (hx : ∀ u ∈ K.cells x, u.oneCell' = true) (hfit : l.length ≤ 1099511627776) (ty : TypeId) :
    ∃ ao cap w', (Builtin.append_ #[ts, ts] ty #[v, vx]).run Try.prog w = .ok (.slice ao (l.length + 1) cap) w' ∧ Own w' K.t K.size (.slice ao (l.length + 1) cap) (l ++ [x]).length ((l ++ [x]).flatMap K.cells) ∧ Step (inFoot v) w (inFoot (.slice ao (l.length + 1) cap)) w' := by
  obtain ⟨i, hi, hz', h1, h2⟩ := info_parts hi
  obtain ⟨v', w', hr, h3, h4, h5⟩ := run_append (P := Try.prog) w ts ts ty K.t i z K.size by_ hu hi hz' h1 h2 hz v l.length _ hown vx 1 (K.cells x) (Reads.src (P := Try.prog) hm hu hx)
    (by unfold maxLen; omega) (by
      have : (l.length + 1) * by_ ≤ (l.length + 1) * 64 := Nat.mul_le_mul_left _ hby
      omega)
  obtain ⟨ao, cap, rfl, h6, h7⟩ := h3.shape
  refine ⟨ao, cap, w', hr, ?_, h4, h5⟩
  rw [List.length_append, List.flatMap_append]
  simpa using h3
end
/-- a list of values, read as one element -/
theorem Reads.item (w : World) (cs : List Value) (t : TypeId) (n : Nat) (hn : cs.length = n) : Reads (w.alloc (.cells cs.toArray t (0, 0))) n (.slice (some ⟨w.heap.size, 0, none⟩) 1 1) 1 cs :=
  ⟨by omega, _, _, rfl, Nat.le_refl _, by simp [maxLen], fun _ => ⟨_, _, rfl, fun j u hu => by rw [Nat.zero_add]; exact (At.new w cs t).cell j hu⟩⟩
end Go.Proofs.Ytnppneilbkmnfaa
namespace Go.Proofs.Ytnppneilbkmnfaa
open Go.RowKit

/-! ### a call, field by field -/
def addF (s : Nm) (b : List UInt8) (l : List FileM) : List FileM := match findK FileM.nm s l with | some f => putK FileM.nm ⟨s, f.b ++ b, f.sy⟩ l | none => putK FileM.nm ⟨s, b, 0⟩ l
def syncF (s : Nm) (l : List FileM) : List FileM := match findK FileM.nm s l with | some f => putK FileM.nm ⟨s, f.b, f.b.length⟩ l | none => l
def cutF (s : Nm) (n : Nat) (l : List FileM) : List FileM := match findK FileM.nm s l with | some f => putK FileM.nm ⟨s, f.b.take n, n⟩ l | none => l
namespace OpD
def nm (o : OpD) : Nm := o.s.data.toList
/-- what a call does to the files -/
def act (o : OpD) (B : List UInt8) (l : List FileM) : List FileM :=
  if o.K = 1 then addF o.nm B l else if o.K = 2 then syncF o.nm l else if o.K = 3 then putK FileM.nm ⟨o.nm, B, B.length⟩ l else if o.K = 4 then cutF o.nm o.N.toNat l else delK FileM.nm o.nm l
end OpD
/-- what stands against a call -/
def Dk.asks (D : Dk) (o : OpD) (B : List UInt8) : Int :=
  if o.K = 1 then (if D.refuse o.nm ≠ 0 then D.refuse o.nm else if D.room o.nm (D.size o.nm + B.length) then 0 else 62)
  else if o.K = 2 then D.seek o.nm
  else if o.K = 3 then (if D.refuse o.nm ≠ 0 then D.refuse o.nm else if D.room o.nm B.length then 0 else 62)
  else if o.K = 4 then (if D.seek o.nm ≠ 0 then D.seek o.nm else if o.N < 0 ∨ (D.size o.nm : Int) < o.N then 2 else 0)
  else D.seek o.nm
theorem Dk.addTo_eq (D : Dk) (s : Nm) (b : List UInt8) : D.addTo s b = { D with fs := addF s b D.fs } := by
  unfold Dk.addTo addF Dk.find
  cases findK FileM.nm s D.fs <;> rfl
theorem Dk.syncIt_eq (D : Dk) (s : Nm) : D.syncIt s = { D with fs := syncF s D.fs } := by
  unfold Dk.syncIt syncF Dk.find
  cases findK FileM.nm s D.fs <;> rfl
theorem Dk.cutTo_eq (D : Dk) (s : Nm) (n : Nat) : D.cutTo s n = { D with fs := cutF s n D.fs } := by
  unfold Dk.cutTo cutF Dk.find
  cases findK FileM.nm s D.fs <;> rfl
/-- a call of the kinds that are numbered -/
theorem does_num (D : Dk) (o : OpD) (B : List UInt8) (h : 1 ≤ o.K ∧ o.K ≤ 5) : D.does o B = if D.asks o B ≠ 0 then (D, D.asks o B) else D.num fun E => { E with fs := o.act B E.fs } := by
  have h5 : o.K = 1 ∨ o.K = 2 ∨ o.K = 3 ∨ o.K = 4 ∨ o.K = 5 := by omega
  unfold Dk.does Dk.asks OpD.act
  rcases h5 with e | e | e | e | e <;> simp only [e, if_pos, show ¬ (2 : Int) = 1 by omega, show ¬ (3 : Int) = 1 by omega, show ¬ (3 : Int) = 2 by omega, show ¬ (4 : Int) = 1 by omega, show ¬ (4 : Int) = 2 by omega, show ¬ (4 : Int) = 3 by omega, show ¬ (5 : Int) = 1 by omega, show ¬ (5 : Int) = 2 by omega, show ¬ (5 : Int) = 3 by omega, show ¬ (5 : Int) = 4 by omega]
  · have e1 : Dk.addTo o.s.data.toList B = fun E : Dk => { E with fs := addF o.nm B E.fs } := funext fun E => Dk.addTo_eq E _ _
    unfold Dk.append
    rw [e1]
    unfold OpD.nm
    by_cases h1 : D.refuse o.s.data.toList = 0
    · simp only [h1, ne_eq, not_true, if_false]
      by_cases h2 : D.room o.s.data.toList (D.size o.s.data.toList + B.length) = true
      · simp [h2]
      · simp [h2]
    · simp [h1]
  · have e1 : Dk.syncIt o.s.data.toList = fun E : Dk => { E with fs := syncF o.nm E.fs } := funext fun E => Dk.syncIt_eq E _
    unfold Dk.sync
    rw [e1]
    rfl
  · unfold Dk.replace
    unfold OpD.nm
    by_cases h1 : D.refuse o.s.data.toList = 0
    · simp only [h1, ne_eq, not_true, if_false]
      by_cases h2 : D.room o.s.data.toList B.length = true
      · simp only [h2, if_true, if_false, not_true]
        rfl
      · simp [h2]
    · simp [h1]
  · have e1 : Dk.cutTo o.s.data.toList o.N.toNat = fun E : Dk => { E with fs := cutF o.nm o.N.toNat E.fs } := funext fun E => Dk.cutTo_eq E _ _
    unfold Dk.cut
    rw [e1]
    unfold OpD.nm
    by_cases h1 : D.seek o.s.data.toList = 0
    · simp only [h1, ne_eq, not_true, if_false]
      by_cases h2 : o.N < 0 ∨ (D.size o.s.data.toList : Int) < o.N
      · simp [h2]
      · simp [h2]
    · simp [h1]
  · unfold Dk.remove
    rfl
theorem does_arm (D : Dk) (o : OpD) (B : List UInt8) (h : o.K = 11) : D.does o B = D.arm o.t0 o.t1 o.t2 := by
  unfold Dk.does
  rw [h]
  simp
theorem does_else (D : Dk) (o : OpD) (B : List UInt8) (h : ¬ (1 ≤ o.K ∧ o.K ≤ 5)) (h2 : o.K ≠ 11) : D.does o B = (D, 0) := by
  unfold Dk.does
  rw [if_neg (by omega), if_neg (by omega), if_neg (by omega), if_neg (by omega), if_neg (by omega), if_neg h2]

/-! ### what stands against it -/
theorem refuse_same {D E : Dk} (h : D.off = E.off) (s : Nm) : D.refuse s = E.refuse s := by unfold Dk.refuse; rw [h]
theorem find_same {D E : Dk} (h : D.fs = E.fs) (s : Nm) : D.find s = E.find s := by unfold Dk.find; rw [h]
theorem size_same {D E : Dk} (h : D.fs = E.fs) (s : Nm) : D.size s = E.size s := by unfold Dk.size; rw [find_same h]
theorem seek_same {D E : Dk} (h : D.off = E.off) (h2 : D.fs = E.fs) (s : Nm) : D.seek s = E.seek s := by unfold Dk.seek; rw [refuse_same h, find_same h2]
theorem room_same {D E : Dk} (h : D.fs = E.fs) (h2 : D.lim = E.lim) (s : Nm) (n : Nat) : D.room s n = E.room s n := by unfold Dk.room Dk.used; rw [size_same h, find_same h, h, h2]
theorem asks_same {D E : Dk} (h : D.off = E.off) (h2 : D.fs = E.fs) (h3 : D.lim = E.lim) (o : OpD) (B : List UInt8) : D.asks o B = E.asks o B := by
  unfold Dk.asks
  rw [refuse_same h, seek_same h h2, size_same h2, room_same h2 h3, room_same h2 h3]
theorem refuse_off {D : Dk} (h : D.off = true) (s : Nm) : D.refuse s = 63 := by unfold Dk.refuse; rw [h]; rfl
theorem seek_off {D : Dk} (h : D.off = true) (s : Nm) : D.seek s = 63 := by rw [seek_refused (by rw [refuse_off h]; omega), refuse_off h]
theorem asks_off {D : Dk} (h : D.off = true) (o : OpD) (B : List UInt8) : D.asks o B = 63 := by
  unfold Dk.asks
  rw [refuse_off h, seek_off h]
  simp
theorem refuse_on {D : Dk} (h : D.off = false) (s : Nm) : D.refuse s = 0 ∨ D.refuse s = 60 := by
  unfold Dk.refuse
  rw [h]
  cases nmOk s <;> simp
theorem seek_on {D : Dk} (h : D.off = false) (s : Nm) : D.seek s = 0 ∨ D.seek s = 60 ∨ D.seek s = 61 := by
  unfold Dk.seek
  rcases refuse_on h s with e | e <;> rw [e]
  · cases (D.find s).isSome <;> simp
  · simp
theorem asks_on {D : Dk} (h : D.off = false) (o : OpD) (B : List UInt8) : D.asks o B ≠ 63 ∧ D.asks o B ≠ 64 := by
  have h1 := refuse_on h o.nm
  have h2 := seek_on h o.nm
  unfold Dk.asks
  repeat' split
  all_goals omega
/-- where the power is off -/
theorem does_off {D : Dk} (h : D.off = true) (o : OpD) (B : List UInt8) : D.does o B = (D, if (1 ≤ o.K ∧ o.K ≤ 5) ∨ o.K = 11 then 63 else 0) := by
  by_cases h1 : 1 ≤ o.K ∧ o.K ≤ 5
  · rw [does_num D o B h1, asks_off h, if_pos (by omega), if_pos (.inl h1)]
  · by_cases h2 : o.K = 11
    · rw [does_arm D o B h2, if_pos (.inr h2)]
      unfold Dk.arm
      rw [h]
      rfl
    · rw [does_else D o B h1 h2, if_neg (by omega)]

/-! ### numbers and troubles -/
theorem tick_arms (D : Dk) : D.tick.arms.length ≤ D.arms.length := List.length_filter_le ..
theorem num_grows (D : Dk) (g : List FileM → List FileM) : (D.num fun E => { E with fs := g E.fs }).1.calls = D.calls + 1 ∧ (D.num fun E => { E with fs := g E.fs }).1.arms.length ≤ D.arms.length ∧ (D.num fun E => { E with fs := g E.fs }).1.out = D.out ∧ (D.num fun E => { E with fs := g E.fs }).1.lim = D.lim := by
  have ht := tick_arms D
  unfold Dk.num
  split
  · exact ⟨rfl, ht, rfl, rfl⟩
  · split
    · exact ⟨rfl, ht, rfl, rfl⟩
    · split <;> exact ⟨rfl, ht, rfl, rfl⟩
theorem does_grows (D : Dk) (o : OpD) (B : List UInt8) : (D.does o B).1.calls ≤ D.calls + 1 ∧ (D.does o B).1.arms.length ≤ D.arms.length + 1 ∧ (D.does o B).1.out = D.out ∧ (D.does o B).1.lim = D.lim := by
  by_cases h1 : 1 ≤ o.K ∧ o.K ≤ 5
  · rw [does_num D o B h1]
    split
    · exact ⟨by simp, by simp, rfl, rfl⟩
    · have := num_grows D (o.act B)
      exact ⟨by omega, by omega, this.2.2⟩
  · by_cases h2 : o.K = 11
    · rw [does_arm D o B h2]
      unfold Dk.arm
      repeat' split
      all_goals simp
    · rw [does_else D o B h1 h2]
      simp
/-- where nothing is armed -/
theorem num_calm {D : Dk} (h : D.arms = []) (act : Dk → Dk) : D.num act = (act D.tick, 0) := by
  unfold Dk.num Dk.hit
  rw [h]
  rfl
theorem tick_calm {D : Dk} (h : D.arms = []) : D.tick = { D with calls := D.calls + 1 } := by
  unfold Dk.tick
  rw [h]
  rw [show ([] : List ArmM).filter _ = [] from rfl, ← h]
theorem does_calm {D : Dk} (h : D.arms = []) (o : OpD) (B : List UInt8) (hK : o.K ≠ 11) :
    D.does o B = if 1 ≤ o.K ∧ o.K ≤ 5 then (if D.asks o B ≠ 0 then (D, D.asks o B) else ({ D with fs := o.act B D.fs, calls := D.calls + 1 }, 0)) else (D, 0) := by
  by_cases h1 : 1 ≤ o.K ∧ o.K ≤ 5
  · rw [does_num D o B h1, if_pos h1, num_calm h, tick_calm h]
  · rw [does_else D o B h1 hK, if_neg h1]

/-! ### what is safe -/
def SafeAt (l : List FileM) (s : Nm) (b : List UInt8) : Prop := ∃ f ∈ l, f.nm = s ∧ b <+: f.b.take f.sy
theorem mem_putK {l : List FileM} (h : Rises FileM.nm l) (x : FileM) {y : FileM} (hy : y ∈ l) (hn : y.nm ≠ x.nm) : y ∈ putK FileM.nm x l := by
  rcases putK_part FileM.nm h x with ⟨A, a, B, _, rfl, e, hA, hB, ha⟩ | ⟨A, B, _, rfl, e, hA, hB⟩ <;> rw [e]
  · simp only [List.mem_append, List.mem_cons] at hy ⊢
    rcases hy with hy | rfl | hy
    · exact .inl hy
    · exact absurd ha hn
    · exact .inr (.inr hy)
  · simp only [List.mem_append, List.mem_cons] at hy ⊢
    rcases hy with hy | hy
    · exact .inl hy
    · exact .inr (.inr hy)
theorem self_putK {l : List FileM} (h : Rises FileM.nm l) (x : FileM) : x ∈ putK FileM.nm x l := by
  rcases putK_part FileM.nm h x with ⟨A, a, B, _, rfl, e, hA, hB, ha⟩ | ⟨A, B, _, rfl, e, hA, hB⟩ <;> rw [e] <;> simp
theorem mem_delK {l : List FileM} (s : Nm) {y : FileM} (hy : y ∈ l) (hn : y.nm ≠ s) : y ∈ delK FileM.nm s l := by
  unfold delK
  rw [List.mem_filter]
  exact ⟨hy, by simpa using hn⟩
theorem rises_one {l : List FileM} (h : Rises FileM.nm l) {f g : FileM} (hf : f ∈ l) (hg : g ∈ l) (e : f.nm = g.nm) : f = g := by
  have h1 := findK_mem FileM.nm h hf
  have h2 := findK_mem FileM.nm h hg
  rw [e, h2] at h1
  exact (Option.some.inj h1).symm
/-- a call leaves what is safe of other files; of its own too, where it appends or syncs -/
theorem act_safe {l : List FileM} (h : Rises FileM.nm l) (hsy : ∀ f ∈ l, f.sy ≤ f.b.length) (o : OpD) (B : List UInt8) {s : Nm} {b : List UInt8} (hs : SafeAt l s b) (hn : s ≠ o.nm ∨ o.K = 1 ∨ o.K = 2) : SafeAt (o.act B l) s b := by
  obtain ⟨f, hf, rfl, hb⟩ := hs
  have hput : ∀ x : FileM, x.nm = o.nm → (f.nm = o.nm → f.b.take f.sy <+: x.b.take x.sy) → SafeAt (putK FileM.nm x l) f.nm b := by
    intro x hx hp
    by_cases e : f.nm = o.nm
    · exact ⟨x, self_putK h x, by rw [hx, e], hb.trans (hp e)⟩
    · exact ⟨f, mem_putK h x hf (by rw [hx]; exact e), rfl, hb⟩
  unfold OpD.act
  split
  · unfold addF
    cases hq : findK FileM.nm o.nm l with
    | none => exact hput _ rfl fun e => absurd e ((findK_none FileM.nm o.nm l).1 hq f hf)
    | some g =>
      refine hput _ rfl fun e => ?_
      obtain ⟨hg, hgn⟩ := findK_some FileM.nm hq
      obtain rfl := rises_one h hf hg (e.trans hgn.symm)
      rw [List.take_append_of_le_length (hsy f hf)]
      exact List.prefix_rfl
  split
  · unfold syncF
    cases hq : findK FileM.nm o.nm l with
    | none => exact ⟨f, hf, rfl, hb⟩
    | some g =>
      refine hput _ rfl fun e => ?_
      obtain ⟨hg, hgn⟩ := findK_some FileM.nm hq
      obtain rfl := rises_one h hf hg (e.trans hgn.symm)
      rw [List.take_length]
      exact List.take_prefix ..
  have hn : f.nm ≠ o.nm := by
    rcases hn with hn | hn
    · exact hn
    · omega
  split
  · exact hput _ rfl fun e => absurd e hn
  split
  · unfold cutF
    cases hq : findK FileM.nm o.nm l with
    | none => exact ⟨f, hf, rfl, hb⟩
    | some g => exact hput _ rfl fun e => absurd e hn
  · exact ⟨f, mem_delK _ hf hn, rfl, hb⟩
/-- a crash leaves what is safe -/
theorem left_safe {f : FileM} {b : List UInt8} (hb : b <+: f.b.take f.sy) (k : Nat) (junk : UInt8) : b <+: Dk.left f k junk := by
  unfold Dk.left
  split
  · exact hb
  · refine hb.trans (List.IsPrefix.trans ?_ (List.prefix_append ..))
    exact List.take_prefix_take_left (by omega)
theorem kept_le (keep : List Int) (i : Nat) (f : FileM) : Dk.kept keep i f ≤ f.b.length - f.sy := by
  unfold Dk.kept
  split
  · exact Nat.min_le_right ..
  · omega
/-- the bytes of a file, where it is synced, replaced or cut -/
theorem act_bytes {l : List FileM} (h : Rises FileM.nm l) (o : OpD) (B : List UInt8) (hK : o.K = 2 ∨ o.K = 3 ∨ o.K = 4) (hf : o.K = 3 ∨ ∃ f, findK FileM.nm o.nm l = some f) : ∃ f, findK FileM.nm o.nm (o.act B l) = some f ∧ f ∈ o.act B l ∧ f.nm = o.nm ∧ f.b.take f.sy = f.b := by
  have hput : ∀ x : FileM, x.nm = o.nm → x.b.take x.sy = x.b → ∃ f, findK FileM.nm o.nm (putK FileM.nm x l) = some f ∧ f ∈ putK FileM.nm x l ∧ f.nm = o.nm ∧ f.b.take f.sy = f.b := by
    intro x hx hb
    refine ⟨x, ?_, self_putK h x, hx, hb⟩
    rw [← hx]
    exact findK_put_same FileM.nm h x
  unfold OpD.act
  rw [if_neg (by omega)]
  split
  · obtain ⟨f, hf⟩ := hf.resolve_left (by omega)
    unfold syncF
    rw [hf]
    exact hput _ rfl (by simp)
  split
  · exact hput _ rfl (by simp)
  · rw [if_pos (by omega)]
    obtain ⟨f, hf⟩ := hf.resolve_left (by omega)
    unfold cutF
    rw [hf]
    exact hput _ rfl (by simp [List.take_take])
end Go.Proofs.Ytnppneilbkmnfaa
namespace Go.Proofs.Ytnppneilbkmnfaa
open Go.RowKit

/-- an item of the book -/
structure SI where
  nm : Nm
  b : List UInt8
  op : Bool
  v : Value
def SI.cells (x : SI) : List Value := [encS x.nm, x.v, .bool x.op]
def offL (l : List SI) (s : Nm) : List SI := l.filter fun x => !(x.nm == s)
def noteL (l : List SI) (y : SI) : List SI := offL l y.nm ++ [y]
def openL (l : List SI) (s : Nm) : List SI := l.map fun x => if x.nm == s then { x with op := true } else x
def SafeOk (D : Dk) (l : List SI) : Prop := ∀ x ∈ l, x.op = true ∨ SafeAt D.fs x.nm x.b

theorem num_fs (D : Dk) (g : List FileM → List FileM) :
    (((D.num fun E => { E with fs := g E.fs }).2 = 0 ∧ (D.num fun E => { E with fs := g E.fs }).1.fs = g D.fs ∧ (D.num fun E => { E with fs := g E.fs }).1.off = D.off) ∨
     ((D.num fun E => { E with fs := g E.fs }).2 = 64 ∧ (D.num fun E => { E with fs := g E.fs }).1.fs = D.fs ∧ (D.num fun E => { E with fs := g E.fs }).1.off = D.off) ∨
     ((D.num fun E => { E with fs := g E.fs }).2 = 63 ∧ ((D.num fun E => { E with fs := g E.fs }).1.fs = g D.fs ∨ (D.num fun E => { E with fs := g E.fs }).1.fs = D.fs) ∧ (D.num fun E => { E with fs := g E.fs }).1.off = true)) := by
  unfold Dk.num
  split
  · exact .inl ⟨rfl, rfl, rfl⟩
  · split
    · exact .inr (.inl ⟨rfl, rfl, rfl⟩)
    · refine .inr (.inr ⟨rfl, ?_, rfl⟩)
      split
      · exact .inl rfl
      · exact .inr rfl
theorem off_safe {D E : Dk} {l : List SI} {s : Nm} (h : SafeOk D l) (hs : ∀ (t : Nm) (b : List UInt8), t ≠ s → SafeAt D.fs t b → SafeAt E.fs t b) : SafeOk E (offL l s) := by
  intro x hx
  have hx := List.mem_filter.1 hx
  have hn : x.nm ≠ s := by simpa using hx.2
  exact (h x hx.1).imp id (hs x.nm x.b hn)
theorem open_safe {D E : Dk} {l : List SI} {s : Nm} (h : SafeOk D l) (hs : ∀ (t : Nm) (b : List UInt8), t ≠ s → SafeAt D.fs t b → SafeAt E.fs t b) : SafeOk E (openL l s) := by
  intro y hy
  obtain ⟨x, hx, rfl⟩ := List.mem_map.1 hy
  by_cases hn : x.nm = s
  · rw [if_pos (by simpa using hn)]
    exact .inl rfl
  · rw [if_neg (by simpa using hn)]
    exact (h x hx).imp id (hs x.nm x.b hn)
theorem note_safe {D E : Dk} {l : List SI} {y : SI} (h : SafeOk D l) (hs : ∀ (t : Nm) (b : List UInt8), t ≠ y.nm → SafeAt D.fs t b → SafeAt E.fs t b) (hy : SafeAt E.fs y.nm y.b) : SafeOk E (noteL l y) := by
  intro x hx
  rcases List.mem_append.1 hx with hx | hx
  · exact off_safe h hs x hx
  · rw [List.mem_singleton] at hx
    subst hx
    exact .inr hy
theorem safe_same {D E : Dk} {l : List SI} (h : SafeOk D l) (e : E.fs = D.fs) : SafeOk E l := by
  unfold SafeOk at *
  rw [e]
  exact h
/-- what a call leaves of the book -/
structure SafeStep (D E : Dk) (r : Int) (o : OpD) (l : List SI) : Prop where
  other : r ≠ 0 → r ≠ 63 → SafeOk E l
  lost : r = 63 → SafeOk E (openL l o.nm) ∧ ((o.K ≠ 3 ∧ o.K ≠ 4 ∧ o.K ≠ 5) → SafeOk E l)
  gone : r = 0 → o.K = 5 → SafeOk E (offL l o.nm)
  kept : r = 0 → (o.K = 2 ∨ o.K = 3 ∨ o.K = 4) → E.seek o.nm = 0 ∧ ∀ v, SafeOk E (noteL l ⟨o.nm, E.bytes o.nm, false, v⟩)
  done : r = 0 → (o.K ≠ 2 ∧ o.K ≠ 3 ∧ o.K ≠ 4 ∧ o.K ≠ 5) → SafeOk E l
theorem asks_find {D : Dk} {o : OpD} {B : List UInt8} (h : D.asks o B = 0) (hK : o.K = 2 ∨ o.K = 3 ∨ o.K = 4) : D.refuse o.nm = 0 ∧ (o.K = 3 ∨ ∃ f, D.find o.nm = some f) := by
  unfold Dk.asks at h
  rcases hK with e | e | e <;> simp only [e] at h ⊢
  · have := seek_zero (D := D) (s := o.nm) (by simpa using h)
    exact ⟨this.1, .inr this.2⟩
  · refine ⟨?_, .inl trivial⟩
    by_cases hr : D.refuse o.nm = 0
    · exact hr
    · simp [hr] at h
  · by_cases hr : D.seek o.nm = 0
    · have := seek_zero hr
      exact ⟨this.1, .inr this.2⟩
    · simp [hr] at h
theorem safe_step {D : Dk} (hw : D.Wf) (hon : D.off = false) (o : OpD) (B : List UInt8) {l : List SI} (h : SafeOk D l) : SafeStep D (D.does o B).1 (D.does o B).2 o l := by
  by_cases h1 : 1 ≤ o.K ∧ o.K ≤ 5
  · rw [does_num D o B h1]
    by_cases ha : D.asks o B = 0
    · rw [if_neg (by omega)]
      have hact := fun (t : Nm) (b : List UInt8) (hn : t ≠ o.nm) (hs : SafeAt D.fs t b) => act_safe hw.rises hw.synced o B hs (.inl hn)
      have hact2 := fun (hk : o.K = 1 ∨ o.K = 2) (t : Nm) (b : List UInt8) (hs : SafeAt D.fs t b) => act_safe hw.rises hw.synced o B hs (.inr hk)
      obtain ⟨e, hf, ho⟩ | ⟨e, hf, ho⟩ | ⟨e, hf, ho⟩ := num_fs D (o.act B)
      · generalize (D.num fun E => { E with fs := o.act B E.fs }) = R at *
        refine ⟨fun h0 => absurd e h0, fun h0 => by omega, fun _ _ => off_safe h (by rw [hf]; exact hact), fun _ hK => ?_, fun _ hK => ?_⟩
        · obtain ⟨hr, hfi⟩ := asks_find ha hK
          obtain ⟨f, hf1, hf2, hf3, hf4⟩ := act_bytes hw.rises o B hK hfi
          rw [← hf] at hf1 hf2
          have hs : R.1.seek o.nm = 0 := seek_some (by rw [refuse_same ho]; exact hr) hf1
          refine ⟨hs, fun v => note_safe h (by rw [hf]; exact hact) ⟨f, hf2, hf3, ?_⟩⟩
          have hb : R.1.bytes o.nm = f.b := by
            unfold Dk.bytes
            rw [if_pos hs]
            unfold Dk.find
            rw [hf1]
          show R.1.bytes o.nm <+: _
          rw [hb, hf4]
          exact List.prefix_rfl
        · intro x hx
          refine (h x hx).imp id fun hs => ?_
          rw [hf]
          exact hact2 (by omega) _ _ hs
      · generalize (D.num fun E => { E with fs := o.act B E.fs }) = R at *
        exact ⟨fun _ _ => safe_same h hf, fun h0 => by omega, fun h0 => by omega, fun h0 => by omega, fun h0 => by omega⟩
      · generalize (D.num fun E => { E with fs := o.act B E.fs }) = R at *
        refine ⟨fun _ h0 => absurd e h0, fun _ => ⟨open_safe h ?_, fun hK => ?_⟩, fun h0 => by omega, fun h0 => by omega, fun h0 => by omega⟩
        · intro t b hn hs
          rcases hf with hf | hf <;> rw [hf]
          · exact hact t b hn hs
          · exact hs
        · intro x hx
          refine (h x hx).imp id fun hs => ?_
          rcases hf with hf | hf <;> rw [hf]
          · exact hact2 (by omega) _ _ hs
          · exact hs
    · rw [if_pos ha]
      have := asks_on hon o B
      exact ⟨fun _ _ => h, fun h0 => absurd h0 this.1, fun h0 => absurd h0 ha, fun h0 => absurd h0 ha, fun h0 => absurd h0 ha⟩
  · by_cases h2 : o.K = 11
    · rw [does_arm D o B h2]
      have hfs : (D.arm o.t0 o.t1 o.t2).1.fs = D.fs := by
        unfold Dk.arm
        repeat' split
        all_goals rfl
      have h63 : (D.arm o.t0 o.t1 o.t2).2 ≠ 63 := by
        unfold Dk.arm
        rw [hon]
        repeat' split
        all_goals simp_all
      exact ⟨fun _ _ => safe_same h hfs, fun h0 => absurd h0 h63, fun _ _ => by omega, fun _ _ => by omega, fun _ _ => safe_same h hfs⟩
    · rw [does_else D o B h1 h2]
      exact ⟨fun h0 => absurd rfl h0, fun h0 => by simp at h0, fun _ _ => by omega, fun _ _ => by omega, fun _ _ => h⟩
/-- what a crash finds of the book -/
theorem safe_end {D : Dk} (hout : D.out = false) {l : List SI} (h : SafeOk D l) (keep : List Int) (junk : UInt8) {x : SI} (hx : x ∈ l) (ho : x.op = false) : ∃ (j : Nat) (p : Nm × List UInt8), (D.told keep junk)[j]? = some p ∧ p.1 = x.nm ∧ x.b <+: p.2 := by
  obtain ⟨f, hf, hn, hb⟩ := (h x hx).resolve_left (by rw [ho]; simp)
  obtain ⟨j, hj, he⟩ := List.mem_iff_getElem.1 hf
  have hget : D.fs[j]? = some f := by rw [← he]; exact List.getElem?_eq_getElem hj
  refine ⟨j, (f.nm, Dk.left f (Dk.kept keep j f) junk), ?_, hn, left_safe hb (Dk.kept keep j f) junk⟩
  · unfold Dk.told
    rw [hout]
    exact image_at hget
end Go.Proofs.Ytnppneilbkmnfaa
namespace Go.Proofs.Ytnppneilbkmnfaa
open Go.RowKit

/-- a file as it is told, where its bytes lie -/
structure TI where
  f : FileM
  v : Value
def TI.cells (x : TI) : List Value := [encS x.f.nm, x.v, .int .i64 x.f.sy]
def kTell : RK TI := ⟨74, 3, TI.cells, TI.v, fun x => x.f.b⟩
def Dk.tell (D : Dk) : List FileM := if D.off then [] else D.fs
theorem tell_names (D : Dk) : D.names = D.tell.map FileM.nm := by
  unfold Dk.names Dk.tell
  cases D.off <;> rfl
theorem tell_on {D : Dk} {f : FileM} (h : f ∈ D.tell) : D.off = false ∧ f ∈ D.fs := by
  unfold Dk.tell at h
  cases ho : D.off
  · rw [ho] at h
    exact ⟨rfl, h⟩
  · rw [ho] at h
    cases h
theorem seek_mem {D : Dk} (hw : D.Wf) (ho : D.off = false) {f : FileM} (hf : f ∈ D.fs) : D.seek f.nm = 0 ∧ D.find f.nm = some f := by
  have h1 : D.find f.nm = some f := findK_mem FileM.nm hw.rises hf
  have h2 : D.refuse f.nm = 0 := by
    unfold Dk.refuse
    rw [ho, hw.names f hf]
    rfl
  exact ⟨seek_some h2 h1, h1⟩
theorem disk_wf {w : World} {d : Nat} {D : Dk} {F : Nat → Prop} (h : Disk w d D F) : D.Wf := by
  obtain ⟨mb, av, fbs, h, -⟩ := h
  exact h.wf
theorem read_f (w : World) (d : Nat) (D : Dk) (F : Nat → Prop) (hD : Disk w d D F) {f : FileM} (hf : f ∈ D.tell) :
    Calls Try.prog 29 #[.pointer (some ⟨d, 0, none⟩), .string ⟨f.nm.toArray⟩] w fun e w' => ∃ ao cap, e = .returned (.tuple #[.slice ao f.b.length cap, .int .i64 0]) ∧ OwnB w' (.slice ao f.b.length cap) f.b ∧ Step Nil w (inFoot (.slice ao f.b.length cap)) w' := by
  obtain ⟨ho, hf⟩ := tell_on hf
  have hw := disk_wf hD
  obtain ⟨h1, h2⟩ := seek_mem hw ho hf
  have hn := hw.names f hf
  have := read_m w d D F hD ⟨f.nm.toArray⟩ (by
    rw [encS_size]
    unfold nmOk at hn
    simp only [Bool.and_eq_true, decide_eq_true_eq] at hn
    unfold maxLen
    omega)
  rw [encS_toList, h1] at this
  have hb : D.bytes f.nm = f.b := by unfold Dk.bytes; rw [if_pos h1, h2]
  rw [hb] at this
  exact this
theorem size_f (w : World) (d : Nat) (D : Dk) (F : Nat → Prop) (hD : Disk w d D F) {f : FileM} (hf : f ∈ D.tell) :
    Calls Try.prog 68 #[.pointer (some ⟨d, 0, none⟩), .string ⟨f.nm.toArray⟩] w fun e w' => e = .returned (.tuple #[.int .i64 f.b.length, .int .i64 f.sy, .int .i64 0]) ∧ ∃ n, w' = w.drewN n := by
  obtain ⟨ho, hf⟩ := tell_on hf
  have hw := disk_wf hD
  obtain ⟨h1, h2⟩ := seek_mem hw ho hf
  have hn := hw.names f hf
  have := size_m w d D F hD ⟨f.nm.toArray⟩ (by
    rw [encS_size]
    unfold nmOk at hn
    simp only [Bool.and_eq_true, decide_eq_true_eq] at hn
    unfold maxLen
    omega)
  rw [encS_toList, h1] at this
  have hb : D.bytes f.nm = f.b := by unfold Dk.bytes; rw [if_pos h1, h2]
  have hy : D.synced f.nm = f.sy := by unfold Dk.synced; rw [if_pos h1, h2]
  rw [hb, hy] at this
  exact this
theorem tell_file {D : Dk} (hw : D.Wf) {f : FileM} (hf : f ∈ D.tell) : f.sy ≤ f.b.length ∧ f.b.length ≤ 1073741824 := by
  obtain ⟨-, hf⟩ := tell_on hf
  have := hw.synced f hf
  have := sumF_mem hf
  have := hw.used
  have := hw.lim1
  exact ⟨by omega, by omega⟩
theorem tell_len {D : Dk} (hw : D.Wf) : D.tell.length ≤ 65536 := by
  unfold Dk.tell
  cases D.off
  · exact hw.count
  · simp
theorem tell_rise {D : Dk} (hw : D.Wf) {i : Nat} {f g : FileM} (hf : D.tell[i]? = some f) (hg : D.tell[i + 1]? = some g) : bytesBefore f.nm g.nm = true := by
  unfold Dk.tell at hf hg
  cases ho : D.off
  · rw [ho] at hf hg
    obtain ⟨h1, rfl⟩ := List.getElem?_eq_some_iff.1 hf
    obtain ⟨h2, rfl⟩ := List.getElem?_eq_some_iff.1 hg
    exact List.pairwise_iff_getElem.1 hw.rises _ _ _ _ (Nat.lt_succ_self i)
  · rw [ho] at hf
    simp at hf
theorem not_leq {a b : Nm} (h : bytesBefore a b = true) : Op.bytesLess b a = false ∧ (b == a) = false := by
  have hlq : (Op.bytesLess b a || b == a) = !bytesBefore a b := by rw [less_before]; exact before_leq _ _
  rw [h] at hlq
  exact ⟨by cases h : Op.bytesLess b a <;> simp_all, by cases h : b == a <;> simp_all⟩
theorem info_tell : (Try.prog.info? 74).map (fun i => (i.zero, i.size, i.bytes)) = some (some (.agg #[.string ⟨#[]⟩, .slice none 0 0, .int .i64 0]), 3, 48) := by kernel_rfl

theorem tells_next {w : World} {ua : Option Addr} {uc : Nat} {l : List TI} (h : Row kTell w (.slice ua l.length uc) l) (f : FileM) (v : Value) (hb : Bytes w v f.b) (hk : ∀ k, inFoot v k → k < w.heap.size ∧ ¬ inFoot (.slice ua l.length uc) k) (hv : ∃ ao n cap, v = .slice ao n cap) (hfit : l.length ≤ 65536) (ty : TypeId) :
    ∃ ao cap w', (Builtin.append_ #[70, 70] ty #[.slice ua l.length uc, .slice (some ⟨w.heap.size, 0, none⟩) 1 1]).run Try.prog (w.alloc (.cells #[encS f.nm, v, .int .i64 f.sy] 74 (0, 0))) = .ok (.slice ao (l.length + 1) cap) w' ∧
      Row kTell w' (.slice ao (l.length + 1) cap) (l ++ [⟨f, v⟩]) ∧ Step (inFoot (.slice ua l.length uc)) w (inFoot (.slice ao (l.length + 1) cap)) w' := by
  have e : Ext Nil w (w.alloc (.cells #[encS f.nm, v, .int .i64 f.sy] 74 (0, 0))) := (Ext.refl _ _).alloc _
  obtain ⟨ao, cap, w', hrun, h1, h2⟩ := Row.append (K := kTell) (ts := 70) (h.ext0 e).row Try.underlying70 info_tell rfl (by omega) (x := ⟨f, v⟩) (Reads.item w [encS f.nm, v, .int .i64 f.sy] 74 3 rfl) (by
    intro u hu
    obtain ⟨ao, n, cap, rfl⟩ := hv
    simp only [kTell, TI.cells, List.mem_cons, List.not_mem_nil, or_false] at hu
    rcases hu with rfl | rfl | rfl <;> rfl) (by omega) ty
  refine ⟨ao, cap, w', hrun, ?_, (e.mono fun _ _ h => h.elim).same h2.1, fun k hk => (h2.2 k hk).imp id fun h => Nat.le_trans e.size h⟩
  exact h.snoc e (hb.alloc _) (fun k hq => ⟨Nat.lt_of_lt_of_le (hk k hq).1 e.size, (hk k hq).2⟩) (by simpa using h1) h2

theorem tells_round {L : List FileM} {l : List TI} (h : l.map TI.f = L.take l.length) {f : FileM} (hf : L[l.length]? = some f) (v : Value) : (l ++ [(⟨f, v⟩ : TI)]).map TI.f = L.take (l ++ [(⟨f, v⟩ : TI)]).length := by
  rw [List.map_append, h, List.length_append]
  show _ = L.take (l.length + 1)
  rw [List.take_add_one, hf]
  rfl
/-- all blocks of a row -/
def feet {α : Type} (K : RK α) (v : Value) (l : List α) (k : Nat) : Prop := inFoot v k ∨ ∃ x ∈ l, inFoot (K.pt x) k
theorem feet_nil {α : Type} (K : RK α) (n : Nat) : ∀ k, feet K (.slice none 0 0) [] k → n ≤ k := by
  rintro k (h | ⟨x, hx, -⟩)
  · simp [inFoot, foot] at h
  · cases hx
theorem Row.extF {α : Type} {K : RK α} {F : Nat → Prop} {w w' : World} {v : Value} {l : List α} (h : Row K w v l) (e : Ext F w w') (hf : ∀ k, feet K v l k → ¬ F k) : Row K w' v l :=
  h.ext e (fun k hk => hf k (.inl hk)) fun x hx k hk => hf k (.inr ⟨x, hx, hk⟩)
theorem Row.feet_lt {α : Type} {K : RK α} {w : World} {v : Value} {l : List α} (h : Row K w v l) : ∀ k, feet K v l k → k < w.heap.size := by
  rintro k (hk | ⟨x, hx, hk⟩)
  · exact h.lt k hk
  · exact (h.apart x hx k hk).1
set_option maxRecDepth 20000 in
set_option maxHeartbeats 1000000 in
theorem tells_m (w : World) (d : Nat) (D : Dk) (F : Nat → Prop) (hD : Disk w d D F) :
    Calls Try.prog 34 #[.pointer (some ⟨d, 0, none⟩)] w fun e w' => ∃ v l, e = .returned (.tuple #[v, .bool true]) ∧ Row kTell w' v l ∧ l.map TI.f = D.tell ∧ Ext Nil w w' ∧ ∀ k, feet kTell v l k → w.heap.size ≤ k := by
  have hw := disk_wf hD
  have hNm := names_m w d D F hD
  rw [tell_names, List.length_map] at hNm
  have HNM := Lib.hid hNm; have HD := Lib.hid hD; have HW := Lib.hid hw
  have htl := tell_len hw
  clear hNm hD hw
  go_enter Try.func34, Try.ntmps34
  go_wp2_with (go_at_call 37; refine (HNM.out).mono ?_; rintro e wn ⟨ao, cap, rfl, O, S⟩)
  have hcap : D.tell.length ≤ cap ∧ cap ≤ maxLen := by
    obtain ⟨ao', cap', h1, h2, h3⟩ := O.shape
    simp only [Value.slice.injEq, true_and] at h1
    omega
  have HO := Lib.hid O; have HE := Lib.hid S.1
  clear O S HNM
  go_loopw [5, 6] (fun u i wr => ∃ (l : List TI), i = .int .i64 l.length ∧ Row kTell wr u l ∧ l.map TI.f = D.tell.take l.length ∧ l.length ≤ D.tell.length ∧ Ext Nil wn wr ∧ (∀ k, feet kTell u l k → wn.heap.size ≤ k)) (fun _ i _ => D.tell.length - (intOf i).toNat)
  case atStart => exact ⟨[], rfl, Row.nil _, rfl, Nat.zero_le _, Ext.refl _ _, feet_nil _ _⟩
  case round =>
    obtain ⟨l, rfl, hR, hl, hle, hE, hk⟩ := hrel
    obtain ⟨ua, uc, rfl, hu1, hu2⟩ := hR.shape
    by_cases hlt : l.length < D.tell.length
    · obtain ⟨g, c, rfl, rfl, hn1, hn2, hnm⟩ := names_at HO.out (by omega)
      obtain ⟨f, hf⟩ : ∃ f, D.tell[l.length]? = some f := ⟨_, List.getElem?_eq_getElem hlt⟩
      have hfm := List.mem_of_getElem? hf
      have nmc : wr.cell? ⟨g, l.length, none⟩ = some (.string ⟨f.nm.toArray⟩) := by
        have h1 := hnm l.length (by simpa using hlt)
        rw [List.getElem_map, (List.getElem?_eq_some_iff.1 hf).2] at h1
        exact hE.cell h1 fun h => h
      have hgl := (cell_spot nmc).2
      have hRd := fun W (e : Ext Nil w W) => read_f W d D F (HD.out.ext e fun _ _ h => h) hfm
      have hSz := fun W (e : Ext Nil w W) => size_f W d D F (HD.out.ext e fun _ _ h => h) hfm
      obtain ⟨hs1, hs2⟩ := tell_file HW.out hfm
      have hsi1 : ¬ (f.sy : Int) < 0 := by omega
      have hsi2 : ¬ (f.b.length : Int) < (f.sy : Int) := by omega
      have HRD := Lib.hid hRd; have HSZ := Lib.hid hSz; have HR := Lib.hid hR; have HEW := Lib.hid (HE.out.same hE); have HK := Lib.hid hk; have HF := Lib.hid hf; have HL := Lib.hid hl; have HEN := Lib.hid hE
      clear hRd hSz hR hE hk hfm hl hs1 hs2
      by_cases h0 : l.length = 0
      · have h0' : ¬ (0 : Int) < (l.length : Int) := by omega
        have h0d : decide ((0 : Int) < (l.length : Int)) = false := decide_eq_false h0'
        have h0n : ¬ 0 < l.length := by omega
        have h0b : decide (0 < l.length) = false := decide_eq_false h0n
        clear hnm hf h0
        go_wp2_with fail
        go_quiet (fail)
        go_wp2_with (first
          | (go_at_call 29; refine (HRD.out _ (HEW.out.drewN nq)).mono ?_; rintro e w1 ⟨ba, bc, rfl, O1, S1⟩; have e1 := ((Ext.refl Nil wr).drewN nq).same S1.1; replace nmc := e1.cell nmc fun h => h; have hgl1 := (cell_spot nmc).2; have HE1 := Lib.hid e1; have HO1 := Lib.hid O1; have HS1 := Lib.hid S1; clear e1 O1 S1)
          | (go_at_call 68; refine (HSZ.out _ (HEW.out.same HE1.out)).mono ?_; rintro e w2 ⟨rfl, n2, rfl⟩; replace nmc := ((Ext.refl Nil w1).drewN n2).cell nmc fun h => h; have hgl2 := (cell_spot nmc).2)
          | (go_at_call 18; refine (num_any _ _).mono ?_; rintro e w' ⟨rfl, rfl⟩)
          | (at_builtin; obtain ⟨ao2, cap2, w3, hrun, hR3, hK3⟩ := tells_next (HR.out.ext0 (HE1.out.same ((Ext.refl Nil w1).drewN n2))) f (.slice ba f.b.length bc) (HO1.out.bytes.drewN n2) (fun k hk => ⟨HO1.out.lt k hk, fun hv => by have := (HS1.out.2 k hk).resolve_left fun h => h; have := HR.out.lt k hv; have h3 : (wr.drewN nq).heap.size = wr.heap.size := rfl; omega⟩) ⟨ba, f.b.length, bc, rfl⟩ (by omega) _; refine wpList_append_run rfl (.tmp 76) (.tmp 84) 70 70 rfl _ _ _ rfl rfl hrun ?_; have HR3 := Lib.hid hR3; have HK3 := Lib.hid hK3; clear hR3 hK3 hrun))
        have e13 := (HE1.out.same ((Ext.refl Nil w1).drewN n2))
        have hfin := tells_round HL.out HF.out (.slice ba f.b.length bc)
        refine ⟨⟨l ++ [⟨f, .slice ba f.b.length bc⟩], by simp, by simpa using HR3.out, hfin, by simp; omega, ?_, fun k hk => ?_⟩, by simp [intOf]; omega⟩
        · exact (HEN.out.same e13).trans HK3.out.1 fun i hi hf => by have := HK.out i (.inl hf); omega
        · have hs13 := (HEN.out.same e13).size
          have hs0 := HEN.out.size
          rcases hk with hk | ⟨x, hx, hk⟩
          · rcases HK3.out.2 k hk with h | h
            · exact HK.out k (.inl h)
            · exact Nat.le_trans hs13 h
          · rcases List.mem_append.1 hx with hx | hx
            · exact HK.out k (.inr ⟨x, hx, hk⟩)
            · rw [List.mem_singleton] at hx
              subst hx
              have h1 := (HS1.out.2 k hk).resolve_left fun h => h
              have h2 : (wr.drewN nq).heap.size = wr.heap.size := rfl
              omega
      · obtain ⟨J, hJ⟩ : ∃ J, J = l.length - 1 := ⟨_, rfl⟩
        have hJw : IntKind.i64.wrap ((l.length : Int) - 1) = (J : Int) := by rw [hJ]; exact pred_wrap h0 (by unfold maxLen; omega)
        have hJl : J < D.tell.length := by omega
        have h0' : (0 : Int) < (l.length : Int) := by omega
        have h0d : decide ((0 : Int) < (l.length : Int)) = true := decide_eq_true h0'
        have h0n : 0 < l.length := by omega
        have h0b : decide (0 < l.length) = true := decide_eq_true h0n
        obtain ⟨y, hy⟩ : ∃ y, D.tell[J]? = some y := ⟨_, List.getElem?_eq_getElem hJl⟩
        have cp : wr.cell? ⟨g, J, none⟩ = some (.string ⟨y.nm.toArray⟩) := by
          have h1 := hnm J (by simpa using hJl)
          rw [List.getElem_map, (List.getElem?_eq_some_iff.1 hy).2] at h1
          exact HEN.out.cell h1 fun h => h
        obtain ⟨hl1, hl2⟩ := not_leq (tell_rise HW.out hy (by rw [show J + 1 = l.length by omega]; exact hf))
        clear hnm hf hy h0 hJ
        go_wp2_with fail
        go_quiet (fail)
        go_wp2_with (first
          | (go_at_call 29; refine (HRD.out _ (HEW.out.drewN nq)).mono ?_; rintro e w1 ⟨ba, bc, rfl, O1, S1⟩; have e1 := ((Ext.refl Nil wr).drewN nq).same S1.1; replace nmc := e1.cell nmc fun h => h; have hgl1 := (cell_spot nmc).2; have HE1 := Lib.hid e1; have HO1 := Lib.hid O1; have HS1 := Lib.hid S1; clear e1 O1 S1)
          | (go_at_call 68; refine (HSZ.out _ (HEW.out.same HE1.out)).mono ?_; rintro e w2 ⟨rfl, n2, rfl⟩; replace nmc := ((Ext.refl Nil w1).drewN n2).cell nmc fun h => h; have hgl2 := (cell_spot nmc).2)
          | (go_at_call 18; refine (num_any _ _).mono ?_; rintro e w' ⟨rfl, rfl⟩)
          | (at_builtin; obtain ⟨ao2, cap2, w3, hrun, hR3, hK3⟩ := tells_next (HR.out.ext0 (HE1.out.same ((Ext.refl Nil w1).drewN n2))) f (.slice ba f.b.length bc) (HO1.out.bytes.drewN n2) (fun k hk => ⟨HO1.out.lt k hk, fun hv => by have := (HS1.out.2 k hk).resolve_left fun h => h; have := HR.out.lt k hv; have h3 : (wr.drewN nq).heap.size = wr.heap.size := rfl; omega⟩) ⟨ba, f.b.length, bc, rfl⟩ (by omega) _; refine wpList_append_run rfl (.tmp 76) (.tmp 84) 70 70 rfl _ _ _ rfl rfl hrun ?_; have HR3 := Lib.hid hR3; have HK3 := Lib.hid hK3; clear hR3 hK3 hrun))
        have e13 := (HE1.out.same ((Ext.refl Nil w1).drewN n2))
        have hfin := tells_round HL.out HF.out (.slice ba f.b.length bc)
        refine ⟨⟨l ++ [⟨f, .slice ba f.b.length bc⟩], by simp, by simpa using HR3.out, hfin, by simp; omega, ?_, fun k hk => ?_⟩, by simp [intOf]; omega⟩
        · exact (HEN.out.same e13).trans HK3.out.1 fun i hi hf => by have := HK.out i (.inl hf); omega
        · have hs13 := (HEN.out.same e13).size
          have hs0 := HEN.out.size
          rcases hk with hk | ⟨x, hx, hk⟩
          · rcases HK3.out.2 k hk with h | h
            · exact HK.out k (.inl h)
            · exact Nat.le_trans hs13 h
          · rcases List.mem_append.1 hx with hx | hx
            · exact HK.out k (.inr ⟨x, hx, hk⟩)
            · rw [List.mem_singleton] at hx
              subst hx
              have h1 := (HS1.out.2 k hk).resolve_left fun h => h
              have h2 : (wr.drewN nq).heap.size = wr.heap.size := rfl
              omega
    · have hend : l.map TI.f = D.tell := by rw [hl, List.take_of_length_le (by omega)]
      have hnot : ¬ (l.length : Int) < (D.tell.length : Int) := by omega
      have HR := Lib.hid hR; have HEW := Lib.hid (HE.out.same hE); have HEND := Lib.hid hend; have HKE := Lib.hid (fun k (h : feet kTell (.slice ua l.length uc) l k) => Nat.le_trans HE.out.size (hk k h))
      clear hR hE hk hl hend
      go_wp2_with fail
      go_ret2
      exact ⟨_, rfl, l, HR.out, HEND.out, HEW.out, HKE.out⟩
end Go.Proofs.Ytnppneilbkmnfaa
namespace Go.Proofs.Ytnppneilbkmnfaa
open Go.RowKit

/-- the disk that New or Mount makes -/
noncomputable def openD (lim : Int) (m : Bool) (l : List FI) : Option Dk :=
  if m = true then (if mountE lim l = 0 then some (mntD lim.toNat l) else none) else if lim < 1 ∨ 1073741824 < lim then none else some (Dk.fresh lim.toNat)
noncomputable def livesD (lim : Int) (m : Bool) (l : List FI) : Dk := (openD lim m l).getD (Dk.fresh 4096)
def Dk.Calm (D : Dk) : Prop := D.off = false ∧ D.out = false ∧ D.calls = 0 ∧ D.arms = []
theorem openD_calm {lim : Int} {m : Bool} {l : List FI} {D : Dk} (h : openD lim m l = some D) : D.Calm := by
  unfold openD at h
  split at h
  · split at h
    · obtain rfl := Option.some.inj h
      exact ⟨rfl, rfl, rfl, rfl⟩
    · cases h
  · split at h
    · cases h
    · obtain rfl := Option.some.inj h
      exact ⟨rfl, rfl, rfl, rfl⟩
theorem livesD_calm (lim : Int) (m : Bool) (l : List FI) : (livesD lim m l).Calm := by
  unfold livesD
  cases h : openD lim m l with
  | none => exact ⟨rfl, rfl, rfl, rfl⟩
  | some D => exact openD_calm h
theorem Life.base {w0 w1 w : World} {d : Nat} {D : Dk} (e : Ext Nil w0 w1) (h : Life w1 w d D) : Life w0 w d D := by
  obtain ⟨F, h1, h2, h3⟩ := h
  exact ⟨F, h1, fun k hk => Nat.le_trans e.size (h2 k hk), e.same h3⟩
theorem life_new {w w' : World} {n : Nat} (h : DAt w' (w.heap.size + 1) w.heap.size (.slice none 0 0) [] (Dk.fresh n)) (e : Ext Nil w w') : Life w w' (w.heap.size + 1) (Dk.fresh n) :=
  Life.of_new h (by intro q hq; simp [dbl, footL, foot] at hq; omega) e
/-- what opened answers -/
def Opened (w : World) (r : Option Dk) (e : Ending) (w' : World) : Prop :=
  (r = none ∧ e = .returned (.pointer none) ∧ Ext Nil w w') ∨ (∃ D d, r = some D ∧ e = .returned (.pointer (some ⟨d, 0, none⟩)) ∧ Life w w' d D)

set_option maxRecDepth 20000 in
theorem opened_m (w : World) (lim : Int) (m : Bool) (v : Value) (l : List FI) (h : ImgR w v l) :
    Calls Try.prog 64 #[.agg #[.int .i64 lim, .bool m, v]] w fun e w' => Opened w (openD lim m l) e w' := by
  obtain ⟨-, ao, cap, rfl, -, -, -⟩ := h.row
  have eW : Ext Nil w (w.alloc (.cells #[.int .i64 lim, .bool m, .slice ao l.length cap] 44 (0, 0))) := (Ext.refl _ _).alloc _
  have hW := h.ext eW fun _ _ h => h
  unfold openD
  cases m
  · simp only [Bool.false_eq_true, if_false]
    by_cases hl : lim < 1 ∨ 1073741824 < lim
    · rw [if_pos hl]
      have HL := Lib.hid hl; have EW := Lib.hid eW
      clear hl hW h eW
      go_enter Try.func64, Try.ntmps64
      go_wp2_with (go_at_call 17; refine (new_bad _ lim HL.out).mono ?_; rintro e w' ⟨rfl, rfl⟩)
      go_ret
      exact .inl ⟨rfl, rfl, EW.out⟩
    · rw [if_neg hl]
      obtain ⟨n, rfl⟩ := Int.eq_ofNat_of_zero_le (show 0 ≤ lim by omega)
      have g1 : 1 ≤ n := by omega
      have g2 : n ≤ 1073741824 := by omega
      rw [Int.toNat_natCast]
      have EW := Lib.hid eW
      clear hl hW h eW
      go_enter Try.func64, Try.ntmps64
      go_wp2_with (go_at_call 17; refine (new_at _ n g1 g2).mono ?_; rintro e w3 ⟨rfl, h3, e3⟩; have L3 := Lib.hid (Life.base EW.out (life_new h3 e3)); clear h3 e3)
      go_ret
      exact .inr ⟨_, _, rfl, rfl, by simpa using L3.out⟩
  · simp only [if_true]
    have EW := Lib.hid eW; have HW := Lib.hid hW
    clear hW h eW
    go_enter Try.func64, Try.ntmps64
    go_wp2_with (go_at_call 33; refine (mount_m _ _ l HW.out lim).mono ?_; rintro e w3 (⟨h3, rfl, e3⟩ | ⟨h3, d3, rfl, L3⟩))
    · go_ret
      exact .inl ⟨rfl, rfl, EW.out.same e3⟩
    · have HL3 := Lib.hid (Life.base EW.out L3)
      clear L3
      go_wp2_with fail
      go_ret
      exact .inr ⟨_, _, rfl, rfl, HL3.out⟩

set_option maxRecDepth 20000 in
theorem lives_m (w : World) (lim : Int) (m : Bool) (v : Value) (l : List FI) (h : ImgR w v l) :
    Calls Try.prog 24 #[.agg #[.int .i64 lim, .bool m, v]] w fun e w' => ∃ d, e = .returned (.tuple #[.pointer (some ⟨d, 0, none⟩), .bool true]) ∧ Life w w' d (livesD lim m l) := by
  obtain ⟨-, ao, cap, rfl, -, -, -⟩ := h.row
  have eW : Ext Nil w (w.alloc (.cells #[.int .i64 lim, .bool m, .slice ao l.length cap] 44 (0, 0))) := (Ext.refl _ _).alloc _
  have hO := opened_m _ lim m _ l (h.ext eW fun _ _ h => h)
  have EW := Lib.hid eW; have HO := Lib.hid hO
  clear hO h eW
  unfold livesD
  generalize openD lim m l = r at *
  go_enter Try.func24, Try.ntmps24
  go_wp2_with (go_at_call 64; refine (HO.out).mono ?_; rintro e w3 (⟨rfl, rfl, e3⟩ | ⟨D3, d3, rfl, rfl, L3⟩))
  · go_wp2_with (first
      | (go_at_call 17; refine (new_at _ 4096 (by omega) (by omega)).mono ?_; rintro e w4 ⟨rfl, h4, e4⟩; have L4 := Lib.hid (Life.base (EW.out.same e3) (life_new h4 e4)); clear h4 e4)
      | (go_at_call 18; refine (num_any _ _).mono ?_; rintro e w' ⟨rfl, rfl⟩))
    go_ret2
    exact ⟨_, rfl, L4.out⟩
  · have HL3 := Lib.hid (Life.base EW.out L3)
    clear L3
    go_wp2_with fail
    go_ret2
    exact ⟨_, rfl, HL3.out⟩
end Go.Proofs.Ytnppneilbkmnfaa
namespace Go.Proofs.Ytnppneilbkmnfaa
open Go.RowKit

theorem to_str (w : World) (x : Value) (B : List UInt8) (hx : Bytes w x B) : (convert 31 9 x).run Try.prog w = .ok (.string ⟨B.toArray⟩) w := by
  obtain ⟨ao, cap, rfl, hcap, hmax, hc⟩ := hx.open
  rw [run_convert_bytes_string (P := Try.prog) w 31 9 5 ao B.length cap Try.underlying31 Try.underlying5 Try.underlying9]
  have fold : ∀ (l : List UInt8) (s : ByteArray), (l.map fun b => (b.toNat : Int)).foldl (fun (r : ByteArray) (n : Int) => r.push (UInt8.ofNat n.toNat)) s = ⟨s.data ++ l.toArray⟩ := by
    intro l
    induction l with
    | nil => intro s; simp
    | cons b l ih =>
      intro s
      simp only [List.map_cons, List.foldl_cons]
      rw [ih]
      congr 1
      rw [show UInt8.ofNat ((b.toNat : Int)).toNat = b from by simp]
      simp only [ByteArray.push]
      apply Array.ext'
      simp
  have hl : ∀ a : Addr, ao = some a → (loadCells a B.length).run Try.prog w = .ok ((B.map fun b => (b.toNat : Int)).map (Value.int .u8)).toArray w := by
    intro a ha
    subst ha
    have h := run_firstCells_some (P := Try.prog) w 1 B.length a B.length cap (bvs B) (by simp [bvs]) (fun j u hj => by
      obtain ⟨b, off, hb, hcc⟩ := hc (by intro e; subst e; simp [bvs] at hj)
      simp only [Option.some.injEq] at hb
      subst hb
      have hj' : j < B.length := by
        have := (List.getElem?_eq_some_iff.1 hj).1
        simpa [bvs] using this
      have := hcc j hj'
      have hu : u = .int .u8 (B[j].toNat : Int) := by
        have := (List.getElem?_eq_some_iff.1 hj).2
        rw [← this]
        simp [bvs, bv]
      rw [hu, ← this]
      unfold Addr.add
      split
      · next h0 => subst h0; rfl
      · rfl)
    simp only [Builtin.firstCells, Nat.mul_one] at h
    rw [h]
    simp only [bvs, List.map_map]
    rfl
  cases ao with
  | none =>
    have hB : B = [] := by
      rcases Classical.em (B = []) with h | h
      · exact h
      · obtain ⟨b, off, h2, _⟩ := hc h
        cases h2
    subst hB
    simp [Conv.bytesToString]
    rfl
  | some a =>
    rw [run_bytesToString (P := Try.prog) w a B.length cap _ (hl a rfl), fold]
    simp
theorem prefix_len (A B : List UInt8) : decide (A <+: B) = (B.take A.length == A) := by
  rw [Bool.eq_iff_iff]
  simp only [decide_eq_true_eq, beq_iff_eq]
  rw [List.prefix_iff_eq_take]
  exact eq_comm
set_option maxRecDepth 20000 in
theorem begins_m (w : World) (a b : Value) (A B : List UInt8) (ha : Bytes w a A) (hb : Bytes w b B) :
    Calls Try.prog 31 #[a, b] w fun e w' => e = .returned (.bool (decide (A <+: B))) ∧ ∃ n, w' = w.drewN n := by
  obtain ⟨aa, ca, rfl, ha1, ha2, -⟩ := ha.open
  obtain ⟨ab, cb, rfl, hb1, hb2, -⟩ := hb.open
  by_cases hl : A.length ≤ B.length
  · have hli : (A.length : Int) ≤ (B.length : Int) := by omega
    have hlb : decide (A.length ≤ B.length) = true := decide_eq_true hl
    have s1 := fun n => to_str (w.drewN n) _ _ (ha.drewN n)
    have s2 := fun n => to_str (w.drewN n) _ _ ((hb.take A.length hl).drewN n)
    rw [prefix_len A B]
    clear ha hb
    go_enter Try.func31, Try.ntmps31
    go_wp2_with fail
    go_quiet (fail)
    go_wp2_with fail
    go_ret
    exact ⟨rfl, _, rfl⟩
  · have hli : ¬ (A.length : Int) ≤ (B.length : Int) := by omega
    have hlb : decide (A.length ≤ B.length) = false := decide_eq_false hl
    have hp : decide (A <+: B) = false := decide_eq_false fun h => hl h.length_le
    rw [hp]
    clear ha hb hp
    go_enter Try.func31, Try.ntmps31
    go_wp2_with fail
    go_quiet (fail)
    go_wp2_with fail
    go_ret
    exact ⟨rfl, _, rfl⟩
end Go.Proofs.Ytnppneilbkmnfaa
namespace Go.Proofs.Ytnppneilbkmnfaa
open Go.RowKit

/-- an image whose cells can be read -/
structure ImgV (w : World) (v : Value) (l : List FI) : Prop where
  row : Reads w 2 v l.length (l.flatMap FI.cells)
  bytes : ∀ x ∈ l, Bytes w x.v x.b
theorem ImgR.see {w : World} {v : Value} {l : List FI} (h : ImgR w v l) : ImgV w v l := ⟨h.row, h.bytes⟩
theorem ImgO.see {w : World} {v : Value} {l : List FI} (h : ImgO w v l) : ImgV w v l := ⟨Own.reads h.row, fun x hx => (h.bytes x hx).bytes⟩
theorem ImgV.ext {F : Nat → Prop} {w w' : World} {v : Value} {l : List FI} (h : ImgV w v l) (e : Ext F w w') (hf : ∀ k ∈ ibl v l, ¬ F k) : ImgV w' v l :=
  ⟨h.row.ext e fun k hk => hf k (by simp [ibl, mem_footL, hk]), fun x hx => (h.bytes x hx).ext e fun k hk => hf k (by
    simp only [ibl, List.mem_append, List.mem_flatMap]
    exact .inr ⟨x, hx, mem_footL.2 hk⟩)⟩
theorem ImgV.ext0 {w w' : World} {v : Value} {l : List FI} (h : ImgV w v l) (e : Ext Nil w w') : ImgV w' v l := h.ext e fun _ _ h => h
theorem ImgV.at {w : World} {ao : Option Addr} {n cap : Nat} {l : List FI} (h : ImgV w (.slice ao n cap) l) {k : Nat} {x : FI} (hx : l[k]? = some x) :
    ∃ b off bx cx, ao = some ⟨b, off, none⟩ ∧ x.v = .slice bx x.b.length cx ∧ w.cell? ⟨b, off + k * 2, none⟩ = some (.string ⟨x.nm.toArray⟩) ∧ w.cell? ⟨b, off + k * 2 + 1, none⟩ = some (.slice bx x.b.length cx) ∧ b < w.heap.size ∧ Bytes w (.slice bx x.b.length cx) x.b := by
  have hB := h.bytes x (List.mem_of_getElem? hx)
  obtain ⟨bx, cx, hv, -⟩ := hB.open
  obtain ⟨hi, he⟩ := List.getElem?_eq_some_iff.1 hx
  subst he
  obtain ⟨h1, ao', cap', h0, h2, h3, h4⟩ := h.row
  simp only [Value.slice.injEq] at h0
  obtain ⟨rfl, rfl, rfl⟩ := h0
  obtain ⟨b, off, rfl, hc⟩ := h4 (by intro e; rw [e] at h1; simp at h1; omega)
  have c0 := hc (k * 2) (encS l[k].nm) (fiCells_at l k hi 0 (by omega))
  have c1 := hc (k * 2 + 1) l[k].v (fiCells_at l k hi 1 (by omega))
  rw [hv] at c1 hB
  exact ⟨b, off, bx, cx, rfl, hv, c0, c1, (cell_spot c0).2, hB⟩
theorem ImgV.shape {w : World} {v : Value} {l : List FI} (h : ImgV w v l) : ∃ ao cap, v = .slice ao l.length cap ∧ l.length ≤ cap ∧ cap ≤ maxLen := by
  obtain ⟨-, ao, cap, rfl, h2, h3, -⟩ := h.row
  exact ⟨ao, cap, rfl, h2, h3⟩
theorem take_same {α : Type} {A B : List α} {k : Nat} (h : A.take k = B.take k) {a b : α} (ha : A[k]? = some a) (hb : B[k]? = some b) (e : a = b) : A.take (k + 1) = B.take (k + 1) := by
  rw [List.take_add_one, List.take_add_one, h, ha, hb, e]
theorem pairs_at {l : List FI} {k : Nat} {x : FI} (h : l[k]? = some x) : (l.map FI.pair)[k]? = some (x.nm, x.b) := by rw [List.getElem?_map, h]; rfl
theorem pairs_ne {A B : List FI} {k : Nat} {x y : FI} (hx : A[k]? = some x) (hy : B[k]? = some y) (h : ¬ (x.nm = y.nm ∧ x.b = y.b)) : decide (A.map FI.pair = B.map FI.pair) = false := by
  refine decide_eq_false fun e => h ?_
  have h1 := pairs_at hx
  rw [e, pairs_at hy] at h1
  simp only [Option.some.injEq, Prod.mk.injEq] at h1
  exact ⟨h1.1.symm, h1.2.symm⟩

set_option maxRecDepth 20000 in
set_option maxHeartbeats 1000000 in
theorem sameImage_m (w : World) (va vb : Value) (A B : List FI) (ha : ImgV w va A) (hb : ImgV w vb B) :
    Calls Try.prog 35 #[.agg #[va], .agg #[vb]] w fun e w' => e = .returned (.bool (decide (A.map FI.pair = B.map FI.pair))) ∧ Ext Nil w w' := by
  obtain ⟨aa, ca, rfl, ha1, ha2⟩ := ha.shape
  obtain ⟨ab, cb, rfl, hb1, hb2⟩ := hb.shape
  unfold maxLen at ha2 hb2
  obtain ⟨W, hW⟩ : ∃ W, W = (w.alloc (.cells #[.slice aa A.length ca] 36 (0, 0))).alloc (.cells #[.slice ab B.length cb] 36 (0, 0)) := ⟨_, rfl⟩
  have eW : Ext Nil w W := by rw [hW]; exact ((Ext.refl _ _).alloc _).alloc _
  have k0 : W.cell? ⟨w.heap.size, 0, none⟩ = some (.slice aa A.length ca) := by rw [hW]; exact ((At.new w [.slice aa A.length ca] 36).alloc _).cell 0 rfl
  have k1 : W.cell? ⟨w.heap.size + 1, 0, none⟩ = some (.slice ab B.length cb) := by
    rw [hW]
    have := (At.new (w.alloc (.cells #[.slice aa A.length ca] 36 (0, 0))) [.slice ab B.length cb] 36).cell 0 rfl
    rwa [show (w.alloc (.cells #[.slice aa A.length ca] 36 (0, 0))).heap.size = w.heap.size + 1 by simp] at this
  have hs : w.heap.size + 1 < W.heap.size := by rw [hW]; simp
  have HA := Lib.hid (ha.ext0 eW); have HB := Lib.hid (hb.ext0 eW); have HE := Lib.hid eW; have HK0 := Lib.hid k0; have HK1 := Lib.hid k1; have HS := Lib.hid hs
  clear ha hb eW k0 k1 hs
  by_cases hl : A.length = B.length
  · have HL := Lib.hid hl
    have hl1 : ((A.length : Int) != (B.length : Int)) = false := by rw [hl]; simp
    have hl2 : (A.length != B.length) = false := by rw [hl]; simp
    clear hl
    go_enter Try.func35, Try.ntmps35
    go_wp2_with fail
    rw [← hW]
    clear hW
    go_loopw [5] (fun i wr => ∃ k : Nat, k ≤ A.length ∧ i = .int .i64 k ∧ (∃ n, wr = W.drewN n) ∧ (A.map FI.pair).take k = (B.map FI.pair).take k) (fun i _ => A.length - (intOf i).toNat)
    case atStart => exact ⟨0, Nat.zero_le _, rfl, ⟨0, rfl⟩, rfl⟩
    case round =>
      obtain ⟨k, hk, rfl, ⟨n, rfl⟩, htk⟩ := hrel
      have HT := Lib.hid htk
      clear htk
      by_cases hlt : k < A.length
      · have hlt2 : k < B.length := by have := HL.out; omega
        obtain ⟨x, hx⟩ : ∃ x, A[k]? = some x := ⟨_, List.getElem?_eq_getElem hlt⟩
        obtain ⟨y, hy⟩ : ∃ y, B[k]? = some y := ⟨_, List.getElem?_eq_getElem hlt2⟩
        obtain ⟨ba, oa, bx, cx, rfl, -, x0, x1, -, hx2⟩ := HA.out.at hx
        obtain ⟨bb, ob, by_, cy, rfl, -, y0, y1, -, hy2⟩ := HB.out.at hy
        have s1 := fun n => to_str (W.drewN n) _ _ (hx2.drewN n)
        have s2 := fun n => to_str (W.drewN n) _ _ (hy2.drewN n)
        have k0 := HK0.out
        have k1 := HK1.out
        have HX := Lib.hid hx; have HY := Lib.hid hy
        clear hx2 hy2 hx hy
        by_cases hn : x.nm = y.nm
        · by_cases hbq : x.b = y.b
          · have hnb : (x.nm == y.nm) = true := by rw [hn]; simp
            have hbb : (x.b == y.b) = true := by rw [hbq]; simp
            have HN := Lib.hid hn; have HBQ := Lib.hid hbq
            clear hn hbq
            go_wp2_with fail
            go_quiet (fail)
            go_wp2_with fail
            refine ⟨⟨k + 1, by omega, by go_num, ⟨_, rfl⟩, take_same HT.out (pairs_at HX.out) (pairs_at HY.out) (by rw [HN.out, HBQ.out])⟩, by simp [intOf]; omega⟩
          · have hnb : (x.nm == y.nm) = true := by rw [hn]; simp
            have hbb : (x.b == y.b) = false := by rw [beq_eq_false_iff_ne]; exact hbq
            have HN := Lib.hid hn; have HBQ := Lib.hid hbq
            clear hn hbq
            go_wp2_with fail
            go_quiet (fail)
            go_wp2_with fail
            go_ret
            exact ⟨ret_bool (pairs_ne HX.out HY.out fun h => HBQ.out h.2).symm, (HE.out.drewN _).drewN _⟩
        · have hnb : (x.nm == y.nm) = false := by rw [beq_eq_false_iff_ne]; exact hn
          have HN := Lib.hid hn
          clear hn
          go_wp2_with fail
          go_quiet (fail)
          go_wp2_with fail
          go_ret
          exact ⟨ret_bool (pairs_ne HX.out HY.out fun h => HN.out h.1).symm, (HE.out.drewN _).drewN _⟩
      · have hk0 := HK0.out
        obtain rfl : k = A.length := by omega
        go_wp2_with fail
        go_ret
        refine ⟨ret_bool (decide_eq_true ?_).symm, HE.out.drewN _⟩
        have h := HT.out
        rwa [List.take_of_length_le (by simp), List.take_of_length_le (by have := HL.out; simp; omega)] at h
  · have hl1 : ((A.length : Int) != (B.length : Int)) = true := by rw [bne_iff_ne]; omega
    have hl2 : (A.length != B.length) = true := by rw [bne_iff_ne]; omega
    go_enter Try.func35, Try.ntmps35
    go_wp2_with fail
    go_ret
    refine ⟨ret_bool (decide_eq_false fun e => hl ?_).symm, ?_⟩
    · have := congrArg List.length e
      simpa using this
    · rw [← hW]
      exact HE.out
end Go.Proofs.Ytnppneilbkmnfaa
namespace Go.Proofs.Ytnppneilbkmnfaa
open Go.RowKit
theorem left_len {f : FileM} {m : Nat} (hm : f.sy + m ≤ f.b.length) (junk : UInt8) : (Dk.left f m junk).length = f.sy + m := by
  unfold Dk.left
  split
  · rw [List.length_take]; omega
  · rw [List.length_append, List.length_take, List.length_singleton]; omega
theorem left_take {f : FileM} {m : Nat} (h0 : m ≠ 0) (hm : f.sy + m ≤ f.b.length) (junk : UInt8) : (Dk.left f m junk).take (f.sy + m - 1) <+: f.b := by
  unfold Dk.left
  rw [if_neg h0, List.take_append_of_le_length (by rw [List.length_take]; omega), List.take_take]
  exact List.take_prefix ..
theorem left_last {f : FileM} {m : Nat} (h0 : m ≠ 0) (junk : UInt8) (hi : f.sy + m - 1 < (Dk.left f m junk).length) (hj : f.sy + m - 1 < f.b.length) : (Dk.left f m junk)[f.sy + m - 1] = f.b[f.sy + m - 1] ^^^ junk := by
  have e : Dk.left f m junk = f.b.take (f.sy + m - 1) ++ [(f.b.getD (f.sy + m - 1) 0) ^^^ junk] := by unfold Dk.left; rw [if_neg h0]
  simp only [e]
  rw [List.getElem_append_right (by rw [List.length_take]; omega)]
  simp [List.getD_eq_getElem?_getD, hj]
/-- a callee in a drawn region, behind others -/
theorem quiet_behind {P : Program} {f : FuncId} {args : Array Value} {w : World} {a n : Nat} {v : Value}
    (h : Calls P f args (w.drewN (a + n)) fun e w' => e = .returned v ∧ ∃ m, w' = (w.drewN (a + n)).drewN m) : Calls P f args (w.drewN (a + n)) fun e w'' => e = .returned v ∧ ∃ m, w'' = w.drewN (a + m) :=
  h.mono fun _ _ ⟨he, m, hm⟩ => ⟨he, n + m, by rw [hm, World.drewN_drewN, Nat.add_assoc]⟩
theorem begins_t (w : World) (a b : Value) (A B : List UInt8) (ha : Bytes w a A) (hb : Bytes w b B) (h : A <+: B) :
    Calls Try.prog 31 #[a, b] w fun e w' => e = .returned (.bool true) ∧ ∃ n, w' = w.drewN n :=
  (begins_m w a b A B ha hb).mono fun e w' hq => ⟨by rw [hq.1, decide_eq_true h], hq.2⟩
theorem Row.cell3 {w : World} {g c : Nat} {n : Nat} {l : List TI} (h : Row kTell w (.slice (some ⟨g, 0, none⟩) n (c + 1)) l) {k : Nat} {x : TI} (hx : l[k]? = some x) :
    ∃ bx cx, x.v = .slice bx x.f.b.length cx ∧ w.cell? ⟨g, k * 3, none⟩ = some (.string ⟨x.f.nm.toArray⟩) ∧ w.cell? ⟨g, k * 3 + 1, none⟩ = some (.slice bx x.f.b.length cx) ∧ w.cell? ⟨g, k * 3 + 2, none⟩ = some (.int .i64 x.f.sy) ∧ g < w.heap.size ∧ Bytes w (.slice bx x.f.b.length cx) x.f.b ∧ x.f.b.length ≤ cx ∧ cx ≤ maxLen := by
  have hB := h.bytes x (List.mem_of_getElem? hx)
  have hB : Bytes w x.v x.f.b := hB
  obtain ⟨bx, cx, hv, h1, h2, -⟩ := hB.open
  obtain ⟨hi, he⟩ := List.getElem?_eq_some_iff.1 hx
  subst he
  obtain ⟨g', c', h0, -, -, hg, hc⟩ := h.open (fun x _ => rfl) (by omega) (show 0 < 3 by omega)
  simp only [Value.slice.injEq, Option.some.injEq, Addr.mk.injEq, and_true] at h0
  obtain ⟨rfl, -, -⟩ := h0
  have c0 := hc k hi 0 (encS l[k].f.nm) rfl
  have c1 := hc k hi 1 l[k].v rfl
  have c2 := hc k hi 2 (.int .i64 l[k].f.sy) rfl
  rw [hv] at c1 hB
  exact ⟨bx, cx, hv, c0, c1, c2, hg, hB, h1, h2⟩
/-- the image that a crash leaves of these files -/
def imgOf (L : List FileM) (keep : List Int) (junk : UInt8) : List (Nm × List UInt8) := L.mapIdx fun i f => (f.nm, Dk.left f (Dk.kept keep i f) junk)
theorem Bytes.cellAt {w : World} {bx : Option Addr} {n cx : Nat} {B : List UInt8} (h : Bytes w (.slice bx n cx) B) {j : Nat} (hj : j < B.length) : ∃ b off, bx = some ⟨b, off, none⟩ ∧ w.cell? ⟨b, off + j, none⟩ = some (.int .u8 B[j].toNat) ∧ b < w.heap.size := by
  obtain ⟨ao, cap, h0, -, -, hc⟩ := h.open
  simp only [Value.slice.injEq] at h0
  obtain ⟨rfl, rfl, rfl⟩ := h0
  obtain ⟨b, off, h1, h2⟩ := hc (by intro e; subst e; simp at hj)
  exact ⟨b, off, h1, h2 j hj, (cell_spot (h2 j hj)).2⟩
set_option maxRecDepth 20000 in
set_option maxHeartbeats 2000000 in
theorem survived_m (w : World) (v vi kv : Value) (l : List TI) (I : List FI) (keep : List Int) (junk : UInt8) (hR : Row kTell w v l) (hI : ImgV w vi I) (hk : Reads w 1 kv keep.length (keep.map (.int .i64 ·)))
    (hp : I.map FI.pair = imgOf (l.map TI.f) keep junk) (hsy : ∀ x ∈ l, x.f.sy ≤ x.f.b.length ∧ x.f.b.length ≤ 1073741824) :
    Calls Try.prog 36 #[v, .agg #[vi], kv, .int .u8 junk.toNat] w fun e w' => e = .returned (.bool true) ∧ Ext Nil w w' := by
  have hlen : I.length = l.length := by
    have := congrArg List.length hp
    simpa [imgOf] using this
  obtain ⟨av, cv, rfl, hv1, hv2⟩ := hR.shape
  obtain ⟨ai, ci, rfl, hi1, hi2⟩ := hI.shape
  obtain ⟨ak, ck, rfl, hk1, hk2, -⟩ := hk.ints
  rw [hlen] at hi1 hI ⊢
  unfold maxLen at hv2 hi2 hk2
  obtain ⟨W, hW⟩ : ∃ W, W = w.alloc (.cells #[.slice ai l.length ci] 36 (0, 0)) := ⟨_, rfl⟩
  have eW : Ext Nil w W := by rw [hW]; exact (Ext.refl _ _).alloc _
  have k0 : W.cell? ⟨w.heap.size, 0, none⟩ = some (.slice ai l.length ci) := by rw [hW]; exact (At.new w [.slice ai l.length ci] 36).cell 0 rfl
  have HR := Lib.hid (hR.ext0 eW); have HI := Lib.hid (hI.ext0 eW); have HE := Lib.hid eW; have HK0 := Lib.hid k0; have HKP := Lib.hid (hk.ext eW fun _ _ h => h); have HP := Lib.hid hp; have HSY := Lib.hid hsy; have HL := Lib.hid hlen
  clear hR hI hk hp hsy eW k0 hlen hk1
  go_enter Try.func36, Try.ntmps36
  go_wp2_with fail
  rw [← hW]
  clear hW
  go_loopw [9] (fun i wr => ∃ k : Nat, k ≤ l.length ∧ i = .int .i64 k ∧ Ext Nil W wr) (fun i _ => l.length - (intOf i).toNat)
  case atStart => exact ⟨0, Nat.zero_le _, rfl, Ext.refl _ _⟩
  case round =>
    obtain ⟨k, hk, rfl, hE⟩ := hrel
    by_cases hlt : k < l.length
    · have hlt2 : k < I.length := by have := HL.out; omega
      obtain ⟨x, hx⟩ : ∃ x, l[k]? = some x := ⟨_, List.getElem?_eq_getElem hlt⟩
      obtain ⟨y, hy⟩ : ∃ y, I[k]? = some y := ⟨_, List.getElem?_eq_getElem hlt2⟩
      obtain ⟨g, c, hg, -⟩ := HR.out.open (fun x _ => rfl) (by omega) (show 0 < 3 by omega)
      simp only [Value.slice.injEq, true_and] at hg
      obtain ⟨rfl, rfl⟩ := hg
      obtain ⟨bx, cx, -, x0, x1, x2, hgl, hxB, hxc, hxm⟩ := (HR.out.ext0 hE).cell3 hx
      obtain ⟨bi, oi, by_, cy, rfl, -, y0, y1, hil, hyB⟩ := (HI.out.ext0 hE).at hy
      have k0 := hE.cell HK0.out fun h => h
      obtain ⟨hs1, hs2⟩ := HSY.out x (List.mem_of_getElem? hx)
      obtain ⟨hyn, hyb⟩ : y.nm = x.f.nm ∧ y.b = Dk.left x.f (Dk.kept keep k x.f) junk := by
        have h1 := pairs_at hy
        rw [HP.out] at h1
        unfold imgOf at h1
        rw [List.getElem?_mapIdx, List.getElem?_map, hx] at h1
        simp only [Option.map_some, Option.some.injEq, Prod.mk.injEq] at h1
        exact ⟨h1.1.symm, h1.2.symm⟩
      have hkl := kept_le keep k x.f
      obtain ⟨m, hm⟩ : ∃ m, m = Dk.kept keep k x.f := ⟨_, rfl⟩
      rw [← hm] at hyb hkl
      have hsm : x.f.sy + m ≤ x.f.b.length := by omega
      have hyl : y.b.length = x.f.sy + m := by rw [hyb, left_len hsm]
      obtain ⟨n, hn⟩ : ∃ n, n = x.f.sy + m := ⟨_, rfl⟩
      rw [← hn] at hyl
      rw [hyl] at y1 hyB
      have hyc : n ≤ cy ∧ cy ≤ maxLen := by
        obtain ⟨_, _, h0, h1, h2, -⟩ := hyB.open
        simp only [Value.slice.injEq] at h0
        omega
      obtain ⟨hyc, hym⟩ := hyc
      have hnb : (y.nm == x.f.nm) = true := by rw [hyn]; simp
      have g1 : ¬ (n : Int) < (x.f.sy : Int) := by omega
      have g1n : ¬ n < x.f.sy := by omega
      have g1b : decide (n < x.f.sy) = false := decide_eq_false g1n
      have g2 : ¬ (x.f.b.length : Int) < (n : Int) := by omega
      have g2n : ¬ x.f.b.length < n := by omega
      have g2b : decide (x.f.b.length < n) = false := decide_eq_false g2n
      have hpre : x.f.b.take x.f.sy <+: y.b := by rw [hyb]; exact left_safe List.prefix_rfl m junk
      obtain ⟨R, hR⟩ : ∃ R, R = x.f.b.length - x.f.sy := ⟨_, rfl⟩
      have hRw : IntKind.i64.wrap ((x.f.b.length : Int) - (x.f.sy : Int)) = (R : Int) := by rw [IntWalk.i64_in _ (by omega)]; omega
      have hMw : IntKind.i64.wrap ((n : Int) - (x.f.sy : Int)) = (m : Int) := by rw [IntWalk.i64_in _ (by omega)]; omega
      have eY : Ext Nil wr (wr.alloc (.cells #[.string ⟨y.nm.toArray⟩, .slice by_ n cy] 41 (0, 0))) := (Ext.refl _ _).alloc _
      have AY := At.new wr [.string ⟨y.nm.toArray⟩, .slice by_ n cy] 41
      have z0 := AY.cell 0 rfl
      have z1 := AY.cell 1 rfl
      have HXB := Lib.hid (hxB.ext eY fun _ _ h => h); have HYB := Lib.hid (hyB.ext eY fun _ _ h => h); have HEY := Lib.hid (hE.same eY)
      have v0 := eY.cell x0 fun h => h
      have v1 := eY.cell x1 fun h => h
      have v2 := eY.cell x2 fun h => h
      have hkey := HKP.out.ext (hE.same eY) fun _ _ h => h
      have HPRE := Lib.hid hpre; have HN := Lib.hid hn; have HM := Lib.hid hm; have HYBB := Lib.hid hyb; have HR2 := Lib.hid hR; have HSM := Lib.hid hsm; have HEY0 := Lib.hid eY; have HYL := Lib.hid hyl
      have hKP := hkey
      clear hxB hyB AY x0 x1 x2 hpre hm hyb hyn hkl eY hE hx hy hyl hkey hR
      by_cases hkk : k < keep.length
      · obtain ⟨bk, ok, rfl, hkc⟩ := hKP.intsAt (by intro e; rw [e] at hkk; simp at hkk)
        have kc := hkc k hkk
        have hkb := (cell_spot kc).2
        obtain ⟨Kn, hKn⟩ : ∃ Kn : Nat, max keep[k] 0 = (Kn : Int) := ⟨(max keep[k] 0).toNat, by omega⟩
        have hmin : min (Kn : Int) (R : Int) = (m : Int) := by
          have h1 := HM.out
          unfold Dk.kept at h1
          rw [List.getElem?_eq_getElem hkk] at h1
          simp only [] at h1
          have := HR2.out
          omega
        have hkki : (k : Int) < (keep.length : Int) := by omega
        generalize keep[k] = kk at *
        clear hkc hKP
        by_cases hm0 : m = 0
        · have hm0z : n = x.f.sy := by omega
          have g3 : ¬ (x.f.sy : Int) < (n : Int) := by omega
          have g3n : ¬ x.f.sy < n := by omega
          have g3b : decide (x.f.sy < n) = false := decide_eq_false g3n
          have g3d : decide ((x.f.sy : Int) < (n : Int)) = false := decide_eq_false g3
          clear hm0 hsm hn hm0z
          go_wp2_with fail
          generalize wr.alloc (.cells #[.string ⟨y.nm.toArray⟩, .slice by_ n cy] 41 (0, 0)) = Y at *
          go_quiet ((go_at_call 31; exact Calls.quiet_of (begins_t _ _ _ _ _ ((HXB.out.take x.f.sy hs1).drewN _) (HYB.out.drewN _) HPRE.out)))
          go_wp2_with fail
          go_quiet (fail)
          go_wp2_with fail
          go_quiet (fail)
          go_wp2_with fail
          exact ⟨⟨k + 1, by omega, by go_num, HEY.out.drewN _⟩, by simp [intOf]; omega⟩
        · have g3 : (x.f.sy : Int) < (n : Int) := by omega
          have g3n : x.f.sy < n := by omega
          have g3b : decide (x.f.sy < n) = true := decide_eq_true g3n
          have g3d : decide ((x.f.sy : Int) < (n : Int)) = true := decide_eq_true g3
          obtain ⟨J, hJ⟩ : ∃ J, J = n - 1 := ⟨_, rfl⟩
          have hJw : IntKind.i64.wrap ((n : Int) - 1) = (J : Int) := by rw [IntWalk.i64_in _ (by omega)]; omega
          have hJ2 : J = x.f.sy + m - 1 := by omega
          have hJn : J < n := by omega
          have hJc : J ≤ cy := by omega
          have hJb : J < x.f.b.length := by omega
          have hJy : J < y.b.length := by have := HYL.out; omega
          have hYT := HYB.out
          have hyl2 := HYL.out
          have hYT2 := hYT.take J (by omega)
          have hpr2 : y.b.take J <+: x.f.b := by rw [hJ2, HYBB.out]; exact left_take hm0 HSM.out junk
          have hlast : y.b[J] = x.f.b[J] ^^^ junk := by
            have h1 := left_last hm0 junk (by rw [left_len HSM.out]; omega) (by omega)
            simp only [HYBB.out, hJ2]
            exact h1
          obtain ⟨byb, ofy, hbyy, q1, hq1⟩ := HYB.out.cellAt hJy
          subst hbyy
          obtain ⟨bxb, ofx, rfl, q2, hq2⟩ := HXB.out.cellAt hJb
          rw [hlast] at q1
          have hxr := xor_u8 x.f.b[J] junk
          have HYT := Lib.hid hYT2; have HPR2 := Lib.hid hpr2
          generalize x.f.b[J] = bJ at *
          have hxr2 : ((bJ ^^^ junk).toNat != (bJ ^^^ junk).toNat) = false := by simp
          clear hYT hYT2 hpr2 hlast hJ hJ2 hsm hyl2 hm0 hn
          go_wp2_with fail
          generalize wr.alloc (.cells #[.string ⟨y.nm.toArray⟩, .slice (some ⟨byb, ofy, none⟩) n cy] 41 (0, 0)) = Y at *
          go_quiet ((go_at_call 31; exact Calls.quiet_of (begins_t _ _ _ _ _ ((HXB.out.take x.f.sy hs1).drewN _) (HYB.out.drewN _) HPRE.out)))
          go_wp2_with fail
          go_quiet (fail)
          go_wp2_with fail
          go_quiet ((go_at_call 31; exact quiet_behind (begins_t _ _ _ _ _ ((HYT.out).drewN _) (HXB.out.drewN _) HPR2.out)))
          go_wp2_with fail
          exact ⟨⟨k + 1, by omega, by go_num, HEY.out.drewN _⟩, by simp [intOf]; omega⟩
      · have hmz : m = 0 := by
          rw [HM.out]
          unfold Dk.kept
          rw [List.getElem?_eq_none (by omega)]
        have hmin : min (0 : Int) (R : Int) = (m : Int) := by omega
        have hkki : ¬ (k : Int) < (keep.length : Int) := by omega
        clear hKP
        have hm0z : n = x.f.sy := by omega
        have g3 : ¬ (x.f.sy : Int) < (n : Int) := by omega
        have g3n : ¬ x.f.sy < n := by omega
        have g3b : decide (x.f.sy < n) = false := decide_eq_false g3n
        have g3d : decide ((x.f.sy : Int) < (n : Int)) = false := decide_eq_false g3
        clear hsm hn hm0z hmz
        go_wp2_with fail
        generalize wr.alloc (.cells #[.string ⟨y.nm.toArray⟩, .slice by_ n cy] 41 (0, 0)) = Y at *
        go_quiet ((go_at_call 31; exact Calls.quiet_of (begins_t _ _ _ _ _ ((HXB.out.take x.f.sy hs1).drewN _) (HYB.out.drewN _) HPRE.out)))
        go_wp2_with fail
        go_quiet (fail)
        go_wp2_with fail
        go_quiet (fail)
        go_wp2_with fail
        exact ⟨⟨k + 1, by omega, by go_num, HEY.out.drewN _⟩, by simp [intOf]; omega⟩
    · have hnot : ¬ (k : Int) < (l.length : Int) := by omega
      have HEE := Lib.hid (HE.out.same hE)
      clear hE
      go_wp2_with fail
      go_ret
      exact ⟨rfl, HEE.out⟩
end Go.Proofs.Ytnppneilbkmnfaa
namespace Go.Proofs.Ytnppneilbkmnfaa
open Go.RowKit Go.ChangeShapes

/-- a call of a script -/
structure OpI where
  o : OpD
  B : List UInt8
  ks : List Int
def OpI.cells (x : OpI) : List Value := x.o.cells
theorem OpOk.ext0 {w w' : World} {o : OpD} {B : List UInt8} {ks : List Int} (h : OpOk w o B ks) (e : Ext Nil w w') : OpOk w' o B ks :=
  ⟨h.name, h.dn, h.data.ext e fun _ _ h => h, fun k hk => Nat.lt_of_lt_of_le (h.dlt k hk) e.size, h.kn, h.keep.ext e fun _ _ h => h, fun k hk => Nat.lt_of_lt_of_le (h.klt k hk) e.size, h.junk⟩
structure ScrR (w : World) (v : Value) (l : List OpI) : Prop where
  row : Reads w 10 v l.length (l.flatMap OpI.cells)
  ok : ∀ x ∈ l, OpOk w x.o x.B x.ks
  small : ∀ x ∈ l, x.B.length ≤ 1048576 ∧ x.ks.length ≤ 1048576
  few : l.length ≤ 1048576
theorem ScrR.ext0 {w w' : World} {v : Value} {l : List OpI} (h : ScrR w v l) (e : Ext Nil w w') : ScrR w' v l :=
  ⟨h.row.ext e fun _ _ h => h, fun x hx => (h.ok x hx).ext0 e, h.small, h.few⟩
theorem ScrR.shape {w : World} {v : Value} {l : List OpI} (h : ScrR w v l) : ∃ ao cap, v = .slice ao l.length cap ∧ l.length ≤ cap ∧ cap ≤ maxLen := by
  obtain ⟨-, ao, cap, rfl, h2, h3, -⟩ := h.row
  exact ⟨ao, cap, rfl, h2, h3⟩
theorem OpI.len (x : OpI) : x.cells.length = 10 := rfl
/-- a call of a script, cell by cell -/
theorem ScrR.at {w : World} {ao : Option Addr} {n cap : Nat} {l : List OpI} (h : ScrR w (.slice ao n cap) l) {k : Nat} {x : OpI} (hx : l[k]? = some x) :
    ∃ b off, ao = some ⟨b, off, none⟩ ∧ b < w.heap.size ∧ ∀ j u, x.o.cells[j]? = some u → w.cell? ⟨b, off + k * 10 + j, none⟩ = some u := by
  obtain ⟨hi, he⟩ := List.getElem?_eq_some_iff.1 hx
  subst he
  have hfl := flat_len OpI.cells 10 l fun _ _ => rfl
  obtain ⟨h1, ao', cap', h0, h2, h3, h4⟩ := h.row
  simp only [Value.slice.injEq] at h0
  obtain ⟨rfl, rfl, rfl⟩ := h0
  obtain ⟨b, off, rfl, hc⟩ := h4 (by intro e; rw [e] at h1; simp at h1; omega)
  have hcc : ∀ j u, l[k].o.cells[j]? = some u → w.cell? ⟨b, off + k * 10 + j, none⟩ = some u := by
    intro j u hu
    have hj : j < 10 := by
      have := (List.getElem?_eq_some_iff.1 hu).1
      exact this
    have := hc (k * 10 + j) u (by rw [flat_mem OpI.cells 10 l (fun _ _ => rfl) k hi j hj]; exact hu)
    rwa [← Nat.add_assoc] at this
  exact ⟨b, off, rfl, (cell_spot (hcc 0 _ rfl)).2, hcc⟩
theorem ScrR.cells {w : World} {ao : Option Addr} {n cap : Nat} {l : List OpI} (h : ScrR w (.slice ao n cap) l) {k : Nat} {x : OpI} (hx : l[k]? = some x) :
    ∃ b off, ao = some ⟨b, off, none⟩ ∧ b < w.heap.size ∧ w.cell? ⟨b, off + k * 10, none⟩ = some (.int .i64 x.o.K) ∧ w.cell? ⟨b, off + k * 10 + 1, none⟩ = some (.int .i64 x.o.who) ∧ w.cell? ⟨b, off + k * 10 + 2, none⟩ = some (.string x.o.s) ∧
      w.cell? ⟨b, off + k * 10 + 3, none⟩ = some (.slice x.o.dx x.o.dn x.o.dc) ∧ w.cell? ⟨b, off + k * 10 + 4, none⟩ = some (.int .i64 x.o.N) ∧ w.cell? ⟨b, off + k * 10 + 5, none⟩ = some (.int .i64 x.o.t0) ∧ w.cell? ⟨b, off + k * 10 + 6, none⟩ = some (.int .i64 x.o.t1) ∧
      w.cell? ⟨b, off + k * 10 + 7, none⟩ = some (.bool x.o.t2) ∧ w.cell? ⟨b, off + k * 10 + 8, none⟩ = some (.slice x.o.kx x.o.kn x.o.kc) ∧ w.cell? ⟨b, off + k * 10 + 9, none⟩ = some (.int .u8 x.o.junk) := by
  obtain ⟨b, off, h1, h2, h3⟩ := h.at hx
  exact ⟨b, off, h1, h2, h3 0 _ rfl, h3 1 _ rfl, h3 2 _ rfl, h3 3 _ rfl, h3 4 _ rfl, h3 5 _ rfl, h3 6 _ rfl, h3 7 _ rfl, h3 8 _ rfl, h3 9 _ rfl⟩
theorem does_op (w0 w : World) (d : Nat) (D : Dk) (hL : Life w0 w d D) (x : OpI) (ho : OpOk w0 x.o x.B x.ks) (hc : D.calls ≤ 1099511627776) (ha : D.arms.length ≤ 1099511627776) (hb : x.B.length ≤ 549755813888) :
    Calls Try.prog 25 #[.pointer (some ⟨d, 0, none⟩), .agg #[.int .i64 x.o.K, .int .i64 x.o.who, .string x.o.s, .slice x.o.dx x.o.dn x.o.dc, .int .i64 x.o.N, .int .i64 x.o.t0, .int .i64 x.o.t1, .bool x.o.t2, .slice x.o.kx x.o.kn x.o.kc, .int .u8 x.o.junk]] w fun e w' =>
      e = .returned (.int .i64 (D.does x.o x.B).2) ∧ Life w0 w' d (D.does x.o x.B).1 := does_life w0 w d D hL x.o x.B x.ks ho hc ha hb
section
variable {H : Type} {enc : TypeId × Value → H} {w : World}
theorem El.script {v : Value} {d : DataW H} (h : El enc Try.prog w 45 [v] d) (hb : Rows.uptoBulk d ≤ 1048576) : ∃ l : List OpI, ScrR w v l := by
  obtain ⟨ces, h1, h2, h3, h4⟩ := open_row Try.underlying45 cellsOp (by omega) h
  have hbulk : Rows.uptoBulkAll (ces.map (·.2)) ≤ 1048576 ∨ ces = [] := by
    rcases h3 with ⟨-, rfl⟩ | ⟨sp, rfl⟩
    · exact .inr rfl
    · simp only [Rows.uptoBulk] at hb
      exact .inl (by omega)
  have hlen : ces.length ≤ 1048576 := by
    rcases hbulk with h | rfl
    · have := bulk_length (ces.map (·.2))
      rw [List.length_map] at this
      omega
    · simp
  have hone : ∀ c ∈ ces, Rows.uptoBulk c.2 ≤ 1048576 := by
    intro c hc
    rcases hbulk with h | rfl
    · obtain ⟨A, B, e⟩ := List.append_of_mem (List.mem_map_of_mem (f := (·.2)) hc)
      rw [e, bulk_append] at h
      simp only [Rows.uptoBulkAll] at h
      omega
    · cases hc
  have h6 : ∃ l : List OpI, l.length = ces.length ∧ ces.flatMap (·.1) = l.flatMap OpI.cells ∧ ∀ x ∈ l, OpOk w x.o x.B x.ks ∧ x.B.length ≤ 1048576 ∧ x.ks.length ≤ 1048576 := by
    clear h1 h3 h4 h hlen hbulk
    induction ces with
    | nil => exact ⟨[], rfl, rfl, by simp⟩
    | cons c ces ih =>
      obtain ⟨o, B, ks, e, ho, hk⟩ := El.op (h2 c (List.mem_cons_self ..)).2
      have := hone c (List.mem_cons_self ..)
      obtain ⟨l, hl, he, hm⟩ := ih (fun c hc => h2 c (List.mem_cons_of_mem _ hc)) fun c hc => hone c (List.mem_cons_of_mem _ hc)
      refine ⟨⟨o, B, ks⟩ :: l, by simp [hl], by rw [List.flatMap_cons, List.flatMap_cons, e, he]; rfl, fun y hy => ?_⟩
      rcases List.mem_cons.1 hy with rfl | hy
      · exact ⟨ho, by show B.length ≤ _; omega, by show ks.length ≤ _; omega⟩
      · exact hm y hy
  obtain ⟨l, hl, he, hm⟩ := h6
  exact ⟨l, ⟨by rw [hl, ← he]; exact h1, fun x hx => (hm x hx).1, fun x hx => (hm x hx).2, by omega⟩⟩
theorem El.u8 {v : Value} {d : DataW H} (h : El enc Try.prog w 5 [v] d) : ∃ b : UInt8, v = .int .u8 b.toNat := by
  obtain ⟨n, e, hw⟩ := h.int Try.underlying5
  have hx : 0 ≤ n ∧ n ≤ 255 := by simpa [Lit.wf, IntKind.min, IntKind.max, IntKind.signed, IntKind.bits] using hw
  refine ⟨toB n, ?_⟩
  simp only [List.cons.injEq, and_true] at e
  rw [e]
  exact (bv_toB hx.1 (by omega)).symm
theorem cellsM : Try.prog.cellsOf 44 = 3 := by kernel_rfl
set_option maxRecDepth 100000 in
theorem El.image {v : List Value} {d : DataW H} (h : El enc Try.prog w 36 v d) : ∃ (u : Value) (l : List FI), v = [u] ∧ ImgR w u l ∧ l.length + 1 ≤ Rows.uptoBulk d := by
  obtain ⟨f, ps, h⟩ := h
  obtain ⟨xs, n, _, hx, hl, hlen, hf⟩ := DataW.trod_struct Try.underlying36 h
  rw [cellsI] at hl
  match xs, hlen, v, hl with
  | [y0], _, [c0], _ =>
    have f0 := hf 0 _ rfl
    simp [cellsFs] at f0
    obtain ⟨l, h1, h2⟩ := El.files ⟨n, y0.2, f0⟩
    refine ⟨c0, l, rfl, h1, ?_⟩
    have hd : d = .agg [y0.1] := by simpa using congrArg Prod.fst hx
    rw [hd]
    simp only [Rows.uptoBulk, Rows.uptoBulkAll]
    omega
set_option maxRecDepth 100000 in
theorem El.made {cs : List Value} {d : DataW H} (h : El enc Try.prog w 44 cs d) : ∃ (lim : Int) (m : Bool) (v : Value) (l : List FI), cs = [.int .i64 lim, .bool m, v] ∧ ImgR w v l ∧ l.length + 1 ≤ Rows.uptoBulk d := by
  obtain ⟨f, ps, h⟩ := h
  obtain ⟨xs, n, _, hx, hl, hlen, hf⟩ := DataW.trod_struct Try.underlying44 h
  rw [cellsM] at hl
  match xs, hlen, cs, hl with
  | [y0, y1, y2], _, [c0, c1, c2], _ =>
    have f0 := hf 0 _ rfl
    have f1 := hf 1 _ rfl
    have f2 := hf 2 _ rfl
    simp [cells3, cells4, cellsI] at f0 f1 f2
    obtain ⟨lim, e0, -⟩ := El.int Try.underlying3 ⟨n, y0.2, f0⟩
    obtain ⟨m, e1⟩ := El.bool Try.underlying4 ⟨n, y1.2, f1⟩
    obtain ⟨u, l, e2, h1, h2⟩ := El.image ⟨n, y2.2, f2⟩
    simp only [List.cons.injEq, and_true] at e0 e1 e2
    subst e0 e1 e2
    refine ⟨lim, m, c2, l, rfl, h1, ?_⟩
    have hd : d = .agg [y0.1, y1.1, y2.1] := by simpa using congrArg Prod.fst hx
    rw [hd]
    simp only [Rows.uptoBulk, Rows.uptoBulkAll]
    omega
end

/-! ### a disk of one's own -/
theorem life_crash {w0 w : World} {d : Nat} {D : Dk} (hL : Life w0 w d D) {kv : Value} {keep : List Int} (hk : Reads w 1 kv keep.length (keep.map (.int .i64 ·))) (hlt : ∀ k, inFoot kv k → k < w0.heap.size) (junk : UInt8) :
    Calls Try.prog 23 #[.pointer (some ⟨d, 0, none⟩), kv, .int .u8 junk.toNat] w fun e w' => ∃ v l, e = .returned (.tuple #[.agg #[v], .int .i64 D.crash.2]) ∧ l.map FI.pair = D.told keep junk ∧ ImgO w' v l ∧ (∀ k ∈ ibl v l, w.heap.size ≤ k) ∧ Life w0 w' d D.crash.1 ∧ Ext (One d) w w' := by
  obtain ⟨F, hD, hF, hE⟩ := hL
  refine (crash_m w d D F hD kv keep hk (fun k hk hf => by have := hF k hf; have := hlt k hk; omega) junk).mono ?_
  rintro e w' ⟨v, l, rfl, h⟩
  exact ⟨v, l, rfl, h.pairs, h.own, h.new, Life.crashed hD hF hE h, h.ext⟩
theorem life_read {w0 w : World} {d : Nat} {D : Dk} (hL : Life w0 w d D) (s : ByteArray) (hs : s.size ≤ maxLen) :
    Calls Try.prog 29 #[.pointer (some ⟨d, 0, none⟩), .string s] w fun e w' => ∃ ao cap, e = .returned (.tuple #[.slice ao (D.bytes s.data.toList).length cap, .int .i64 (D.seek s.data.toList)]) ∧ OwnB w' (.slice ao (D.bytes s.data.toList).length cap) (D.bytes s.data.toList) ∧ Step Nil w (inFoot (.slice ao (D.bytes s.data.toList).length cap)) w' := by
  obtain ⟨F, hD, hF, hE⟩ := hL
  exact read_m w d D F hD s hs
theorem life_names {w0 w : World} {d : Nat} {D : Dk} (hL : Life w0 w d D) :
    Calls Try.prog 37 #[.pointer (some ⟨d, 0, none⟩)] w fun e w' => ∃ ao cap, e = .returned (.slice ao D.names.length cap) ∧ Own w' 9 1 (.slice ao D.names.length cap) D.names.length (namesV D.names) ∧ Step Nil w (inFoot (.slice ao D.names.length cap)) w' := by
  obtain ⟨F, hD, hF, hE⟩ := hL
  exact names_m w d D F hD
theorem life_tells {w0 w : World} {d : Nat} {D : Dk} (hL : Life w0 w d D) :
    Calls Try.prog 34 #[.pointer (some ⟨d, 0, none⟩)] w fun e w' => ∃ v l, e = .returned (.tuple #[v, .bool true]) ∧ Row kTell w' v l ∧ l.map TI.f = D.tell ∧ Ext Nil w w' ∧ ∀ k, feet kTell v l k → w.heap.size ≤ k := by
  obtain ⟨F, hD, hF, hE⟩ := hL
  exact tells_m w d D F hD
theorem Life.lt {w0 w : World} {d : Nat} {D : Dk} (hL : Life w0 w d D) : w0.heap.size ≤ d ∧ d < w.heap.size := by
  obtain ⟨F, hD, hF, hE⟩ := hL
  exact ⟨hF d hD.self, hD.lt d hD.self⟩
theorem Life.world {w0 w : World} {d : Nat} {D : Dk} (hL : Life w0 w d D) : Ext Nil w0 w := by
  obtain ⟨F, hD, hF, hE⟩ := hL
  exact hE
end Go.Proofs.Ytnppneilbkmnfaa
