/- The law's made: both disks, by New or by Mount. Condition: the image can be read. -/
import Derived.Test.YtnppneilbkmnfaaK9
namespace Go.Proofs.Ytnppneilbkmnfaa
open Go.RowKit

theorem results_pair {P : Program} {fn : Func} {a u : Tmp} (h : fn.results = #[.cell a 82, .tmp u]) (tmps : Array Value) {w : World} {b : Nat} {v1 v2 : Value} (ha : tmps.getD a undef = .pointer (some ⟨b, 0, none⟩)) (h1 : w.cell? ⟨b, 0, none⟩ = some v1) (h2 : w.cell? ⟨b, 1, none⟩ = some v2) (hP : (isAgg 82).run P w = .ok true w) (hZ : (sizeOf 82).run P w = .ok 2 w) :
    (results fn tmps).run P w = .ok (.tuple #[.agg #[v1, v2], tmps.getD u undef]) w := by
  have e0 : (⟨b, 0, none⟩ : Addr).add 0 = ⟨b, 0, none⟩ := rfl
  have e1 : (⟨b, 0, none⟩ : Addr).add 1 = ⟨b, 1, none⟩ := rfl
  rw [Array.getD_eq_getD_getElem?] at ha
  simp [results, h, ha, loadVar, asAddr, loadCells, loadCellsFrom, e0, e1, Result.andThen, hP, hZ, run_load, h1, h2]
theorem agg_pair (w : World) : (isAgg 82).run Try.prog w = .ok true w := by kernel_rfl
theorem size_pair (w : World) : (sizeOf 82).run Try.prog w = .ok 2 w := by kernel_rfl

theorem PQ.make {w1 w2 w3 : World} {d q : Nat} {D E : Dk} (h1 : Life w1 w2 d D) (h2 : QLife w2 w3 q E) : ∃ K, PQ w3 d q D E K ∧ (∀ k, K k → w1.heap.size ≤ k) ∧ Ext Nil w1 w3 := by
  obtain ⟨F, hF1, hF2, hF3⟩ := h1
  obtain ⟨G, hG1, hG2, hG3⟩ := h2
  have hs := hF3.size
  exact ⟨fun k => F k ∨ G k, ⟨F, G, hF1.ext hG3 fun _ _ h => h, hG1, fun k hf hg => by have := hF1.lt k hf; have := hG2 k hg; omega, fun _ => Iff.rfl⟩, fun k hk => hk.elim (hF2 k) fun h => Nat.le_trans hs (hG2 k h), hF3.same hG3⟩
theorem qlife_new {w w' : World} {n : Nat} (h : QAt w' w.heap.size (.slice none 0 0) (.slice none 0 0) [] (Dk.fresh n)) (e : Ext Nil w w') : QLife w w' w.heap.size (Dk.fresh n) :=
  ⟨_, ⟨_, _, _, h, rfl⟩, (by
    rintro k (rfl | (hk | ⟨x, hx, -⟩) | hk)
    · exact Nat.le_refl _
    · simp [inFoot, foot] at hk
    · cases hx
    · simp [inFoot, foot] at hk), e⟩
theorem pair_get {l l' : List FI} (h : l.map FI.pair = l'.map FI.pair) {i : Nat} {x : FI} (hx : l[i]? = some x) : ∃ y, l'[i]? = some y ∧ y.nm = x.nm ∧ y.b = x.b := by
  have h1 := congrArg (·[i]?) h
  simp only [List.getElem?_map, hx, Option.map_some] at h1
  cases hy : l'[i]? with
  | none => rw [hy] at h1; cases h1
  | some y =>
    rw [hy] at h1
    have h1 : (x.nm, x.b) = (y.nm, y.b) := Option.some.inj h1
    simp only [Prod.mk.injEq] at h1
    exact ⟨y, rfl, h1.1.symm, h1.2.symm⟩
theorem nameOk_pair {l l' : List FI} (h : l.map FI.pair = l'.map FI.pair) {i : Nat} (hn : nameOk l i) : nameOk l' i := by
  obtain ⟨x, hx, h1, h2⟩ := hn
  obtain ⟨y, hy, e1, e2⟩ := pair_get h hx
  refine ⟨y, hy, by rw [e1]; exact h1, fun z h0 hz => ?_⟩
  obtain ⟨u, hu, e3, -⟩ := pair_get h.symm hz
  rw [e1, ← e3]
  exact h2 u h0 hu
theorem pair_file {l l' : List FI} (h : l.map FI.pair = l'.map FI.pair) : l.map FI.file = l'.map FI.file := by
  have e : ∀ m : List FI, m.map FI.file = (m.map FI.pair).map fun p => (⟨p.1, p.2, p.2.length⟩ : FileM) := fun m => by rw [List.map_map]; rfl
  rw [e, e, h]
theorem mountE_pair {l l' : List FI} (h : l.map FI.pair = l'.map FI.pair) (lim : Int) : mountE lim l = mountE lim l' := by
  have hlen : l.length = l'.length := by have := congrArg List.length h; simpa using this
  have h1 : (∀ i < l.length, nameOk l i) ↔ ∀ i < l'.length, nameOk l' i := ⟨fun hn i hi => nameOk_pair h (hn i (by omega)), fun hn i hi => nameOk_pair h.symm (hn i (by omega))⟩
  have h2 : mntSum l = mntSum l' := by unfold mntSum; rw [pair_file h]
  unfold mountE
  rw [h2, hlen]
  by_cases hc : ∀ i < l'.length, nameOk l' i
  · have hc' := h1.2 hc
    rw [hlen] at hc'
    have n1 : ¬ ¬ ∀ i < l'.length, nameOk l i := fun e => e hc'
    have n2 : ¬ ¬ ∀ i < l'.length, nameOk l' i := fun e => e hc
    rw [if_neg n1, if_neg n2]
  · have hc' : ¬ ∀ i < l'.length, nameOk l i := fun e => hc (h1.1 (by rw [hlen]; exact e))
    rw [if_pos hc', if_pos hc]
theorem mntD_pair {l l' : List FI} (h : l.map FI.pair = l'.map FI.pair) (n : Nat) : mntD n l = mntD n l' := by unfold mntD; rw [pair_file h]
theorem Hand.reads {w : World} {base : Nat} {fa : Option Addr} {fc : Nat} {uv : Value} {L : List HI} (h : Hand w base (.slice fa (L.length + 1) fc) uv (L.map HI.fi ++ [markF]) L) (hn : ∀ x ∈ L, x.nm.length ≤ maxLen) : ImgR w (.slice fa L.length fc) (L.map HI.fi) := by
  obtain ⟨h1, ao, cap, e, h2, h3, h4⟩ := h.see.row
  have e' := e
  simp only [Value.slice.injEq] at e'
  obtain ⟨rfl, -, rfl⟩ := e'
  simp only [List.length_append, List.length_map, List.length_singleton] at h1 h2
  have hl : ((L.map HI.fi).flatMap FI.cells).length = L.length * 2 := by rw [fiCells_length, List.length_map]
  refine ⟨⟨by rw [List.length_map]; exact hl, fa, fc, by rw [List.length_map], by rw [List.length_map]; omega, h3, fun hne => ?_⟩, fun x hx => ?_, fun x hx => h.see.bytes x (List.mem_append_left _ hx)⟩
  · obtain ⟨b, off, h5, h6⟩ := h4 (by rw [List.flatMap_append]; simp [hne])
    refine ⟨b, off, h5, fun j u hj => h6 j u ?_⟩
    rw [List.flatMap_append, List.getElem?_append_left (List.getElem?_eq_some_iff.1 hj).1]
    exact hj
  · obtain ⟨y, hy, rfl⟩ := List.mem_map.1 hx
    exact hn y hy
/-- the blocks that are written over behind a mount -/
def spl (fu : Value) (L : List HI) : Nat → Prop := fun k => (∃ x ∈ L, x.g = k) ∨ inFoot fu k
theorem Hand.spl {w : World} {base : Nat} {fu uv : Value} {fs : List FI} {L : List HI} (h : Hand w base fu uv fs L) : ∀ k, spl fu L k → base ≤ k ∧ k < w.heap.size ∧ ¬ inFoot uv k := by
  rintro k (⟨x, hx, rfl⟩ | hk)
  · exact ⟨(h.apg x hx).1, (h.apg x hx).2.1, (h.apg x hx).2.2.2⟩
  · exact h.apf k hk
/-- what the loop that spoils finds -/
structure Spd (wM wr : World) (fu uv : Value) (nf : Nat) (L : List HI) : Prop where
  ext : Ext (spl fu L) wM wr
  each : ∀ x ∈ L, ∃ B : List UInt8, B.length = x.b.length + 3 ∧ OwnB wr x.fv B
  full : Own wr 31 1 uv L.length (L.map HI.fv)
  files : ∃ cs, Own wr 41 2 fu nf cs
theorem Hand.spd {w : World} {base : Nat} {fu uv : Value} {fs : List FI} {L : List HI} (h : Hand w base fu uv fs L) : Spd w w fu uv fs.length L :=
  ⟨Ext.refl _ _, fun x hx => ⟨_, by simp [marks], (h.each x hx).1⟩, h.full, ⟨_, h.files⟩⟩
theorem Spd.next {w wM wr w' : World} {base : Nat} {fu uv : Value} {fs : List FI} {L : List HI} {x : HI} {B : List UInt8} {nf : Nat} (h : Spd wM wr fu uv nf L) (hH : Hand w base fu uv fs L) (hx : x ∈ L) (hB : B.length = x.b.length + 3) (hO : OwnB w' x.fv B) (e : Ext (One x.g) wr w') : Spd wM w' fu uv nf L := by
  refine ⟨h.ext.trans e fun i _ e => .inl ⟨x, hx, e.symm⟩, fun y hy => ?_, h.full.ext e fun k hk e => ?_, ?_⟩
  · by_cases he : y.g = x.g
    · have hyx : y = x := by
        obtain ⟨i, hi, rfl⟩ := List.mem_iff_getElem.1 hy
        obtain ⟨j, hj, rfl⟩ := List.mem_iff_getElem.1 hx
        rcases Nat.lt_trichotomy i j with hlt | rfl | hlt
        · exact absurd he (List.pairwise_iff_getElem.1 hH.pair i j hi hj hlt)
        · rfl
        · exact absurd he.symm (List.pairwise_iff_getElem.1 hH.pair j i hj hi hlt)
      subst hyx
      exact ⟨B, hB, hO⟩
    · obtain ⟨C, hC, hOC⟩ := h.each y hy
      exact ⟨C, hC, hOC.ext e fun k hk e => he (by have e : k = x.g := e; rw [← e]; exact (HI.foot (hH.each y hy).2 hk).symm)⟩
  · have e : k = x.g := e
    subst e
    exact (hH.apg x hx).2.2.2 hk
  · obtain ⟨cs, hcs⟩ := h.files
    exact ⟨cs, hcs.ext e fun k hk e => by have e : k = x.g := e; subst e; exact (hH.apg x hx).2.2.1 hk⟩
/-- what the loop that names anew finds -/
theorem files_store {wM wr : World} {L : List HI} {n : Nat} {fa : Option Addr} {fc : Nat} {cs : List Value} (h : Own wr 41 2 (.slice fa n fc) n cs) (hx : Ext (spl (.slice fa n fc) L) wM wr) {k : Nat} (hk : k < n) (v : Value) :
    ∃ g c, fa = some ⟨g, 0, none⟩ ∧ fc = c + 1 ∧ g < wr.heap.size ∧ (∃ u, wr.cell? ⟨g, k * 2, none⟩ = some u) ∧ wr.frozen? ⟨g, k * 2, none⟩ = false ∧ (∃ cs', Own (wr.setCell ⟨g, k * 2, none⟩ v) 41 2 (.slice fa n fc) n cs') ∧ Ext (spl (.slice fa n fc) L) wM (wr.setCell ⟨g, k * 2, none⟩ v) := by
  rcases h.2 with ⟨ao', h1, h2⟩ | ⟨g, c, ds, h1, h2, h3, h4, h5, h6⟩
  · omega
  · simp only [Value.slice.injEq, true_and] at h1
    obtain ⟨rfl, rfl⟩ := h1
    have hl : k * 2 < ds.length := by omega
    refine ⟨g, c, rfl, rfl, h2.lt, ⟨_, h2.cell (k * 2) (List.getElem?_eq_getElem hl)⟩, h2.frozen (k * 2) hl, ⟨(ds.set (k * 2) v).take (n * 2), ?_, .inr ⟨g, c, ds.set (k * 2) v, rfl, h2.set (k * 2) v, h3, h4, by rw [List.length_set]; exact h5, rfl⟩⟩, hx.setCell (p := ⟨g, k * 2, none⟩) (fun _ => .inr rfl) v⟩
    rw [List.length_take, List.length_set]
    omega
/-- what made answers -/
def Mades (w : World) (r : Option Dk) (e : Ending) (w' : World) : Prop :=
  (r = none ∧ e = .returned (.tuple #[.agg #[.pointer none, .pointer none], .bool true]) ∧ Ext Nil w w') ∨
    (∃ D d q K, r = some D ∧ e = .returned (.tuple #[.agg #[.pointer (some ⟨d, 0, none⟩), .pointer (some ⟨q, 0, none⟩)], .bool true]) ∧ PQ w' d q D D K ∧ (∀ k, K k → w.heap.size ≤ k) ∧ Ext Nil w w')
theorem made_fin {w w4 : World} {d q : Nat} {D : Dk} {K : Nat → Prop} (h : PQ w4 d q D D K) (hK : ∀ k, K k → w.heap.size + 2 ≤ k) (e : Ext Nil w w4) (v1 v2 : Value) :
    Mades w (some D) (.returned (.tuple #[.agg #[.pointer (some ⟨d, 0, none⟩), .pointer (some ⟨q, 0, none⟩)], .bool true])) ((w4.setCell ⟨w.heap.size + 1, 0, none⟩ v1).setCell ⟨w.heap.size + 1, 1, none⟩ v2) := by
  have e5 : Ext (One (w.heap.size + 1)) w4 ((w4.setCell ⟨w.heap.size + 1, 0, none⟩ v1).setCell ⟨w.heap.size + 1, 1, none⟩ v2) := ((Ext.refl (One (w.heap.size + 1)) w4).setCell (p := ⟨w.heap.size + 1, 0, none⟩) (fun _ => rfl) v1).setCell (p := ⟨w.heap.size + 1, 1, none⟩) (fun _ => rfl) v2
  exact .inr ⟨D, d, q, K, rfl, rfl, h.ext e5 fun k hk e => by have e : k = w.heap.size + 1 := e; have := hK k hk; omega, fun k hk => by have := hK k hk; omega, e.trans e5 fun i hi e => by have e : i = w.heap.size + 1 := e; omega⟩
theorem two_set {w : World} {b : Nat} {u1 u2 v1 v2 : Value} {t : TypeId} (h : At w b t [u1, u2]) : At ((w.setCell ⟨b, 0, none⟩ v1).setCell ⟨b, 1, none⟩ v2) b t [v1, v2] := (h.set 0 v1).set 1 v2

theorem QLife.world {w0 w : World} {q : Nat} {D : Dk} (h : QLife w0 w q D) : Ext Nil w0 w := by
  obtain ⟨G, -, -, h⟩ := h
  exact h
set_option maxRecDepth 20000 in
set_option maxHeartbeats 1000000 in
theorem made_new_m (w : World) (lim : Int) (v : Value) (l : List FI) (h : ImgR w v l) (hbyt : ∀ x ∈ l, x.b.length ≤ 1073741824) :
    Calls Try.prog 38 #[.agg #[.int .i64 lim, .bool false, v]] w fun e w' => Mades w (openD lim false l) e w' := by
  obtain ⟨ao, cap, rfl, hc1, hc2⟩ := h.see.shape
  obtain ⟨W1, hW1⟩ : ∃ W1, W1 = w.alloc (.cells #[.int .i64 lim, .bool false, .slice ao l.length cap] 44 (0, 0)) := ⟨_, rfl⟩
  have e1 : Ext Nil w W1 := by rw [hW1]; exact (Ext.refl _ _).alloc _
  have a1 : At W1 w.heap.size 44 [.int .i64 lim, .bool false, .slice ao l.length cap] := by rw [hW1]; exact At.new w [.int .i64 lim, .bool false, .slice ao l.length cap] 44
  have s1 : W1.heap.size = w.heap.size + 1 := by rw [hW1]; simp
  have e2 : Ext Nil W1 (W1.alloc (.cells #[.pointer none, .pointer none] 82 (0, 0))) := (Ext.refl _ _).alloc _
  have a2 := At.new W1 [.pointer none, .pointer none] 82
  rw [s1] at a2
  have a1 := a1.ext e2 fun h => h
  have eW := e1.same e2
  have sW : (W1.alloc (.cells #[.pointer none, .pointer none] 82 (0, 0))).heap.size = w.heap.size + 2 := by simp [s1]
  have hI := h.ext eW fun _ _ h => h
  obtain ⟨W2, hW2⟩ : ∃ W2, W2 = W1.alloc (.cells #[.pointer none, .pointer none] 82 (0, 0)) := ⟨_, rfl⟩
  rw [← hW2] at a1 a2 eW sW hI
  have HA1 := Lib.hid a1; have HA2 := Lib.hid a2; have HEW := Lib.hid eW; have HSW := Lib.hid sW; have HIM := Lib.hid hI; have HW2 := Lib.hid hW2; have HBY := Lib.hid hbyt
  clear a1 a2 eW e1 e2 s1 sW hI h hW2 hbyt
  have b0 := HA1.out.cell 0 rfl
  have b1 := HA1.out.cell 1 rfl
  have hOD : openD lim false l = if lim < 1 ∨ 1073741824 < lim then none else some (Dk.fresh lim.toNat) := by unfold openD; simp
  rw [hOD]
  clear hOD
  rw [HW2.out] at b0 b1
  subst hW1
  by_cases hl : lim < 1 ∨ 1073741824 < lim
  · rw [if_pos hl]
    have HL := Lib.hid hl
    clear hl
    go_enter Try.func38, Try.ntmps38
    go_wp2_with (first
      | (go_at_call 17; refine (new_bad _ lim HL.out).mono ?_; rintro e w' ⟨rfl, rfl⟩)
      | (go_at_call 49; refine (qnew_bad _ lim HL.out).mono ?_; rintro e w' ⟨rfl, rfl⟩)
      | (go_at_call 18; refine (num_any _ _).mono ?_; rintro e w' ⟨rfl, rfl⟩))
    have hA2 := HA2.out
    have hEW := HEW.out
    rw [HW2.out] at hA2 hEW
    refine bodyPost_ret (results_pair rfl _ (b := w.heap.size + 1) (v1 := .pointer none) (v2 := .pointer none) rfl (hA2.cell 0 rfl) (hA2.cell 1 rfl) (agg_pair _) (size_pair _)) rfl ?_
    exact .inl ⟨rfl, rfl, hEW⟩
  · rw [if_neg hl]
    obtain ⟨n, rfl⟩ := Int.eq_ofNat_of_zero_le (show 0 ≤ lim by omega)
    have g1 : 1 ≤ n := by omega
    have g2 : n ≤ 1073741824 := by omega
    rw [Int.toNat_natCast]
    have hA2 := HA2.out
    have hEW := HEW.out
    have hSW := HSW.out
    rw [HW2.out] at hA2 hEW hSW
    have HA2 := Lib.hid hA2; have HEW := Lib.hid hEW; have HSW := Lib.hid hSW
    clear hl hA2 hEW hSW
    go_enter Try.func38, Try.ntmps38
    go_wp2_with (first
      | (go_at_call 17; refine (new_at _ n g1 g2).mono ?_; rintro e w3 ⟨rfl, h3, e3⟩; have HL3 := Lib.hid (life_new h3 e3); have b03 := e3.cell b0 fun h => h; clear h3; have HE3 := Lib.hid e3; have HR3 := Lib.hid (HA2.out.ext e3 fun h => h); clear e3)
      | (go_at_call 49; refine (qnew_at _ n g1 g2).mono ?_; rintro e w4 ⟨rfl, h4, e4⟩; have HL4 := Lib.hid (qlife_new h4 e4); have HE4 := Lib.hid e4; have HR4 := Lib.hid (HR3.out.ext e4 fun h => h); have x0 := HR4.out.cell 0 rfl; have x1 := HR4.out.cell 1 rfl; have y0 := HR4.out.frozen 0; have y1 := HR4.out.frozen 1; clear h4 e4)
      | (go_at_call 18; refine (num_any _ _).mono ?_; rintro e w' ⟨rfl, rfl⟩))
    have hA5 := two_set (v1 := .pointer (some ⟨w.heap.size + 2 + 1, 0, none⟩)) (v2 := .pointer (some ⟨w3.heap.size, 0, none⟩)) HR4.out
    refine bodyPost_ret (results_pair rfl _ (b := w.heap.size + 1) rfl (hA5.cell 0 rfl) (hA5.cell 1 rfl) (agg_pair _) (size_pair _)) rfl ?_
    obtain ⟨K, hK1, hK2, hK3⟩ := PQ.make HL3.out HL4.out
    rw [HSW.out] at hK1 hK2
    exact made_fin (d := w.heap.size + 2 + 1) hK1 hK2 (HEW.out.same hK3) _ _
theorem own_head {w : World} {t : TypeId} {sz : Nat} {ao : Option Addr} {n cap : Nat} {xs : List Value} (h : Own w t sz (.slice ao n cap) n xs) (hn : 0 < n) : ∃ g c, ao = some ⟨g, 0, none⟩ ∧ cap = c + 1 ∧ g < w.heap.size := by
  rcases h.2 with ⟨ao', h1, h2⟩ | ⟨g, c, cs, h1, h2, -⟩
  · omega
  · simp only [Value.slice.injEq, true_and] at h1
    obtain ⟨rfl, rfl⟩ := h1
    exact ⟨g, c, rfl, rfl, h2.lt⟩
theorem mounted_ok {w : World} {v' : Value} {l l' : List FI} (h : ImgR w v' l') (hp : l'.map FI.pair = l.map FI.pair) {lim : Int} (hE : mountE lim l = 0) : Calls Try.prog 33 #[.agg #[v'], .int .i64 lim] w fun e w' => ∃ d, e = .returned (.tuple #[.pointer (some ⟨d, 0, none⟩), .int .i64 0]) ∧ Life w w' d (mntD lim.toNat l) := by
  have hE' := hE
  rw [← mountE_pair hp] at hE'
  refine (mount_m w v' l' h lim).mono ?_
  rintro e w' (⟨h1, -, -⟩ | ⟨h1, d, h2, h3⟩)
  · exact absurd hE' h1
  · rw [mntD_pair hp] at h3
    exact ⟨d, h2, h3⟩
theorem mounted_no {w : World} {v' : Value} {l l' : List FI} (h : ImgR w v' l') (hp : l'.map FI.pair = l.map FI.pair) {lim : Int} (hE : mountE lim l ≠ 0) : Calls Try.prog 33 #[.agg #[v'], .int .i64 lim] w fun e w' => e = .returned (.tuple #[.pointer none, .int .i64 (mountE lim l)]) ∧ Ext Nil w w' := by
  have hE' := hE
  rw [← mountE_pair hp] at hE'
  refine (mount_m w v' l' h lim).mono ?_
  rintro e w' (⟨h1, h2, h3⟩ | ⟨h1, -⟩)
  · rw [mountE_pair hp] at h2
    exact ⟨h2, h3⟩
  · exact absurd h1 hE'
theorem qmounted_ok {w : World} {v : Value} {l : List FI} (h : ImgR w v l) (hb : ∀ x ∈ l, x.b.length ≤ 549755813888) {lim : Int} (hE : mountE lim l = 0) : Calls Try.prog 72 #[.agg #[v], .int .i64 lim] w fun e w' => ∃ d, e = .returned (.tuple #[.pointer (some ⟨d, 0, none⟩), .int .i64 0]) ∧ QLife w w' d (mntD lim.toNat l) := by
  refine (qmount_m w v l h lim hb).mono ?_
  rintro e w' (⟨h1, -, -⟩ | ⟨h1, d, h2, h3⟩)
  · exact absurd hE h1
  · exact ⟨d, h2, h3⟩
theorem qmounted_no {w : World} {v : Value} {l : List FI} (h : ImgR w v l) (hb : ∀ x ∈ l, x.b.length ≤ 549755813888) {lim : Int} (hE : mountE lim l ≠ 0) : Calls Try.prog 72 #[.agg #[v], .int .i64 lim] w fun e w' => e = .returned (.tuple #[.pointer none, .int .i64 (mountE lim l)]) ∧ Ext Nil w w' := by
  refine (qmount_m w v l h lim hb).mono ?_
  rintro e w' (⟨h1, h2, h3⟩ | ⟨h1, -⟩)
  · exact ⟨h2, h3⟩
  · exact absurd h1 hE
set_option maxRecDepth 20000 in
set_option maxHeartbeats 2000000 in
theorem made_mount_ok (w : World) (lim : Int) (v : Value) (l : List FI) (h : ImgR w v l) (hfew : l.length ≤ 1048576) (hbyt : ∀ x ∈ l, x.b.length ≤ 1073741824) (hE0 : mountE lim l = 0) :
    Calls Try.prog 38 #[.agg #[.int .i64 lim, .bool true, v]] w fun e w' => Mades w (openD lim true l) e w' := by
  obtain ⟨ao, cap, rfl, hc1, hc2⟩ := h.see.shape
  obtain ⟨W1, hW1⟩ : ∃ W1, W1 = w.alloc (.cells #[.int .i64 lim, .bool true, .slice ao l.length cap] 44 (0, 0)) := ⟨_, rfl⟩
  have e1 : Ext Nil w W1 := by rw [hW1]; exact (Ext.refl _ _).alloc _
  have a1 : At W1 w.heap.size 44 [.int .i64 lim, .bool true, .slice ao l.length cap] := by rw [hW1]; exact At.new w [.int .i64 lim, .bool true, .slice ao l.length cap] 44
  have s1 : W1.heap.size = w.heap.size + 1 := by rw [hW1]; simp
  have e2 : Ext Nil W1 (W1.alloc (.cells #[.pointer none, .pointer none] 82 (0, 0))) := (Ext.refl _ _).alloc _
  have a2 := At.new W1 [.pointer none, .pointer none] 82
  rw [s1] at a2
  have a1 := a1.ext e2 fun h => h
  have eW := e1.same e2
  have sW : (W1.alloc (.cells #[.pointer none, .pointer none] 82 (0, 0))).heap.size = w.heap.size + 2 := by simp [s1]
  have hI := h.ext eW fun _ _ h => h
  obtain ⟨W2, hW2⟩ : ∃ W2, W2 = W1.alloc (.cells #[.pointer none, .pointer none] 82 (0, 0)) := ⟨_, rfl⟩
  rw [← hW2] at a1 a2 eW sW hI
  have HA1 := Lib.hid a1; have HA2 := Lib.hid a2; have HEW := Lib.hid eW; have HSW := Lib.hid sW; have HIM := Lib.hid hI; have HW2 := Lib.hid hW2; have HBY := Lib.hid hbyt
  clear a1 a2 eW e1 e2 s1 sW hI h hW2 hbyt
  have hOD : openD lim true l = some (mntD lim.toNat l) := by unfold openD; simp [hE0]
  rw [hOD]
  clear hOD
  have hNM := HIM.out.names
  have b0 := HA1.out.cell 0 rfl
  have b1 := HA1.out.cell 1 rfl
  have b2 := HA1.out.cell 2 rfl
  have hA1 := HA1.out
  have hA2 := HA2.out
  have hEW := HEW.out
  have hSW := HSW.out
  have hIM := HIM.out
  rw [HW2.out] at b0 b1 b2 hA1 hA2 hEW hSW hIM
  have HA1 := Lib.hid hA1; have HA2 := Lib.hid hA2; have HEW := Lib.hid hEW; have HSW := Lib.hid hSW; have HIM := Lib.hid hIM; have HNM := Lib.hid hNM; have HE0 := Lib.hid hE0
  clear hA1 hA2 hEW hSW hIM hNM hE0
  subst hW1
  go_enter Try.func38, Try.ntmps38
  go_wp2_with (go_at_call 71; refine (handed_m _ _ l HIM.out hfew HBY.out).mono ?_; rintro e w3 ⟨fu, uv, L, rfl, hH, hp, e3⟩; have c0 := e3.cell b0 fun h => h; have c2 := e3.cell b2 fun h => h; have HH := Lib.hid hH; have HP := Lib.hid hp; have HE3 := Lib.hid e3; clear hH hp e3)
  have hlen : L.length = l.length := by have := congrArg List.length HP.out; simpa using this
  have hEW := HEW.out
  have hSW := HSW.out
  obtain ⟨fa, fc, hfu, hf1, hf2⟩ := Own.shape HH.out.files
  simp only [List.length_append, List.length_map, List.length_singleton] at hfu hf1
  subst hfu
  obtain ⟨gf, cf, rfl, rfl, hgf⟩ := own_head (by have := HH.out.files; unfold OwnI at this; simpa only [List.length_append, List.length_map, List.length_singleton] using this) (Nat.succ_pos L.length)
  obtain ⟨ua, uc, huv, hu1, hu2⟩ := Own.shape HH.out.full
  subst huv
  rw [hSW] at HH
  have hIR := HH.out.reads fun x hx => by
    obtain ⟨i, hi, rfl⟩ := List.mem_iff_getElem.1 hx
    have e1 := hi_at HP.out (List.getElem?_eq_getElem hi) (List.getElem?_eq_getElem (show i < l.length by omega))
    rw [← e1.1]
    exact HNM.out _ (List.getElem_mem _)
  have HIR := Lib.hid (hIR.ext (F := Nil) (Ext.refl Nil w3).drew fun _ _ h => h)
  have HM := Lib.hid (mounted_ok HIR.out HP.out HE0.out)
  have HEW3 := Lib.hid (hEW.same HE3.out); have HA23 := Lib.hid (HA2.out.ext HE3.out fun h => h)
  have hws := HE3.out.size
  rw [hSW] at hws
  have HIM3 := Lib.hid (HIM.out.ext HE3.out fun _ _ h => h)
  try rw [hlen] at hf1
  try rw [hlen] at hu1
  try rw [hlen] at HH
  try rw [hlen] at HIR
  try rw [hlen] at HM
  rw [hlen]
  have HLEN := Lib.hid hlen
  have hnf : l.length ≤ cf + 1 := by omega
  have hnf2 : ¬ (cf : Int) + 1 < (l.length : Int) := by omega
  have HWS := Lib.hid hws
  clear hlen hEW hSW hIR b0 b1 b2 HA1 HA2 HEW HSW HIM HE3 hws
  generalize hWW : (w.alloc (.cells #[.int .i64 lim, .bool true, .slice ao l.length cap] 44 (0, 0))).alloc (.cells #[.pointer none, .pointer none] 82 (0, 0)) = WQ at *
  clear hWW
  refine wp_region_held_drew (S := fun w' => w'.cell? ⟨w.heap.size, 0, none⟩ = some (.int .i64 lim) ∧ w'.cell? ⟨w.heap.size, 2, none⟩ = some (.slice ao l.length cap)) (by kernel_rfl) ⟨c0, c2⟩ (fun hHeld => ?_)
  refine wpAnyH_take (i := 0) (v := .slice (some ⟨gf, 0, none⟩) (l.length + 1) (cf + 1)) rfl (by kernel_rfl) (by kernel_rfl) (by kernel_rfl) (fun _ _ _ h => h) (Or.inl ⟨by rfl, ?y1⟩) (by assumption) ?r1
  case y1 => (intro w hSw; obtain ⟨s1, s2⟩ := hSw; go_simp)
  simp only [Act.put]
  refine wpAnyH_take (i := 1) (v := .pointer (some ⟨w.heap.size, 2, none⟩)) rfl (by kernel_rfl) (by kernel_rfl) (by kernel_rfl) (fun _ _ _ h => h) (Or.inl ⟨by rfl, ?y2⟩) (by assumption) ?r2
  case y2 => (intro w hSw; obtain ⟨s1, s2⟩ := hSw; go_simp)
  simp only [Act.put]
  refine wpAnyH_take (i := 2) (v := .pointer (some ⟨w.heap.size, 2, none⟩)) rfl (by kernel_rfl) (by kernel_rfl) (by kernel_rfl) (fun _ _ _ h => h) (Or.inl ⟨by rfl, ?y3⟩) (by assumption) ?r3
  case y3 => (intro w hSw; obtain ⟨s1, s2⟩ := hSw; go_simp)
  simp only [Act.put]
  refine wpAnyH_take (i := 3) (v := .slice ao l.length cap) rfl (by kernel_rfl) (by kernel_rfl) (by kernel_rfl) (fun _ _ _ h => h) (Or.inl ⟨by rfl, ?y4⟩) (by assumption) ?r4
  case y4 => (intro w hSw; obtain ⟨s1, s2⟩ := hSw; go_simp)
  simp only [Act.put]
  refine wpAnyH_take (i := 4) (v := .int .i64 l.length) rfl (by kernel_rfl) (by kernel_rfl) (by kernel_rfl) (fun _ _ _ h => h) (Or.inl ⟨by rfl, ?y5⟩) (by assumption) ?r5
  case y5 => (intro w hSw; obtain ⟨s1, s2⟩ := hSw; go_simp)
  simp only [Act.put]
  refine wpAnyH_take (i := 5) (v := .slice (some ⟨gf, 0, none⟩) l.length (cf + 1)) rfl (by kernel_rfl) (by kernel_rfl) (by kernel_rfl) (fun _ _ _ h => h) (Or.inl ⟨by rfl, ?y6⟩) (by assumption) ?r6
  case y6 => (intro w hSw; obtain ⟨s1, s2⟩ := hSw; go_simp)
  simp only [Act.put]
  refine wpAnyH_take (i := 6) (v := .agg #[.slice (some ⟨gf, 0, none⟩) l.length (cf + 1)]) rfl (by kernel_rfl) (by kernel_rfl) (by kernel_rfl) (fun _ _ _ h => h) (Or.inl ⟨by rfl, ?y7⟩) (by assumption) ?r7
  case y7 => (intro w hSw; obtain ⟨s1, s2⟩ := hSw; go_simp)
  simp only [Act.put]
  refine wpAnyH_take (i := 7) (v := .pointer (some ⟨w.heap.size, 0, none⟩)) rfl (by kernel_rfl) (by kernel_rfl) (by kernel_rfl) (fun _ _ _ h => h) (Or.inl ⟨by rfl, ?y8⟩) (by assumption) ?r8
  case y8 => (intro w hSw; obtain ⟨s1, s2⟩ := hSw; go_simp)
  simp only [Act.put]
  refine wpAnyH_take (i := 8) (v := .int .i64 lim) rfl (by kernel_rfl) (by kernel_rfl) (by kernel_rfl) (fun _ _ _ h => h) (Or.inl ⟨by rfl, ?y9⟩) (by assumption) ?r9
  case y9 => (intro w hSw; obtain ⟨s1, s2⟩ := hSw; go_simp)
  simp only [Act.put]
  refine wpAnyH_ready (rs := [9]) (by kernel_rfl) (by simp) (AllReadyH.cons rfl (fun K hK => ?_) AllReadyH.nil)
  go_simp
  refine (HM.out).mono ?_
  rintro e w4 ⟨d, rfl, hL4⟩
  have e4 := hL4.world
  have e4 : Ext Nil w3 w4 := (Ext.refl Nil w3).drew.same e4
  have c04 := e4.cell c0 fun h => h
  have c24 := e4.cell c2 fun h => h
  have HE4 := Lib.hid e4; have HH4 := Lib.hid (HH.out.ext0 e4); have HA24 := Lib.hid (HA23.out.ext e4 fun h => h); have HIM4 := Lib.hid (HIM3.out.ext e4 fun _ _ h => h)
  have HL4 := Lib.hid hL4
  clear hL4
  clear e4 c0 c2
  go_wp2_with fail
  refine hK.out _ _ ⟨c04, c24⟩ (fun hHeld => ?_)
  clear hK K
  refine wpAnyH_take (i := 10) (v := .tuple #[.pointer (some ⟨d, 0, none⟩), .int .i64 0]) rfl (by kernel_rfl) (by kernel_rfl) (by kernel_rfl) (fun _ _ _ h => h) (Or.inl ⟨by rfl, ?y10⟩) (by assumption) ?r10
  case y10 => (intro w hSw; obtain ⟨s1, s2⟩ := hSw; go_simp)
  simp only [Act.put]
  refine wpAnyH_take (i := 11) (v := .pointer (some ⟨d, 0, none⟩)) rfl (by kernel_rfl) (by kernel_rfl) (by kernel_rfl) (fun _ _ _ h => h) (Or.inl ⟨by rfl, ?y11⟩) (by assumption) ?r11
  case y11 => (intro w hSw; obtain ⟨s1, s2⟩ := hSw; go_simp)
  simp only [Act.put]
  refine wpAnyH_take (i := 12) (v := .int .i64 0) rfl (by kernel_rfl) (by kernel_rfl) (by kernel_rfl) (fun _ _ _ h => h) (Or.inl ⟨by rfl, ?y12⟩) (by assumption) ?r12
  case y12 => (intro w hSw; obtain ⟨s1, s2⟩ := hSw; go_simp)
  simp only [Act.put]
  refine wpAnyH_take (i := 13) (v := .pointer (some ⟨d, 0, none⟩)) rfl (by kernel_rfl) (by kernel_rfl) (by kernel_rfl) (fun _ _ _ h => h) (Or.inl ⟨by rfl, ?y13⟩) (by assumption) ?r13
  case y13 => (intro w hSw; obtain ⟨s1, s2⟩ := hSw; go_simp)
  simp only [Act.put]
  refine wpAnyH_take (i := 14) (v := .int .i64 0) rfl (by kernel_rfl) (by kernel_rfl) (by kernel_rfl) (fun _ _ _ h => h) (Or.inl ⟨by rfl, ?y14⟩) (by assumption) ?r14
  case y14 => (intro w hSw; obtain ⟨s1, s2⟩ := hSw; go_simp)
  simp only [Act.put]
  refine wpAnyH_done (by kernel_rfl) ?_ _
  go_wp2_with (first
    | (go_at_call 72; refine (qmounted_ok HIM4.out (fun x hx => by have := HBY.out x hx; omega) HE0.out).mono ?_; rintro e w5 ⟨q, rfl, hL5⟩; have e5 := hL5.world; have HL5 := Lib.hid hL5; clear hL5; have c25 := e5.cell c24 fun h => h; have HH5 := Lib.hid (HH4.out.ext0 e5); have HA25 := Lib.hid (HA24.out.ext e5 fun h => h); have HIM5 := Lib.hid (HIM4.out.ext e5 fun _ _ h => h); have HE5 := Lib.hid e5; clear e5 c24)
    | (go_at_call 73; refine (untouched_m _ _ _ _ _ L l HH5.out HIM5.out.see HP.out hfew HBY.out).mono ?_; rintro e w6 ⟨rfl, e6⟩; have HH6 := Lib.hid (HH5.out.ext0 e6); have HA26 := Lib.hid (HA25.out.ext e6 fun h => h); have HE6 := Lib.hid e6; clear e6 c25))
  have hSPL := HH6.out.spl
  have HSPL := Lib.hid (fun k hk => (hSPL k hk).1)
  clear hSPL
  go_loopw [15] (fun i wr => ∃ (k : Nat), i = .int .i64 (k : Int) ∧ k ≤ l.length ∧ Spd w6 wr (.slice (some ⟨gf, 0, none⟩) (l.length + 1) (cf + 1)) (.slice ua l.length uc) (l.length + 1) L) (fun i _ => l.length - (intOf i).toNat)
  case atStart => exact ⟨0, rfl, Nat.zero_le _, by have := HH6.out.spd; rw [List.length_append, List.length_map, List.length_singleton, HLEN.out] at this; exact this⟩
  case round =>
    obtain ⟨k, rfl, hk, hS⟩ := hrel
    by_cases hlt : k < l.length
    · obtain ⟨x, hx⟩ : ∃ x, L[k]? = some x := ⟨_, List.getElem?_eq_getElem (by have := HLEN.out; omega)⟩
      have hxm := List.mem_of_getElem? hx
      obtain ⟨gu, cu, rfl, rfl, hgu, hful⟩ := full_at (by have := hS.full; rw [HLEN.out] at this; exact this) (by omega)
      have u0 := hful k x hx
      replace u0 : wr.cell? ⟨gu, k, none⟩ = some (.slice (some ⟨x.g, 0, none⟩) (x.b.length + 3) x.cap) := u0
      obtain ⟨B, hB1, hB2⟩ := hS.each x hxm
      replace hB2 : OwnB wr (.slice (some ⟨x.g, 0, none⟩) (x.b.length + 3) x.cap) B := hB2
      obtain ⟨y, hy⟩ : ∃ y, l[k]? = some y := ⟨_, List.getElem?_eq_getElem hlt⟩
      have hyb := HBY.out y (List.mem_of_getElem? hy)
      rw [(hi_at HP.out hx hy).2] at hyb
      have HSP := Lib.hid (spoil_n wr x.g (x.b.length + 3) x.cap B hB1 hB2 (by omega) (by unfold Fits; omega))
      have HS := Lib.hid hS; have HXM := Lib.hid hxm
      clear hful hB1 hB2 hy hx hS hxm
      go_wp2_with (go_at_call 54; refine (HSP.out).mono ?_; rintro e w7 ⟨rfl, ⟨B', hB', hO'⟩, e7⟩; have HN7 := Lib.hid (HS.out.next HH6.out HXM.out hB' hO' e7); clear hB' hO' e7)
      exact ⟨⟨k + 1, by first | rfl | go_num, by omega, HN7.out⟩, by simp [intOf]; omega⟩
    · have hnot : ¬ (k : Int) < (l.length : Int) := by omega
      have HS := Lib.hid hS
      clear hS
      go_wp2_with fail
      go_loopw [16] (fun i wq => ∃ (k : Nat), i = .int .i64 (k : Int) ∧ k ≤ l.length + 1 ∧ Ext (spl (.slice (some ⟨gf, 0, none⟩) (l.length + 1) (cf + 1)) L) w6 wq ∧ ∃ cs, Own wq 41 2 (.slice (some ⟨gf, 0, none⟩) (l.length + 1) (cf + 1)) (l.length + 1) cs) (fun i _ => (l.length + 1) - (intOf i).toNat)
      case atStart => exact ⟨0, rfl, Nat.zero_le _, HS.out.ext, HS.out.files⟩
      case round =>
        obtain ⟨k, rfl, hk, hX, cs, hcs⟩ := hrel
        by_cases hlt : k < l.length + 1
        · obtain ⟨g', c', h1, h2, hgl, ⟨u, hu⟩, hz, hO, hX2⟩ := files_store hcs hX hlt (.string ⟨#[120]⟩)
          simp only [Option.some.injEq, Addr.mk.injEq, and_true, Nat.add_right_cancel_iff] at h1 h2
          subst h1 h2
          have hlt2 : (k : Int) < (l.length : Int) + 1 := by omega
          have HO := Lib.hid hO; have HX2 := Lib.hid hX2
          clear hO hX2 hcs hX
          go_wp2_with fail
          exact ⟨⟨k + 1, by first | rfl | go_num, by omega, HX2.out, HO.out⟩, by simp [intOf]; omega⟩
        · obtain rfl : k = l.length + 1 := by omega
          have hnot2 : ¬ ((l.length + 1 : Nat) : Int) < (l.length : Int) + 1 := by omega
          have hR := HA26.out.ext hX fun e => by have := HSPL.out _ e; omega
          have r0 := hR.cell 0 rfl
          have r1 := hR.cell 1 rfl
          have r2 := hR.frozen 0
          have r3 := hR.frozen 1
          have HR := Lib.hid hR; have HX := Lib.hid hX
          clear hR hX hcs
          go_wp2_with (go_at_call 18; refine (num_any _ _).mono ?_; rintro e w' ⟨rfl, rfl⟩)
          have hR2 := two_set (v1 := .pointer (some ⟨d, 0, none⟩)) (v2 := .pointer (some ⟨q, 0, none⟩)) HR.out
          refine bodyPost_ret (results_pair rfl _ (b := w.heap.size + 1) (v1 := .pointer (some ⟨d, 0, none⟩)) (v2 := .pointer (some ⟨q, 0, none⟩)) rfl (hR2.cell 0 rfl) (hR2.cell 1 rfl) (agg_pair _) (size_pair _)) rfl ?_
          have hwW : Ext Nil w w6 := (((HEW3.out.same HE4.out).same HE5.out).same HE6.out)
          have hwq : Ext Nil w wr := hwW.trans HX.out fun i hi hs => by have := HSPL.out i hs; omega
          obtain ⟨K, hK1, hK2, hK3⟩ := PQ.make HL4.out HL5.out
          have hws := HWS.out
          have hK2' : ∀ k, K k → w3.heap.size ≤ k := hK2
          exact made_fin ((hK1.ext0 HE6.out).ext HX.out fun i hi hs => by have := hK2' i hi; have := (HH.out.spl i hs).2.1; omega) (fun i hi => by have := hK2' i hi; omega) hwq _ _
set_option maxRecDepth 20000 in
set_option maxHeartbeats 2000000 in
theorem made_mount_no (w : World) (lim : Int) (v : Value) (l : List FI) (h : ImgR w v l) (hfew : l.length ≤ 1048576) (hbyt : ∀ x ∈ l, x.b.length ≤ 1073741824) (hE0 : mountE lim l ≠ 0) :
    Calls Try.prog 38 #[.agg #[.int .i64 lim, .bool true, v]] w fun e w' => Mades w (openD lim true l) e w' := by
  obtain ⟨ao, cap, rfl, hc1, hc2⟩ := h.see.shape
  obtain ⟨W1, hW1⟩ : ∃ W1, W1 = w.alloc (.cells #[.int .i64 lim, .bool true, .slice ao l.length cap] 44 (0, 0)) := ⟨_, rfl⟩
  have e1 : Ext Nil w W1 := by rw [hW1]; exact (Ext.refl _ _).alloc _
  have a1 : At W1 w.heap.size 44 [.int .i64 lim, .bool true, .slice ao l.length cap] := by rw [hW1]; exact At.new w [.int .i64 lim, .bool true, .slice ao l.length cap] 44
  have s1 : W1.heap.size = w.heap.size + 1 := by rw [hW1]; simp
  have e2 : Ext Nil W1 (W1.alloc (.cells #[.pointer none, .pointer none] 82 (0, 0))) := (Ext.refl _ _).alloc _
  have a2 := At.new W1 [.pointer none, .pointer none] 82
  rw [s1] at a2
  have a1 := a1.ext e2 fun h => h
  have eW := e1.same e2
  have sW : (W1.alloc (.cells #[.pointer none, .pointer none] 82 (0, 0))).heap.size = w.heap.size + 2 := by simp [s1]
  have hI := h.ext eW fun _ _ h => h
  obtain ⟨W2, hW2⟩ : ∃ W2, W2 = W1.alloc (.cells #[.pointer none, .pointer none] 82 (0, 0)) := ⟨_, rfl⟩
  rw [← hW2] at a1 a2 eW sW hI
  have HA1 := Lib.hid a1; have HA2 := Lib.hid a2; have HEW := Lib.hid eW; have HSW := Lib.hid sW; have HIM := Lib.hid hI; have HW2 := Lib.hid hW2; have HBY := Lib.hid hbyt
  clear a1 a2 eW e1 e2 s1 sW hI h hW2 hbyt
  have hOD : openD lim true l = none := by unfold openD; simp [hE0]
  rw [hOD]
  clear hOD
  have hNM := HIM.out.names
  have b0 := HA1.out.cell 0 rfl
  have b1 := HA1.out.cell 1 rfl
  have b2 := HA1.out.cell 2 rfl
  have hA1 := HA1.out
  have hA2 := HA2.out
  have hEW := HEW.out
  have hSW := HSW.out
  have hIM := HIM.out
  rw [HW2.out] at b0 b1 b2 hA1 hA2 hEW hSW hIM
  have HA1 := Lib.hid hA1; have HA2 := Lib.hid hA2; have HEW := Lib.hid hEW; have HSW := Lib.hid hSW; have HIM := Lib.hid hIM; have HNM := Lib.hid hNM; have HE0 := Lib.hid hE0
  clear hA1 hA2 hEW hSW hIM hNM hE0
  subst hW1
  go_enter Try.func38, Try.ntmps38
  go_wp2_with (go_at_call 71; refine (handed_m _ _ l HIM.out hfew HBY.out).mono ?_; rintro e w3 ⟨fu, uv, L, rfl, hH, hp, e3⟩; have c0 := e3.cell b0 fun h => h; have c2 := e3.cell b2 fun h => h; have HH := Lib.hid hH; have HP := Lib.hid hp; have HE3 := Lib.hid e3; clear hH hp e3)
  have hlen : L.length = l.length := by have := congrArg List.length HP.out; simpa using this
  have hEW := HEW.out
  have hSW := HSW.out
  obtain ⟨fa, fc, hfu, hf1, hf2⟩ := Own.shape HH.out.files
  simp only [List.length_append, List.length_map, List.length_singleton] at hfu hf1
  subst hfu
  obtain ⟨gf, cf, rfl, rfl, hgf⟩ := own_head (by have := HH.out.files; unfold OwnI at this; simpa only [List.length_append, List.length_map, List.length_singleton] using this) (Nat.succ_pos L.length)
  obtain ⟨ua, uc, huv, hu1, hu2⟩ := Own.shape HH.out.full
  subst huv
  rw [hSW] at HH
  have hIR := HH.out.reads fun x hx => by
    obtain ⟨i, hi, rfl⟩ := List.mem_iff_getElem.1 hx
    have e1 := hi_at HP.out (List.getElem?_eq_getElem hi) (List.getElem?_eq_getElem (show i < l.length by omega))
    rw [← e1.1]
    exact HNM.out _ (List.getElem_mem _)
  have HIR := Lib.hid (hIR.ext (F := Nil) (Ext.refl Nil w3).drew fun _ _ h => h)
  have HM := Lib.hid (mounted_no HIR.out HP.out HE0.out)
  have HEW3 := Lib.hid (hEW.same HE3.out); have HA23 := Lib.hid (HA2.out.ext HE3.out fun h => h)
  have hws := HE3.out.size
  rw [hSW] at hws
  have HIM3 := Lib.hid (HIM.out.ext HE3.out fun _ _ h => h)
  try rw [hlen] at hf1
  try rw [hlen] at hu1
  try rw [hlen] at HH
  try rw [hlen] at HIR
  try rw [hlen] at HM
  rw [hlen]
  have HLEN := Lib.hid hlen
  have hnf : l.length ≤ cf + 1 := by omega
  have hnf2 : ¬ (cf : Int) + 1 < (l.length : Int) := by omega
  have HWS := Lib.hid hws
  clear hlen hEW hSW hIR b0 b1 b2 HA1 HA2 HEW HSW HIM HE3 hws
  generalize hWW : (w.alloc (.cells #[.int .i64 lim, .bool true, .slice ao l.length cap] 44 (0, 0))).alloc (.cells #[.pointer none, .pointer none] 82 (0, 0)) = WQ at *
  clear hWW
  refine wp_region_held_drew (S := fun w' => w'.cell? ⟨w.heap.size, 0, none⟩ = some (.int .i64 lim) ∧ w'.cell? ⟨w.heap.size, 2, none⟩ = some (.slice ao l.length cap)) (by kernel_rfl) ⟨c0, c2⟩ (fun hHeld => ?_)
  refine wpAnyH_take (i := 0) (v := .slice (some ⟨gf, 0, none⟩) (l.length + 1) (cf + 1)) rfl (by kernel_rfl) (by kernel_rfl) (by kernel_rfl) (fun _ _ _ h => h) (Or.inl ⟨by rfl, ?y15⟩) (by assumption) ?r15
  case y15 => (intro w hSw; obtain ⟨s1, s2⟩ := hSw; go_simp)
  simp only [Act.put]
  refine wpAnyH_take (i := 1) (v := .pointer (some ⟨w.heap.size, 2, none⟩)) rfl (by kernel_rfl) (by kernel_rfl) (by kernel_rfl) (fun _ _ _ h => h) (Or.inl ⟨by rfl, ?y16⟩) (by assumption) ?r16
  case y16 => (intro w hSw; obtain ⟨s1, s2⟩ := hSw; go_simp)
  simp only [Act.put]
  refine wpAnyH_take (i := 2) (v := .pointer (some ⟨w.heap.size, 2, none⟩)) rfl (by kernel_rfl) (by kernel_rfl) (by kernel_rfl) (fun _ _ _ h => h) (Or.inl ⟨by rfl, ?y17⟩) (by assumption) ?r17
  case y17 => (intro w hSw; obtain ⟨s1, s2⟩ := hSw; go_simp)
  simp only [Act.put]
  refine wpAnyH_take (i := 3) (v := .slice ao l.length cap) rfl (by kernel_rfl) (by kernel_rfl) (by kernel_rfl) (fun _ _ _ h => h) (Or.inl ⟨by rfl, ?y18⟩) (by assumption) ?r18
  case y18 => (intro w hSw; obtain ⟨s1, s2⟩ := hSw; go_simp)
  simp only [Act.put]
  refine wpAnyH_take (i := 4) (v := .int .i64 l.length) rfl (by kernel_rfl) (by kernel_rfl) (by kernel_rfl) (fun _ _ _ h => h) (Or.inl ⟨by rfl, ?y19⟩) (by assumption) ?r19
  case y19 => (intro w hSw; obtain ⟨s1, s2⟩ := hSw; go_simp)
  simp only [Act.put]
  refine wpAnyH_take (i := 5) (v := .slice (some ⟨gf, 0, none⟩) l.length (cf + 1)) rfl (by kernel_rfl) (by kernel_rfl) (by kernel_rfl) (fun _ _ _ h => h) (Or.inl ⟨by rfl, ?y20⟩) (by assumption) ?r20
  case y20 => (intro w hSw; obtain ⟨s1, s2⟩ := hSw; go_simp)
  simp only [Act.put]
  refine wpAnyH_take (i := 6) (v := .agg #[.slice (some ⟨gf, 0, none⟩) l.length (cf + 1)]) rfl (by kernel_rfl) (by kernel_rfl) (by kernel_rfl) (fun _ _ _ h => h) (Or.inl ⟨by rfl, ?y21⟩) (by assumption) ?r21
  case y21 => (intro w hSw; obtain ⟨s1, s2⟩ := hSw; go_simp)
  simp only [Act.put]
  refine wpAnyH_take (i := 7) (v := .pointer (some ⟨w.heap.size, 0, none⟩)) rfl (by kernel_rfl) (by kernel_rfl) (by kernel_rfl) (fun _ _ _ h => h) (Or.inl ⟨by rfl, ?y22⟩) (by assumption) ?r22
  case y22 => (intro w hSw; obtain ⟨s1, s2⟩ := hSw; go_simp)
  simp only [Act.put]
  refine wpAnyH_take (i := 8) (v := .int .i64 lim) rfl (by kernel_rfl) (by kernel_rfl) (by kernel_rfl) (fun _ _ _ h => h) (Or.inl ⟨by rfl, ?y23⟩) (by assumption) ?r23
  case y23 => (intro w hSw; obtain ⟨s1, s2⟩ := hSw; go_simp)
  simp only [Act.put]
  refine wpAnyH_ready (rs := [9]) (by kernel_rfl) (by simp) (AllReadyH.cons rfl (fun K hK => ?_) AllReadyH.nil)
  go_simp
  refine (HM.out).mono ?_
  rintro e w4 ⟨rfl, e4⟩
  have e4 : Ext Nil w3 w4 := (Ext.refl Nil w3).drew.same e4
  have c04 := e4.cell c0 fun h => h
  have c24 := e4.cell c2 fun h => h
  have HE4 := Lib.hid e4; have HH4 := Lib.hid (HH.out.ext0 e4); have HA24 := Lib.hid (HA23.out.ext e4 fun h => h); have HIM4 := Lib.hid (HIM3.out.ext e4 fun _ _ h => h)
  clear e4 c0 c2
  go_wp2_with fail
  refine hK.out _ _ ⟨c04, c24⟩ (fun hHeld => ?_)
  clear hK K
  refine wpAnyH_take (i := 10) (v := .tuple #[.pointer none, .int .i64 (mountE lim l)]) rfl (by kernel_rfl) (by kernel_rfl) (by kernel_rfl) (fun _ _ _ h => h) (Or.inl ⟨by rfl, ?y24⟩) (by assumption) ?r24
  case y24 => (intro w hSw; obtain ⟨s1, s2⟩ := hSw; go_simp)
  simp only [Act.put]
  refine wpAnyH_take (i := 11) (v := .pointer none) rfl (by kernel_rfl) (by kernel_rfl) (by kernel_rfl) (fun _ _ _ h => h) (Or.inl ⟨by rfl, ?y25⟩) (by assumption) ?r25
  case y25 => (intro w hSw; obtain ⟨s1, s2⟩ := hSw; go_simp)
  simp only [Act.put]
  refine wpAnyH_take (i := 12) (v := .int .i64 (mountE lim l)) rfl (by kernel_rfl) (by kernel_rfl) (by kernel_rfl) (fun _ _ _ h => h) (Or.inl ⟨by rfl, ?y26⟩) (by assumption) ?r26
  case y26 => (intro w hSw; obtain ⟨s1, s2⟩ := hSw; go_simp)
  simp only [Act.put]
  refine wpAnyH_take (i := 13) (v := .pointer none) rfl (by kernel_rfl) (by kernel_rfl) (by kernel_rfl) (fun _ _ _ h => h) (Or.inl ⟨by rfl, ?y27⟩) (by assumption) ?r27
  case y27 => (intro w hSw; obtain ⟨s1, s2⟩ := hSw; go_simp)
  simp only [Act.put]
  refine wpAnyH_take (i := 14) (v := .int .i64 (mountE lim l)) rfl (by kernel_rfl) (by kernel_rfl) (by kernel_rfl) (fun _ _ _ h => h) (Or.inl ⟨by rfl, ?y28⟩) (by assumption) ?r28
  case y28 => (intro w hSw; obtain ⟨s1, s2⟩ := hSw; go_simp)
  simp only [Act.put]
  refine wpAnyH_done (by kernel_rfl) ?_ _
  go_wp2_with (first
    | (go_at_call 72; refine (qmounted_no HIM4.out (fun x hx => by have := HBY.out x hx; omega) HE0.out).mono ?_; rintro e w5 ⟨rfl, e5⟩; have c25 := e5.cell c24 fun h => h; have HH5 := Lib.hid (HH4.out.ext0 e5); have HA25 := Lib.hid (HA24.out.ext e5 fun h => h); have HIM5 := Lib.hid (HIM4.out.ext e5 fun _ _ h => h); have HE5 := Lib.hid e5; clear e5 c24)
    | (go_at_call 73; refine (untouched_m _ _ _ _ _ L l HH5.out HIM5.out.see HP.out hfew HBY.out).mono ?_; rintro e w6 ⟨rfl, e6⟩; have HH6 := Lib.hid (HH5.out.ext0 e6); have HA26 := Lib.hid (HA25.out.ext e6 fun h => h); have HE6 := Lib.hid e6; clear e6 c25))
  have hSPL := HH6.out.spl
  have HSPL := Lib.hid (fun k hk => (hSPL k hk).1)
  clear hSPL
  go_loopw [15] (fun i wr => ∃ (k : Nat), i = .int .i64 (k : Int) ∧ k ≤ l.length ∧ Spd w6 wr (.slice (some ⟨gf, 0, none⟩) (l.length + 1) (cf + 1)) (.slice ua l.length uc) (l.length + 1) L) (fun i _ => l.length - (intOf i).toNat)
  case atStart => exact ⟨0, rfl, Nat.zero_le _, by have := HH6.out.spd; rw [List.length_append, List.length_map, List.length_singleton, HLEN.out] at this; exact this⟩
  case round =>
    obtain ⟨k, rfl, hk, hS⟩ := hrel
    by_cases hlt : k < l.length
    · obtain ⟨x, hx⟩ : ∃ x, L[k]? = some x := ⟨_, List.getElem?_eq_getElem (by have := HLEN.out; omega)⟩
      have hxm := List.mem_of_getElem? hx
      obtain ⟨gu, cu, rfl, rfl, hgu, hful⟩ := full_at (by have := hS.full; rw [HLEN.out] at this; exact this) (by omega)
      have u0 := hful k x hx
      replace u0 : wr.cell? ⟨gu, k, none⟩ = some (.slice (some ⟨x.g, 0, none⟩) (x.b.length + 3) x.cap) := u0
      obtain ⟨B, hB1, hB2⟩ := hS.each x hxm
      replace hB2 : OwnB wr (.slice (some ⟨x.g, 0, none⟩) (x.b.length + 3) x.cap) B := hB2
      obtain ⟨y, hy⟩ : ∃ y, l[k]? = some y := ⟨_, List.getElem?_eq_getElem hlt⟩
      have hyb := HBY.out y (List.mem_of_getElem? hy)
      rw [(hi_at HP.out hx hy).2] at hyb
      have HSP := Lib.hid (spoil_n wr x.g (x.b.length + 3) x.cap B hB1 hB2 (by omega) (by unfold Fits; omega))
      have HS := Lib.hid hS; have HXM := Lib.hid hxm
      clear hful hB1 hB2 hy hx hS hxm
      go_wp2_with (go_at_call 54; refine (HSP.out).mono ?_; rintro e w7 ⟨rfl, ⟨B', hB', hO'⟩, e7⟩; have HN7 := Lib.hid (HS.out.next HH6.out HXM.out hB' hO' e7); clear hB' hO' e7)
      exact ⟨⟨k + 1, by first | rfl | go_num, by omega, HN7.out⟩, by simp [intOf]; omega⟩
    · have hnot : ¬ (k : Int) < (l.length : Int) := by omega
      have HS := Lib.hid hS
      clear hS
      go_wp2_with fail
      go_loopw [16] (fun i wq => ∃ (k : Nat), i = .int .i64 (k : Int) ∧ k ≤ l.length + 1 ∧ Ext (spl (.slice (some ⟨gf, 0, none⟩) (l.length + 1) (cf + 1)) L) w6 wq ∧ ∃ cs, Own wq 41 2 (.slice (some ⟨gf, 0, none⟩) (l.length + 1) (cf + 1)) (l.length + 1) cs) (fun i _ => (l.length + 1) - (intOf i).toNat)
      case atStart => exact ⟨0, rfl, Nat.zero_le _, HS.out.ext, HS.out.files⟩
      case round =>
        obtain ⟨k, rfl, hk, hX, cs, hcs⟩ := hrel
        by_cases hlt : k < l.length + 1
        · obtain ⟨g', c', h1, h2, hgl, ⟨u, hu⟩, hz, hO, hX2⟩ := files_store hcs hX hlt (.string ⟨#[120]⟩)
          simp only [Option.some.injEq, Addr.mk.injEq, and_true, Nat.add_right_cancel_iff] at h1 h2
          subst h1 h2
          have hlt2 : (k : Int) < (l.length : Int) + 1 := by omega
          have HO := Lib.hid hO; have HX2 := Lib.hid hX2
          clear hO hX2 hcs hX
          go_wp2_with fail
          exact ⟨⟨k + 1, by first | rfl | go_num, by omega, HX2.out, HO.out⟩, by simp [intOf]; omega⟩
        · obtain rfl : k = l.length + 1 := by omega
          have hnot2 : ¬ ((l.length + 1 : Nat) : Int) < (l.length : Int) + 1 := by omega
          have hR := HA26.out.ext hX fun e => by have := HSPL.out _ e; omega
          have r0 := hR.cell 0 rfl
          have r1 := hR.cell 1 rfl
          have r2 := hR.frozen 0
          have r3 := hR.frozen 1
          have HR := Lib.hid hR; have HX := Lib.hid hX
          clear hR hX hcs
          go_wp2_with (go_at_call 18; refine (num_any _ _).mono ?_; rintro e w' ⟨rfl, rfl⟩)
          have hR2 := two_set (v1 := .pointer none) (v2 := .pointer none) HR.out
          refine bodyPost_ret (results_pair rfl _ (b := w.heap.size + 1) (v1 := .pointer none) (v2 := .pointer none) rfl (hR2.cell 0 rfl) (hR2.cell 1 rfl) (agg_pair _) (size_pair _)) rfl ?_
          have hwW : Ext Nil w w6 := (((HEW3.out.same HE4.out).same HE5.out).same HE6.out)
          have hwq : Ext Nil w wr := hwW.trans HX.out fun i hi hs => by have := HSPL.out i hs; omega
          exact .inl ⟨rfl, rfl, hwq.trans (((Ext.refl (One (w.heap.size + 1)) wr).setCell (p := ⟨w.heap.size + 1, 0, none⟩) (fun _ => rfl) _).setCell (p := ⟨w.heap.size + 1, 1, none⟩) (fun _ => rfl) _) fun i hi e => by have e : i = w.heap.size + 1 := e; omega⟩
theorem made_m (w : World) (lim : Int) (m : Bool) (v : Value) (l : List FI) (h : ImgR w v l) (hfew : l.length ≤ 1048576) (hbyt : ∀ x ∈ l, x.b.length ≤ 1073741824) :
    Calls Try.prog 38 #[.agg #[.int .i64 lim, .bool m, v]] w fun e w' => Mades w (openD lim m l) e w' := by
  cases m
  · exact made_new_m w lim v l h hbyt
  · by_cases hE : mountE lim l = 0
    · exact made_mount_ok w lim v l h hfew hbyt hE
    · exact made_mount_no w lim v l h hfew hbyt hE
end Go.Proofs.Ytnppneilbkmnfaa
