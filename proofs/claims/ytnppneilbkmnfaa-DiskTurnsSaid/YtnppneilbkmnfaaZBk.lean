/- The contract of the laws' copied. Condition: the image can be read. | The walk of the law DiskBack: it returns true, and no older memory turns. Condition: the arguments can be read. -/
import Derived.Test.YtnppneilbkmnfaaZG
import Derived.Test.YtnppneilbkmnfaaZSu
namespace Go.Proofs.Ytnppneilbkmnfaa
open Go.RowKit

theorem foot_some {a : Addr} {n c : Nat} (h : 0 < c) : foot (.slice (some a) n c) = some a.block := by
  obtain ⟨d, rfl⟩ : ∃ d, c = d + 1 := ⟨c - 1, by omega⟩
  rfl
theorem results_image1 {P : Program} {fn : Func} {a : Tmp} (h : fn.results = #[.cell a 36]) (tmps : Array Value) {w : World} {b : Nat} {v : Value} (ha : tmps.getD a undef = .pointer (some ⟨b, 0, none⟩)) (hc : w.cell? ⟨b, 0, none⟩ = some v) (hP : (isAgg 36).run P w = .ok true w) (hZ : (sizeOf 36).run P w = .ok 1 w) :
    (results fn tmps).run P w = .ok (.agg #[v]) w := by
  have e0 : (⟨b, 0, none⟩ : Addr).add 0 = ⟨b, 0, none⟩ := rfl
  rw [Array.getD_eq_getD_getElem?] at ha
  simp [results, h, ha, loadVar, asAddr, loadCells, loadCellsFrom, e0, Result.andThen, hP, hZ, run_load, hc]
set_option maxRecDepth 20000 in
set_option maxHeartbeats 2000000 in
theorem copied_m (w : World) (vi : Value) (I : List FI) (hI : ImgV w vi I) (hold : ∀ k ∈ ibl vi I, k < w.heap.size) (hfew : I.length ≤ 1048576) (hbyt : ∀ x ∈ I, x.b.length ≤ 1073741824) :
    Calls Try.prog 32 #[.agg #[vi]] w fun e w' => ∃ v, e = .returned (.agg #[v]) ∧ ∃ l, l.map FI.pair = I.map FI.pair ∧ ImgO w' v l ∧ (∀ k ∈ ibl v l, w.heap.size ≤ k) ∧ Ext Nil w w' := by
  obtain ⟨ai, ci, rfl, hi1, hi2⟩ := hI.shape
  unfold maxLen at hi2
  have e1 : Ext Nil w (w.alloc (.cells #[.slice ai I.length ci] 36 (0, 0))) := (Ext.refl _ _).alloc _
  have a1 := At.new w [.slice ai I.length ci] 36
  generalize hW1 : w.alloc (.cells #[.slice ai I.length ci] 36 (0, 0)) = W1 at *
  have s1 : W1.heap.size = w.heap.size + 1 := by rw [← hW1]; simp
  have e2 : Ext Nil W1 (W1.alloc (.cells #[.slice none 0 0] 36 (0, 0))) := (Ext.refl _ _).alloc _
  have a2 := At.new W1 [.slice none 0 0] 36
  generalize hW2 : W1.alloc (.cells #[.slice none 0 0] 36 (0, 0)) = W2 at *
  have s2 : W2.heap.size = w.heap.size + 1 + 1 := by rw [← hW2]; simp [s1]
  have e3 : Ext Nil W2 (W2.alloc (.cells #[.slice none 0 0] 36 (0, 0))) := (Ext.refl _ _).alloc _
  have a3 := At.new W2 [.slice none 0 0] 36
  generalize hW3 : W2.alloc (.cells #[.slice none 0 0] 36 (0, 0)) = W3 at *
  have s3 : W3.heap.size = w.heap.size + 1 + 1 + 1 := by rw [← hW3]; simp [s2]
  rw [s1] at a2
  rw [s2] at a3
  have HI := Lib.hid (hI.ext0 ((e1.same e2).same e3)); have HE := Lib.hid ((e1.same e2).same e3)
  have HA1 := Lib.hid (((a1.ext e2 fun h => h).ext e3 fun h => h)); have HA2 := Lib.hid (a2.ext e3 fun h => h); have HA3 := Lib.hid a3; have HS := Lib.hid s3; have HBY := Lib.hid hbyt; have HOLD := Lib.hid hold
  clear hI e1 e2 e3 a1 a2 a3 hbyt hold
  go_enter Try.func32, Try.ntmps32
  go_wp2_with fail
  clear hW1 hW2 hW3 s1 s2 s3
  go_loopw [4] (fun i wr => ∃ (l : List FI) (v : Value), i = .int .i64 l.length ∧ l.length ≤ I.length ∧ CrR (w.heap.size + 1 + 1) W3 (I.map FI.pair) l v wr) (fun i _ => I.length - (intOf i).toNat)
  case atStart => exact ⟨[], .slice none 0 0, rfl, Nat.zero_le _, rfl, ImgO.nil _, by simp [ibl, footL, foot], HA3.out, Ext.refl _ _⟩
  case round =>
    obtain ⟨l, v, rfl, hle, hR⟩ := hrel
    have hE := hR.ext
    have hs3 := HS.out
    have b1 : wr.cell? ⟨w.heap.size, 0, none⟩ = some (.slice ai I.length ci) := hE.cell (HA1.out.cell 0 rfl) (by show ¬ w.heap.size = _; omega)
    have hwl := (cell_spot b1).2
    by_cases hlt : l.length < I.length
    · obtain ⟨x, hx⟩ : ∃ x, I[l.length]? = some x := ⟨_, List.getElem?_eq_getElem hlt⟩
      have hIr : ImgV wr (.slice ai I.length ci) I := HI.out.ext hE fun k hk e => by have e : k = w.heap.size + 1 + 1 := e; have := HOLD.out k hk; omega
      obtain ⟨bi, oi, bx, cx, rfl, -, x0, x1, hil, hxB⟩ := hIr.at hx
      obtain ⟨va, vc, rfl, hv1, hv2⟩ := Own.shape hR.own.row
      have hsrc := Reads.src (P := Try.prog) hxB Try.underlying31 (bvs_one x.b)
      have hxl := HBY.out x (List.mem_of_getElem? hx)
      have hws := hE.size
      have HR := Lib.hid hR; have HX := Lib.hid hx
      clear hR hIr hxB hE hx
      go_wp2_with (first
        | (at_builtin; refine wpList_append_fresh hsrc (by unfold Fits; omega) rfl (.tmp 13) (.tmp 19) rfl rfl rfl ?_; intro ao2 cap2 w2 hc1 hc2 hown hst; have HO := Lib.hid hown; have HST := Lib.hid hst; clear hown hst))
      have hfv : ∀ k, inFoot (.slice va l.length vc) k → W3.heap.size ≤ k := fun k hk => HR.out.new k (by simp [ibl, mem_footL, hk])
      have y3 := HST.out.1.cell (HR.out.at_.cell 0 rfl) fun h => h
      have y1 := HST.out.1.cell b1 fun h => h
      have y0 := HST.out.1.cell x0 fun h => h
      have eX : Ext Nil w2 (w2.drew.alloc (.cells #[.string ⟨x.nm.toArray⟩, .slice ao2 x.b.length cap2] 41 (0, 0))) := (Ext.refl Nil w2).drew.alloc _
      have hRo : OwnI w2 (.slice va l.length vc) l := (HR.out.own.row).ext HST.out.1 fun _ _ h => h
      obtain ⟨ao3, cap3, w3, hrun, O3, S3⟩ := run_appendI (hRo.ext eX fun _ _ h => h) (x := ⟨x.nm, x.b, .slice ao2 x.b.length cap2⟩) (Reads.oneFI w2.drew ⟨x.nm, x.b, .slice ao2 x.b.length cap2⟩) ⟨_, _, _, rfl⟩ (by omega) 34
      have hrun : (Builtin.append_ #[34, 34] 34 #[.slice va l.length vc, .slice (some ⟨w2.heap.size, 0, none⟩) 1 1]).run Try.prog (w2.drew.alloc (.cells #[.string ⟨x.nm.toArray⟩, .slice ao2 x.b.length cap2] 41 (0, 0))) = .ok (.slice ao3 (l.length + 1) cap3) w3 := hrun
      have hw2 := HST.out.1.size
      have hN := HR.out.next (by omega) (HST.out.1.same eX) (HO.out.ext eX fun _ _ h => h) (fun q hq => ⟨(HST.out.2 q hq).resolve_left fun h => h, Nat.lt_of_lt_of_le (HO.out.lt q hq) eX.size⟩) O3 S3 (by rw [pairs_at HX.out]; rfl)
      have HN := Lib.hid hN
      have hz3 := (S3.1.cell (eX.cell y3 fun h => h) fun hk => by have := hfv _ hk; have h3 : (⟨w.heap.size + 1 + 1, 0, none⟩ : Addr).block = w.heap.size + 1 + 1 := rfl; omega)
      have hz1 := (S3.1.cell (eX.cell y1 fun h => h) fun hk => by have := hfv _ hk; have h3 : (⟨w.heap.size, 0, none⟩ : Addr).block = w.heap.size := rfl; omega)
      have hbi : bi < w.heap.size := HOLD.out bi (by simp [ibl, footL, foot_some (show 0 < ci by omega)])
      have hz0 := (S3.1.cell (eX.cell y0 fun h => h) fun hk => by have := hfv _ hk; have h3 : (⟨bi, oi + l.length * 2, none⟩ : Addr).block = bi := rfl; omega)
      have HZ := Lib.hid (And.intro hz1 hz0)
      have hzf := (((HR.out.at_.ext HST.out.1 fun h => h).ext eX fun h => h).ext S3.1 fun hk => by have := hfv _ hk; omega).frozen 0
      have n3 : (⟨w.heap.size + 1 + 1, 0, none⟩ : Addr) ≠ ⟨w.heap.size, 0, none⟩ := by simp
      have n4 : (⟨w.heap.size + 1 + 1, 0, none⟩ : Addr) ≠ ⟨bi, oi + l.length * 2, none⟩ := by intro e; simp only [Addr.mk.injEq] at e; omega
      have hb3 : w.heap.size + 1 + 1 < w2.heap.size := by omega
      clear hz1 hz0 hN hRo O3 S3 eX hfv
      refine wp_region_held_drew (S := fun w' => w'.cell? ⟨w.heap.size, 0, none⟩ = some (.slice (some ⟨bi, oi, none⟩) I.length ci) ∧ w'.cell? ⟨bi, oi + l.length * 2, none⟩ = some (.string ⟨x.nm.toArray⟩)) (by kernel_rfl) ⟨y1, y0⟩ (fun hHeld => ?_)
      refine wpAnyH_take (i := 0) (v := .pointer (some ⟨w.heap.size + 1 + 1, 0, none⟩)) rfl (by kernel_rfl) (by kernel_rfl) (by kernel_rfl) (fun _ _ _ h => h) (Or.inl ⟨by rfl, ?y1⟩) (by assumption) ?r1
      case y1 => (intro w hSw; obtain ⟨s1, s2⟩ := hSw; go_simp)
      simp only [Act.put]
      refine wpAnyH_take (i := 2) (v := .pointer (some ⟨w.heap.size, 0, none⟩)) rfl (by kernel_rfl) (by kernel_rfl) (by kernel_rfl) (fun _ _ _ h => h) (Or.inl ⟨by rfl, ?y2⟩) (by assumption) ?r2
      case y2 => (intro w hSw; obtain ⟨s1, s2⟩ := hSw; go_simp)
      simp only [Act.put]
      refine wpAnyH_take (i := 3) (v := .slice (some ⟨bi, oi, none⟩) I.length ci) rfl (by kernel_rfl) (by kernel_rfl) (by kernel_rfl) (fun _ _ _ h => h) (Or.inl ⟨by rfl, ?y3⟩) (by assumption) ?r3
      case y3 => (intro w hSw; obtain ⟨s1, s2⟩ := hSw; go_simp)
      simp only [Act.put]
      refine wpAnyH_take (i := 4) (v := .int .i64 l.length) rfl (by kernel_rfl) (by kernel_rfl) (by kernel_rfl) (fun _ _ _ h => h) (Or.inl ⟨by rfl, ?y4⟩) (by assumption) ?r4
      case y4 => (intro w hSw; obtain ⟨s1, s2⟩ := hSw; go_simp)
      simp only [Act.put]
      refine wpAnyH_take (i := 5) (v := .pointer (some ⟨bi, oi + l.length * 2, none⟩)) rfl (by kernel_rfl) (by kernel_rfl) (by kernel_rfl) (fun _ _ _ h => h) (Or.inl ⟨by rfl, ?y5⟩) (by assumption) ?r5
      case y5 => (intro w hSw; obtain ⟨s1, s2⟩ := hSw; go_simp)
      simp only [Act.put]
      refine wpAnyH_take (i := 6) (v := .pointer (some ⟨bi, oi + l.length * 2, none⟩)) rfl (by kernel_rfl) (by kernel_rfl) (by kernel_rfl) (fun _ _ _ h => h) (Or.inl ⟨by rfl, ?y6⟩) (by assumption) ?r6
      case y6 => (intro w hSw; obtain ⟨s1, s2⟩ := hSw; go_simp)
      simp only [Act.put]
      refine wpAnyH_take (i := 7) (v := .string ⟨x.nm.toArray⟩) rfl (by kernel_rfl) (by kernel_rfl) (by kernel_rfl) (fun _ _ _ h => h) (Or.inl ⟨by rfl, ?y7⟩) (by assumption) ?r7
      case y7 => (intro w hSw; obtain ⟨s1, s2⟩ := hSw; go_simp)
      simp only [Act.put]
      refine wpAnyH_take (i := 8) (v := .slice ao2 x.b.length cap2) rfl (by kernel_rfl) (by kernel_rfl) (by kernel_rfl) (fun _ _ _ h => h) (Or.inl ⟨by rfl, ?y8⟩) (by assumption) ?r8
      case y8 => (intro w hSw; obtain ⟨s1, s2⟩ := hSw; go_simp)
      simp only [Act.put]
      refine wpAnyH_take (i := 9) (v := .agg #[.string ⟨x.nm.toArray⟩, .slice ao2 x.b.length cap2]) rfl (by kernel_rfl) (by kernel_rfl) (by kernel_rfl) (fun _ _ _ h => h) (Or.inl ⟨by rfl, ?y9⟩) (by assumption) ?r9
      case y9 => (intro w hSw; obtain ⟨s1, s2⟩ := hSw; go_simp)
      simp only [Act.put]
      refine wpAnyH_ready (rs := [1, 10]) (by kernel_rfl) (by simp) (AllReadyH.cons rfl (fun K hK => ?o1) (AllReadyH.cons rfl (fun K hK => ?o10) AllReadyH.nil))
      case o1 =>
        go_simp
        refine hK.out _ _ ⟨y1, y0⟩ (fun hHeld => ?_)
        clear hK K
        refine wpAnyH_ready (rs := [10]) (by kernel_rfl) (by simp) (AllReadyH.cons rfl (fun K hK => ?_) AllReadyH.nil)
        go_simp
        refine hK.out _ _ ⟨(((Ext.refl Nil w2).drew.alloc _).cell y1 fun h => h), (((Ext.refl Nil w2).drew.alloc _).cell y0 fun h => h)⟩ (fun hHeld => ?_)
        clear hK K
        refine wpAnyH_ready (rs := [11]) (by kernel_rfl) (by simp) (AllReadyH.cons rfl (fun K hK => ?_) AllReadyH.nil)
        refine step_append_run rfl _ _ _ _ rfl _ _ _ rfl rfl hrun ?_
        refine hK.out _ _ HZ.out (fun hHeld => ?_)
        clear hK K
        simp only [Act.put]
        refine wpAnyH_take (i := 12) (v := .pointer (some ⟨w.heap.size + 1 + 1, 0, none⟩)) rfl (by kernel_rfl) (by kernel_rfl) (by kernel_rfl) (fun _ _ _ h => h) (Or.inl ⟨by rfl, ?y10⟩) (by assumption) ?r10
        case y10 => (intro w hSw; obtain ⟨s1, s2⟩ := hSw; go_simp)
        simp only [Act.put]
        refine wpAnyH_ready (rs := [13]) (by kernel_rfl) (by simp) (AllReadyH.cons rfl (fun K hK => ?_) AllReadyH.nil)
        go_simp
        refine hK.out _ _ ⟨(World.cell?_setCell_other _ _ _ _ n3).trans HZ.out.1, (World.cell?_setCell_other _ _ _ _ n4).trans HZ.out.2⟩ (fun hHeld => ?_)
        clear hK K
        refine wpAnyH_done (by kernel_rfl) ?_ _
        go_wp2_with fail
        exact ⟨⟨l ++ [⟨x.nm, x.b, .slice ao2 x.b.length cap2⟩], _, by simp, by simp; omega, by simpa using HN.out⟩, by simp [intOf]; omega⟩
      case o10 =>
        go_simp
        refine hK.out _ _ ⟨(((Ext.refl Nil w2).drew.alloc _).cell y1 fun h => h), (((Ext.refl Nil w2).drew.alloc _).cell y0 fun h => h)⟩ (fun hHeld => ?_)
        clear hK K
        refine wpAnyH_ready (rs := [1]) (by kernel_rfl) (by simp) (AllReadyH.cons rfl (fun K hK => ?_) AllReadyH.nil)
        go_simp
        refine hK.out _ _ ⟨(((Ext.refl Nil w2).drew.alloc _).cell y1 fun h => h), (((Ext.refl Nil w2).drew.alloc _).cell y0 fun h => h)⟩ (fun hHeld => ?_)
        clear hK K
        refine wpAnyH_ready (rs := [11]) (by kernel_rfl) (by simp) (AllReadyH.cons rfl (fun K hK => ?_) AllReadyH.nil)
        refine step_append_run rfl _ _ _ _ rfl _ _ _ rfl rfl hrun ?_
        refine hK.out _ _ HZ.out (fun hHeld => ?_)
        clear hK K
        simp only [Act.put]
        refine wpAnyH_take (i := 12) (v := .pointer (some ⟨w.heap.size + 1 + 1, 0, none⟩)) rfl (by kernel_rfl) (by kernel_rfl) (by kernel_rfl) (fun _ _ _ h => h) (Or.inl ⟨by rfl, ?yq10⟩) (by assumption) ?rq10
        case yq10 => (intro w hSw; obtain ⟨s1, s2⟩ := hSw; go_simp)
        simp only [Act.put]
        refine wpAnyH_ready (rs := [13]) (by kernel_rfl) (by simp) (AllReadyH.cons rfl (fun K hK => ?_) AllReadyH.nil)
        go_simp
        refine hK.out _ _ ⟨(World.cell?_setCell_other _ _ _ _ n3).trans HZ.out.1, (World.cell?_setCell_other _ _ _ _ n4).trans HZ.out.2⟩ (fun hHeld => ?_)
        clear hK K
        refine wpAnyH_done (by kernel_rfl) ?_ _
        go_wp2_with fail
        exact ⟨⟨l ++ [⟨x.nm, x.b, .slice ao2 x.b.length cap2⟩], _, by simp, by simp; omega, by simpa using HN.out⟩, by simp [intOf]; omega⟩
    · have hle2 : l.length = I.length := by omega
      obtain ⟨va, vc, rfl, -, -⟩ := Own.shape hR.own.row
      have c3 := hR.at_.cell 0 rfl
      have h2 : At wr (w.heap.size + 1) 36 [.slice none 0 0] := HA2.out.ext hE (by show ¬ w.heap.size + 1 = _; omega)
      have z2 := h2.frozen 0
      have c2 := h2.cell 0 rfl
      have hfin := (h2.set 0 (.slice va l.length vc)).cell 0 rfl
      have hnot : ¬ (l.length : Int) < (I.length : Int) := by omega
      have HR := Lib.hid hR; have HF := Lib.hid hfin; have HLE := Lib.hid hle2
      clear hR hE hfin h2 hle2 hlt
      go_wp2_with fail
      refine bodyPost_ret (results_image1 rfl _ (b := w.heap.size + 1) (v := .slice va l.length vc) rfl HF.out (agg_image _) (size_image _)) rfl ?_
      have eF : Ext (One (w.heap.size + 1)) wr (wr.setCell ⟨w.heap.size + 1, 0, none⟩ (.slice va l.length vc)) := (Ext.refl (One (w.heap.size + 1)) wr).setCell (p := ⟨w.heap.size + 1, 0, none⟩) (fun _ => rfl) _
      refine ⟨_, rfl, l, ?_, HR.out.own.ext eF ?_, fun q hq => ?_, ?_⟩
      · have hle2 := HLE.out
        rw [HR.out.pairs, List.take_of_length_le (by rw [List.length_map]; omega)]
      · intro q hq e
        have e : q = w.heap.size + 1 := e
        have := HR.out.new q hq
        omega
      · have := HR.out.new q hq
        omega
      · exact (HE.out.trans HR.out.ext fun i hi e => by have e : i = w.heap.size + 1 + 1 := e; omega).trans eF fun i hi e => by have e : i = w.heap.size + 1 := e; omega
end Go.Proofs.Ytnppneilbkmnfaa
namespace Go.Proofs.Ytnppneilbkmnfaa
open Go.RowKit

theorem pair_at {l : List FI} {fs : List FileM} {keep : List Int} {junk : UInt8} (h : l.map FI.pair = imgOf fs keep junk) {i : Nat} {x : FI} (hx : l[i]? = some x) : ∃ f, fs[i]? = some f ∧ x.nm = f.nm ∧ x.b = Dk.left f (Dk.kept keep i f) junk := by
  have h1 := pairs_at hx
  rw [h] at h1
  unfold imgOf at h1
  rw [List.getElem?_mapIdx] at h1
  cases hf : fs[i]? with
  | none => rw [hf] at h1; simp at h1
  | some f =>
    rw [hf] at h1
    simp only [Option.map_some, Option.some.injEq, Prod.mk.injEq] at h1
    exact ⟨f, rfl, h1.1.symm, h1.2.symm⟩
theorem pair_len {l : List FI} {fs : List FileM} {keep : List Int} {junk : UInt8} (h : l.map FI.pair = imgOf fs keep junk) : l.length = fs.length := by
  have := congrArg List.length h
  simpa [imgOf] using this
theorem sum_le : ∀ (l : List FI) (fs : List FileM), l.length = fs.length → (∀ (i : Nat) (x : FI) (f : FileM), l[i]? = some x → fs[i]? = some f → x.b.length ≤ f.b.length) → mntSum l ≤ sumF fs
  | [], [], _, _ => Nat.le_refl _
  | [], _ :: _, h, _ => by simp at h
  | _ :: _, [], h, _ => by simp at h
  | x :: l, f :: fs, h, hi => by
    have h1 := sum_le l fs (by simpa using h) fun i y g hy hg => hi (i + 1) y g hy hg
    have h2 := hi 0 x f rfl rfl
    unfold mntSum sumF at *
    simp only [List.map_cons, List.sum_cons]
    show x.b.length + _ ≤ _
    omega
theorem nm_small {s : Nm} (h : nmOk s = true) : s.length ≤ 32 := by
  unfold nmOk at h
  simp only [Bool.and_eq_true, decide_eq_true_eq] at h
  omega
/-- what a crash leaves can be mounted -/
theorem mount_img {D : Dk} (hw : D.Wf) {l : List FI} {keep : List Int} {junk : UInt8} (h : l.map FI.pair = imgOf D.fs keep junk) : mountE 1073741824 l = 0 ∧ l.length ≤ 65536 ∧ (∀ x ∈ l, x.b.length ≤ 1073741824) ∧ ∀ x ∈ l, x.nm.length ≤ maxLen := by
  have hlen := pair_len h
  have hle : ∀ (i : Nat) (x : FI) (f : FileM), l[i]? = some x → D.fs[i]? = some f → x.b.length ≤ f.b.length := by
    intro i x f hx hf
    obtain ⟨g, hg, -, hb⟩ := pair_at h hx
    rw [hf] at hg
    obtain rfl := Option.some.inj hg
    have h1 := kept_le keep i f
    have h2 := hw.synced f (List.mem_of_getElem? hf)
    rw [hb, left_len (by omega)]
    omega
  have hall : ∀ x ∈ l, ∃ f ∈ D.fs, x.nm = f.nm ∧ x.b.length ≤ f.b.length := by
    intro x hx
    obtain ⟨i, hi, rfl⟩ := List.mem_iff_getElem.1 hx
    obtain ⟨f, hf, hn, -⟩ := pair_at h (List.getElem?_eq_getElem hi)
    exact ⟨f, List.mem_of_getElem? hf, hn, hle i _ f (List.getElem?_eq_getElem hi) hf⟩
  have hnames : ∀ i < l.length, nameOk l i := by
    intro i hi
    obtain ⟨x, hx⟩ : ∃ x, l[i]? = some x := ⟨_, List.getElem?_eq_getElem hi⟩
    obtain ⟨f, hf, hn, -⟩ := pair_at h hx
    refine ⟨x, hx, by rw [hn]; exact hw.names f (List.mem_of_getElem? hf), fun y h0 hy => ?_⟩
    obtain ⟨g, hg, hgn, -⟩ := pair_at h hy
    rw [hn, hgn]
    obtain ⟨h1, rfl⟩ := List.getElem?_eq_some_iff.1 hf
    obtain ⟨h2, rfl⟩ := List.getElem?_eq_some_iff.1 hg
    exact List.pairwise_iff_getElem.1 hw.rises _ _ _ _ (by omega)
  have hsum := sum_le l D.fs hlen hle
  have hu := hw.used
  have hl1 := hw.lim1
  have hc := hw.count
  refine ⟨?_, by omega, fun x hx => ?_, fun x hx => ?_⟩
  · unfold mountE
    rw [if_neg (by simpa using hnames), if_neg (by omega), if_neg (by omega), if_neg (by show ¬ 1073741824 < mntSum l; omega)]
  · obtain ⟨f, hf, -, hb⟩ := hall x hx
    have := sumF_mem hf
    omega
  · obtain ⟨f, hf, hn, -⟩ := hall x hx
    rw [hn]
    have := nm_small (hw.names f hf)
    unfold maxLen
    omega
/-- what is mounted is told as it is -/
theorem img_again (l : List FI) (keep : List Int) (junk : UInt8) : imgOf (l.map FI.file) keep junk = l.map FI.pair := by
  unfold imgOf
  apply List.ext_getElem?
  intro i
  rw [List.getElem?_mapIdx, List.getElem?_map, List.getElem?_map]
  cases hx : l[i]? with
  | none => rfl
  | some x =>
    have hk : Dk.kept keep i x.file = 0 := by
      have := kept_le keep i x.file
      unfold FI.file at this ⊢
      simp only [Nat.sub_self] at this
      omega
    show some (x.nm, Dk.left x.file (Dk.kept keep i x.file) junk) = some (x.nm, x.b)
    rw [hk]
    unfold Dk.left FI.file
    simp
theorem ImgO.reads {w : World} {v : Value} {l : List FI} (h : ImgO w v l) (hn : ∀ x ∈ l, x.nm.length ≤ maxLen) : ImgR w v l := ⟨Own.reads h.row, hn, fun x hx => (h.bytes x hx).bytes⟩

set_option maxRecDepth 20000 in
set_option maxHeartbeats 4000000 in
theorem back_any (w : World) (lim : Int) (m : Bool) (v : Value) (I : List FI) (hI : ImgR w v I) (sv : Value) (L : List OpI) (hS : ScrR w sv L) (kv : Value) (keep : List Int) (hk : Reads w 1 kv keep.length (keep.map (.int .i64 ·))) (hkl : ∀ k, inFoot kv k → k < w.heap.size) (junk : UInt8)
    (ov : Value) (other : List Int) (ho : Reads w 1 ov other.length (other.map (.int .i64 ·))) (hol : ∀ k, inFoot ov k → k < w.heap.size) (more : UInt8) :
    Calls Try.prog 7 #[.agg #[.int .i64 lim, .bool m, v], sv, kv, .int .u8 junk.toNat, ov, .int .u8 more.toNat] w fun e w' => e = .returned (.bool true) ∧ Ext Nil w w' := by
  obtain ⟨-, ao, cap, rfl, -, -, -⟩ := hI.row
  obtain ⟨as_, cs, rfl, hs1, hs2⟩ := hS.shape
  obtain ⟨W, hW⟩ : ∃ W, W = w.alloc (.cells #[.int .i64 lim, .bool m, .slice ao I.length cap] 44 (0, 0)) := ⟨_, rfl⟩
  have eW : Ext Nil w W := by rw [hW]; exact (Ext.refl _ _).alloc _
  have hLv := lives_m W lim m _ I (hI.ext eW fun _ _ h => h)
  rw [hW] at hLv
  have HLV := Lib.hid hLv; have HE := Lib.hid eW; have HS := Lib.hid (hS.ext0 eW); have HKE := Lib.hid (hk.ext eW fun _ _ h => h); have HKL := Lib.hid (fun k h => Nat.lt_of_lt_of_le (hkl k h) eW.size); have HOE := Lib.hid (ho.ext eW fun _ _ h => h); have HOL := Lib.hid (fun k h => Nat.lt_of_lt_of_le (hol k h) eW.size)
  have hfew := hS.few
  unfold maxLen at hs2
  clear hLv eW hS hk hkl hI ho hol
  go_enter Try.func7, Try.ntmps7
  go_wp2_with (go_at_call 24; refine (HLV.out).mono ?_; rintro e w1 ⟨d, rfl, hL1⟩)
  rw [← hW] at hL1
  have hcalm := livesD_calm lim m I
  generalize livesD lim m I = D0 at *
  have HL1 := Lib.hid hL1; have HC := Lib.hid hcalm
  clear hW HLV hL1 hcalm
  go_loopw [15] (fun i wr => ∃ (k : Nat) (D : Dk), i = .int .i64 (k : Int) ∧ k ≤ L.length ∧ Life W wr d D ∧ D.calls ≤ k ∧ D.arms.length ≤ k ∧ D.out = false) (fun i _ => L.length - (intOf i).toNat)
  case atStart => exact ⟨0, D0, rfl, Nat.zero_le _, HL1.out, by rw [HC.out.2.2.1]; exact Nat.le_refl _, by rw [HC.out.2.2.2]; exact Nat.le_refl _, HC.out.2.1⟩
  case round =>
    obtain ⟨k, D, rfl, hk, hL, hc, ha, hout⟩ := hrel
    by_cases hlt : k < L.length
    · obtain ⟨x, hx⟩ : ∃ x, L[k]? = some x := ⟨_, List.getElem?_eq_getElem hlt⟩
      have hxm := List.mem_of_getElem? hx
      obtain ⟨bs, os, rfl, hbl, q0, q1, q2, q3, q4, q5, q6, q7, q8, q9⟩ := (HS.out.ext0 hL.world).cells hx
      have hdo := does_op W wr d D hL x (HS.out.ok x hxm) (by omega) (by omega) (by have := (HS.out.small x hxm).1; omega)
      have hgr := does_grows D x.o x.B
      have HDO := Lib.hid hdo; have HGR := Lib.hid hgr; have HOUT := Lib.hid hout
      clear hdo hgr hL hxm hx hout
      go_wp2_with (first
        | (go_at_call 25; refine (HDO.out).mono ?_; rintro e w3 ⟨rfl, hL3⟩; have HL3 := Lib.hid hL3; clear hL3))
      refine ⟨⟨k + 1, (D.does x.o x.B).1, by go_num, by omega, HL3.out, by have := HGR.out.1; omega, by have := HGR.out.2.1; omega, by rw [HGR.out.2.2.1]; exact HOUT.out⟩, by simp [intOf]; omega⟩
    · have HOUT := Lib.hid hout; have HL := Lib.hid hL
      have hnot : ¬ (k : Int) < (L.length : Int) := by omega
      clear hout hL hc ha hlt
      go_wp2_with (first
        | (go_at_call 23; refine (life_crash HL.out (HKE.out.ext HL.out.world fun _ _ h => h) HKL.out junk).mono ?_; rintro e w3 ⟨iv, il, rfl, hp, hO, hin, hL3, e3⟩; rw [crash_in HOUT.out]; rw [told_in HOUT.out] at hp; have HP := Lib.hid hp; have HO := Lib.hid (hO.ext ((Ext.refl Nil w3).alloc (.cells #[iv] 36 (0, 0))) fun _ _ h => h); have HE3 := Lib.hid (hL3.world.alloc (.cells #[iv] 36 (0, 0))); have HMI := Lib.hid (mount_img (life_wf HL.out) hp); have i3 := (At.new w3 [iv] 36).cell 0 rfl; obtain ⟨ia, ic, rfl, hic1, hic2⟩ := hO.see.shape; clear hp hO hin hL3 e3)
        | (go_at_call 32; refine (copied_m _ _ il HO.out.see HO.out.lt (by have := HMI.out.2.1; omega) HMI.out.2.2.1).mono ?_; rintro e w4 ⟨cv, rfl, cl, hcp, hcO, hcn, e4⟩; have e4a := e4.alloc (.cells #[cv] 36 (0, 0)); have i4 := e4a.cell i3 fun h => h; have c4 := (At.new w4 [cv] 36).cell 0 rfl; have l4 := e4.size; have l3 := (cell_spot i3).2; have hne4 : ¬ w3.heap.size = w4.heap.size := (by have h : w3.heap.size < w4.heap.size := Nat.lt_of_lt_of_le l3 l4; omega); obtain ⟨ca, cc, rfl, hcc1, hcc2⟩ := hcO.see.shape; have HCO := Lib.hid (hcO.ext ((Ext.refl Nil w4).alloc (.cells #[.slice ca cl.length cc] 36 (0, 0))) fun _ _ h => h); have HCP := Lib.hid hcp; have HO4 := Lib.hid (HO.out.ext e4a fun _ _ h => h); have HE4 := Lib.hid (HE3.out.same e4a); clear hcO hcp hcn e4 e4a)
        | (go_at_call 33; refine (mount_m _ _ il (HO4.out.reads HMI.out.2.2.2) 1073741824).mono ?_; rintro e w5 (⟨h5, -⟩ | ⟨-, d5, rfl, hL5⟩); exact absurd HMI.out.1 h5; have c5 := hL5.world.cell c4 fun h => h; have HL5 := Lib.hid hL5; have l5 := (cell_spot c5).2; clear hL5 i3 i4)
        | (go_at_call 18; refine (num_any _ _).mono ?_; rintro e w' ⟨rfl, rfl⟩))
      have HSZ := Lib.hid (And.intro hne4 (And.intro l4 l5))
      have hlc : il.length = cl.length := by have := congrArg List.length HCP.out; simpa using this.symm
      have HLC := Lib.hid hlc
      clear l4 l3 hlc
      go_wp2_with (first
        | (go_at_call 34; refine (life_tells HL5.out).mono ?_; rintro e w6 ⟨tv, tl, rfl, hT, htl, e6, hnew⟩; obtain ⟨ta, tc, rfl, ht1, ht2⟩ := hT.shape; have htl : tl.map TI.f = il.map FI.file := htl; have htn : tl.length = cl.length := (by rw [← HLC.out]; have := congrArg List.length htl; simpa using this); rw [htn] at hT hnew ht1 ⊢; have c6 := e6.cell c5 fun h => h; have HT := Lib.hid hT; have HTL := Lib.hid htl; have HTN := Lib.hid htn; have HNW := Lib.hid hnew; have HL6 := Lib.hid (HL5.out.ext e6); clear hT htl htn hnew e6 c5)
        | (go_at_call 18; refine (num_any _ _).mono ?_; rintro e w' ⟨rfl, rfl⟩))
      have HCO6 := Lib.hid (HCO.out.ext HL6.out.world fun _ _ h => h)
      have hcl : cl.length ≤ 65536 := by rw [← HLC.out]; exact HMI.out.2.1
      have HC6 := Lib.hid c6
      clear c6
      go_loopw [22] (fun i wr => ∃ (k : Nat), i = .int .i64 (k : Int) ∧ k ≤ cl.length ∧ ∃ n, wr = w6.drewN n) (fun i _ => cl.length - (intOf i).toNat)
      case atStart => exact ⟨0, rfl, Nat.zero_le _, 0, rfl⟩
      case round =>
        obtain ⟨j, rfl, hj, n, rfl⟩ := hrel
        by_cases hlt : j < cl.length
        · obtain ⟨y, hy⟩ : ∃ y, cl[j]? = some y := ⟨_, List.getElem?_eq_getElem hlt⟩
          obtain ⟨x, hx⟩ : ∃ x, tl[j]? = some x := ⟨_, List.getElem?_eq_getElem (by have := HTN.out; omega)⟩
          obtain ⟨z, hz⟩ : ∃ z, il[j]? = some z := ⟨_, List.getElem?_eq_getElem (by have := HLC.out; omega)⟩
          have hxz : x.f = z.file := by
            have h1 : (tl.map TI.f)[j]? = some x.f := by rw [List.getElem?_map, hx]; rfl
            rw [HTL.out, List.getElem?_map, hz] at h1
            exact (Option.some.inj h1).symm
          have hyz : y.nm = z.nm ∧ y.b = z.b := by
            have h1 := pairs_at hy
            rw [HCP.out, pairs_at hz] at h1
            simp only [Option.some.injEq, Prod.mk.injEq] at h1
            exact ⟨h1.1.symm, h1.2.symm⟩
          obtain ⟨g, c, hg, -⟩ := HT.out.open (fun x _ => rfl) (by have := HTN.out; omega) (show 0 < 3 by omega)
          simp only [Value.slice.injEq] at hg
          obtain ⟨rfl, -, rfl⟩ := hg
          obtain ⟨bx, cx, -, x0, x1, x2, hgl, hxB, hxc, hxm⟩ := HT.out.cell3 hx
          obtain ⟨bi, oi, by_, cy, rfl, -, y0, y1, hil, hyB⟩ := HCO6.out.see.at hy
          have c6 := HC6.out
          have s1 := fun n => to_str (w6.drewN n) _ _ (hxB.drewN n)
          have s2 := fun n => to_str (w6.drewN n) _ _ (hyB.drewN n)
          have hnb : (x.f.nm == y.nm) = true := by rw [hxz, hyz.1]; show (z.nm == z.nm) = true; simp
          have hbb : (x.f.b == y.b) = true := by rw [hxz, hyz.2]; show (z.b == z.b) = true; simp
          have hsy : ((x.f.sy : Int) != (x.f.b.length : Int)) = false := by rw [hxz]; show ((z.b.length : Int) != (z.b.length : Int)) = false; simp
          have hsn : (x.f.sy != x.f.b.length) = false := by rw [hxz]; show (z.b.length != z.b.length) = false; simp
          clear hxB hyB hx hy hz hxz hyz
          go_wp2_with fail
          go_quiet (fail)
          go_wp2_with fail
          exact ⟨⟨j + 1, by go_num, by omega, _, rfl⟩, by simp [intOf]; omega⟩
        · have hnot2 : ¬ (j : Int) < (cl.length : Int) := by omega
          have c7 := ((Ext.refl Nil w6).drewN n).cell HC6.out fun h => h
          have HL7 := Lib.hid (HL6.out.ext ((Ext.refl Nil w6).drewN n)); have HCO7 := Lib.hid (HCO6.out.ext ((Ext.refl Nil w6).drewN n) fun _ _ h => h)
          clear hlt
          generalize w6.drewN n = w7 at *
          go_wp2_with (first
            | (go_at_call 23; refine (life_crash HL7.out ((HOE.out.ext HE4.out fun _ _ h => h).ext HL7.out.world fun _ _ h => h) (fun k hk => Nat.lt_of_lt_of_le (HOL.out k hk) HE4.out.size) more).mono ?_; rintro e w8 ⟨iv, zl, rfl, hp, hO, hin, hL8, e8⟩; obtain ⟨za, zc, rfl, -⟩ := hO.see.shape; have hd5 := HL5.out.lt.1; have hp : zl.map FI.pair = imgOf (il.map FI.file) other more := hp; rw [img_again] at hp; have HP8 := Lib.hid hp; have HO8 := Lib.hid (hO.ext ((Ext.refl Nil w8).alloc (.cells #[.slice za zl.length zc] 36 (0, 0))) fun _ _ h => h); have c8 := e8.cell c7 (fun e => by have e : w4.heap.size = d5 := e; have h9 : (w4.alloc (.cells #[.slice ca cl.length cc] 36 (0, 0))).heap.size = w4.heap.size + 1 := (by simp); omega); have l8 : w4.heap.size < w8.heap.size := (cell_spot c8).2; have HE8 := Lib.hid hL8.world; have HCO8 := Lib.hid ((HCO7.out.ext e8 fun k hk e => by have e : k = d5 := e; have h9 := HCO.out.lt k hk; omega).ext ((Ext.refl Nil w8).alloc (.cells #[.slice za zl.length zc] 36 (0, 0))) fun _ _ h => h); have hne8 : ¬ w4.heap.size = w8.heap.size := (by omega); have k8 := (At.new w8 [.slice za zl.length zc] 36).cell 0 rfl; clear hp hO hin hL8 c7)
            | (go_at_call 35; refine (sameImage_m _ _ _ zl cl HO8.out.see HCO8.out.see).mono ?_; rintro e w9 ⟨rfl, e9⟩; have hz : decide (zl.map FI.pair = cl.map FI.pair) = true := decide_eq_true (by rw [HP8.out, HCP.out]); rw [hz]; have HE9 := Lib.hid ((HE8.out.alloc (.cells #[.slice za zl.length zc] 36 (0, 0))).same e9); clear e9 hz)
            | (go_at_call 18; refine (num_any _ _).mono ?_; rintro e w' ⟨rfl, rfl⟩))
          go_ret
          exact ⟨rfl, HE.out.same (HE4.out.same HE9.out)⟩
end Go.Proofs.Ytnppneilbkmnfaa
