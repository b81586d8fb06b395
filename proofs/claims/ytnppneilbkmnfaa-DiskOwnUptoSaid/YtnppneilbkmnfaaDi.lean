/- The contract of the closure of the disk's Append. Conditions: the disk stands, the boxes and the bytes lie elsewhere; what is laid down fits. -/
import Derived.Test.YtnppneilbkmnfaaDh
namespace Go.Proofs.Ytnppneilbkmnfaa
open Go.RowKit

/-- append of bytes onto a row of bytes, as a run -/
theorem run_appendB {w : World} {v : Value} {l m : List UInt8} (hown : OwnB w v l) {vx : Value} (hm : Bytes w vx m) (hfit : Fits (l.length + m.length)) (ty : TypeId) :
    ∃ ao cap w', (Builtin.append_ #[31, 31] ty #[v, vx]).run Try.prog w = .ok (.slice ao (l.length + m.length) cap) w' ∧ l.length + m.length ≤ cap ∧ cap ≤ maxLen ∧ OwnB w' (.slice ao (l.length + m.length) cap) (l ++ m) ∧ Step (inFoot v) w (inFoot (.slice ao (l.length + m.length) cap)) w' := by
  obtain ⟨i, hi, hz, h1, h2⟩ := info_parts info_u8
  have hf : l.length + m.length ≤ 1099511627776 := hfit
  obtain ⟨v', w', hr, h3, h4, h5⟩ := run_append (P := Try.prog) w 31 31 ty 5 i (.int .u8 0) 1 1 Try.underlying31 hi hz h1 h2 rfl v l.length (bvs l) hown vx m.length (bvs m) (Reads.src (P := Try.prog) hm Try.underlying31 (bvs_one m))
    (by unfold maxLen; omega) (by omega)
  obtain ⟨ao, cap, rfl, h6, h7⟩ := h3.shape
  refine ⟨ao, cap, w', hr, h6, h7, ?_, h4, h5⟩
  unfold OwnB
  rw [bvs_append, List.length_append]
  exact h3

/-- the two last statements: bytes behind a file's, the sum -/
theorem append_turn {w X w1 : World} {d mb : Nat} {av : Value} {A B X0 : List FB} {D : Dk} (h : DAt w d mb av (A ++ X0 ++ B) D) (s : Nm) (blk : Nat) (v v' : Value) (b0 b : List UInt8) (sy : Nat) (U : Nat) (hU : (D.put ⟨s, b0 ++ b, sy⟩).used = U) (hwf : (D.put ⟨s, b0 ++ b, sy⟩).Wf)
    (e : Ext (fun k => k = d ∨ k = mb ∨ k ∈ X0.flatMap FB.bl) w X) (hA : At X d 57 [.int .i64 D.lim, .int .i64 D.used, .map (some mb), .bool D.off, .bool D.out, .int .i64 D.calls, av]) (hM : MapAt X mb (A ++ [⟨⟨s, b0, sy⟩, blk, v⟩] ++ B)) (hF : At X blk 115 [v, .int .i64 sy])
    (hbv : ¬ inFoot v blk) (hO : OwnB w1 v' (b0 ++ b)) (hS : Step (inFoot v) X (inFoot v') w1) (hkb : blk ∈ X0.flatMap FB.bl ∨ w.heap.size ≤ blk) (hkv : ∀ k, inFoot v k → k ∈ X0.flatMap FB.bl ∨ w.heap.size ≤ k) (hbd : blk ≠ d) (hbm : blk ≠ mb) (hvd : ¬ inFoot v d) (hvm : ¬ inFoot v mb)
    (hsame : (A ++ [(⟨⟨s, b0 ++ b, sy⟩, blk, v'⟩ : FB)] ++ B).map FB.f = (D.put ⟨s, b0 ++ b, sy⟩).fs) :
    ∃ fbs', DAt ((w1.setCell ⟨blk, 0, none⟩ v').setCell ⟨d, 1, none⟩ (.int .i64 U)) d mb av fbs' (D.put ⟨s, b0 ++ b, sy⟩) ∧ Step (· ∈ dbl d mb av (A ++ X0 ++ B)) w (· ∈ dbl d mb av fbs') ((w1.setCell ⟨blk, 0, none⟩ v').setCell ⟨d, 1, none⟩ (.int .i64 U)) := by
  have hFl := hF.lt
  have hAl := hA.lt
  have hMl := World.ownsMap.lt hM
  have hvb' : ¬ inFoot v' blk := fun hk => (hS.2 blk hk).elim hbv fun h => by omega
  have hvd' : ¬ inFoot v' d := fun hk => (hS.2 d hk).elim hvd fun h => by omega
  have hF1 := ((hF.ext hS.1 hbv).set 0 v').setOther ⟨d, 1, none⟩ (.int .i64 U) hbd
  have hA1 := ((hA.ext hS.1 hvd).setOther ⟨blk, 0, none⟩ v' (fun e => hbd e.symm)).set 1 (.int .i64 U)
  have e2 : Ext (fun k => k = blk ∨ k = d) w1 ((w1.setCell ⟨blk, 0, none⟩ v').setCell ⟨d, 1, none⟩ (.int .i64 U)) := ((Ext.refl (fun k => k = blk ∨ k = d) w1).setCell (p := ⟨blk, 0, none⟩) (fun _ => .inl rfl) _).setCell (p := ⟨d, 1, none⟩) (fun _ => .inr rfl) _
  have hM1 := (hM.ext hS.1 hvm).ext e2 (fun e => e.elim (fun e => hbm e.symm) fun e => (by
    have hp := h.part.1
    exact hp e.symm))
  have hO1 := hO.ext e2 fun k hk e => e.elim (fun e => hvb' (by rwa [e] at hk)) fun e => hvd' (by rwa [e] at hk)
  have hE : Ext (fun k => k = d ∨ k = mb ∨ k ∈ X0.flatMap FB.bl) w ((w1.setCell ⟨blk, 0, none⟩ v').setCell ⟨d, 1, none⟩ (.int .i64 U)) :=
    (e.trans hS.1 fun i hi hk => .inr (.inr ((hkv i hk).resolve_right (by omega)))).trans e2 fun i hi hk => hk.elim (fun hk => .inr (.inr ((hkb).elim (fun q => by rw [hk]; exact q) (fun q => by omega)))) .inl
  refine ⟨A ++ [⟨⟨s, b0 ++ b, sy⟩, blk, v'⟩] ++ B, ?_⟩
  refine h.change (D' := D.put ⟨s, b0 ++ b, sy⟩) hE (by rw [hU]; exact hA1) ?_ rfl ?_ ?_ ?_ hsame hwf
  · have e1 : mapD (A ++ [(⟨⟨s, b0 ++ b, sy⟩, blk, v'⟩ : FB)] ++ B) = mapD (A ++ [⟨⟨s, b0, sy⟩, blk, v⟩] ++ B) := by simp [mapD, ent]
    have e2 : (A ++ [(⟨⟨s, b0 ++ b, sy⟩, blk, v'⟩ : FB)] ++ B).length = (A ++ [(⟨⟨s, b0, sy⟩, blk, v⟩ : FB)] ++ B).length := by simp
    unfold MapAt at hM1 ⊢
    rw [e1, e2]
    exact hM1
  · intro y hy
    rw [List.mem_singleton] at hy
    subst hy
    exact ⟨hF1, hO1⟩
  · simp only [List.flatMap_cons, List.flatMap_nil, List.append_nil, FB.bl, List.nodup_cons]
    exact ⟨fun e => hvb' (mem_footL.1 e), footL_nodup _⟩
  · intro k hk
    simp only [List.flatMap_cons, List.flatMap_nil, List.append_nil, FB.bl, List.mem_cons] at hk
    rcases hk with rfl | hk
    · exact hkb
    · rcases hS.2 k (mem_footL.1 hk) with hk | hk
      · exact hkv k hk
      · exact .inr (Nat.le_trans e.size hk)

set_option maxRecDepth 20000 in
set_option maxHeartbeats 2000000 in
theorem append_old (w : World) (d mb : Nat) (av : Value) (fbs : List FB) (D : Dk) (h : DAt w d mb av fbs D) (pd pn pb : Nat) (s : ByteArray) (hs : s.size ≤ maxLen) (x : FB) (hf : findK FB.nm s.data.toList fbs = some x) (axb : Option Addr) (capb : Nat) (b : List UInt8)
    (hd : Bx w pd (.pointer (some ⟨d, 0, none⟩))) (hn : Bx w pn (.string s)) (hb : Bx w pb (.slice axb b.length capb)) (hx : Bytes w (.slice axb b.length capb) b)
    (hpd : pd ∉ dbl d mb av fbs) (hpb : pb ∉ dbl d mb av fbs) (hroom : D.used + b.length ≤ D.lim) :
    Calls Try.prog 61 #[.pointer (some ⟨pd, 0, none⟩), .pointer (some ⟨pn, 0, none⟩), .pointer (some ⟨pb, 0, none⟩)] w (Did w d mb av fbs (D.put ⟨s.data.toList, x.f.b ++ b, x.f.sy⟩)) := by
  obtain ⟨A, B, hfb, hxn, hfd, hxo, hdel, hput⟩ := h.at hf
  have hl := fun q => MapAt.look (h.map.ext ((Ext.refl Nil w).drewN q) fun h => h) s hs
  unfold fileAt at hl
  rw [hf] at hl
  obtain ⟨ao, cap, hv, hcap, hcm⟩ := hxo.2.shape
  have hd' : w.cell? ⟨pd, 0, none⟩ = some (.pointer (some ⟨d, 0, none⟩)) := hd
  have hn' : w.cell? ⟨pn, 0, none⟩ = some (.string s) := hn
  have hb' : w.cell? ⟨pb, 0, none⟩ = some (.slice axb b.length capb) := hb
  have c2 := h.cells.cell 2 rfl
  have hmem := (findK_some _ hfd).1
  have hsz : D.size s.data.toList = x.f.b.length := Dk.size_some hfd
  have hus : _ + D.size s.data.toList = D.used + (x.f.b ++ b).length := (Dk.used_put h.wf ⟨s.data.toList, x.f.b ++ b, x.f.sy⟩).1
  have hsy := h.wf.synced _ hmem
  have hl1 := h.wf.lim1
  have hxl := sumF_mem hmem
  have hul : D.used ≤ D.lim := h.wf.used
  have hul2 : sumF D.fs = D.used := rfl
  have hwf : (D.put ⟨s.data.toList, x.f.b ++ b, x.f.sy⟩).Wf := Dk.put_wf h.wf _ (by show x.f.sy ≤ (x.f.b ++ b).length; rw [List.length_append]; omega) (by show nmOk s.data.toList = true; rw [← hxn]; exact h.wf.names _ hmem)
    (by show D.used + (x.f.b ++ b).length ≤ D.lim + D.size s.data.toList; rw [List.length_append]; omega) (.inl (by show (D.find s.data.toList).isSome = true; rw [hfd]; rfl))
  have hU : (D.put ⟨s.data.toList, x.f.b ++ b, x.f.sy⟩).used = D.used + b.length := by rw [List.length_append] at hus; omega
  have hp := h.part
  have hpx := hp.2.2.2 x (by rw [hfb]; simp)
  have hbk := hpx x.blk (List.mem_cons_self ..)
  have hvk : ∀ k, inFoot x.v k → k ≠ d ∧ k ≠ mb ∧ ¬ inFoot av k := fun k hk => hpx k (List.mem_cons_of_mem _ (mem_footL.2 hk))
  have hmemx : ∀ k, k ∈ x.bl → k ∈ dbl d mb av fbs := fun k hk => by
    rw [hfb]
    simp only [dbl, List.flatMap_append, List.mem_cons, List.mem_append]
    exact .inr (.inr (.inr (.inl (.inr (by simpa using hk)))))
  have hxx : ¬ inFoot x.v x.blk := fun e => by
    have hnd := h.nodup
    rw [hfb] at hnd
    simp only [dbl, List.flatMap_append, List.nodup_cons, List.nodup_append, List.mem_append, List.mem_cons, List.flatMap_cons, List.flatMap_nil, List.append_nil, FB.bl] at hnd
    exact hnd.2.2.2.1.1.2.1.1 (mem_footL.2 e)
  have hfr := hxo.1.frozen 0
  have hw1 : IntKind.i64.wrap ((D.used : Int) + (b.length : Int)) = ((D.used + b.length : Nat) : Int) := by rw [IntWalk.i64_in _ (by omega)]; omega
  have hxe : x = ⟨⟨s.data.toList, x.f.b, x.f.sy⟩, x.blk, x.v⟩ := by
    obtain ⟨⟨xn, xb, xs⟩, xk, xv⟩ := x
    simp only [] at hxn
    subst hxn
    rfl
  have hsame : ∀ v', (A ++ [(⟨⟨s.data.toList, x.f.b ++ b, x.f.sy⟩, x.blk, v'⟩ : FB)] ++ B).map FB.f = (D.put ⟨s.data.toList, x.f.b ++ b, x.f.sy⟩).fs := fun v' => by rw [hput _ rfl]; simp
  have hfit : Fits (x.f.b.length + b.length) := by unfold Fits; omega
  have hbv := hxx; have hkb : x.blk ∈ [x].flatMap FB.bl ∨ w.heap.size ≤ x.blk := .inl (by simp [FB.bl])
  have hkv : ∀ k, inFoot x.v k → k ∈ [x].flatMap FB.bl ∨ w.heap.size ≤ k := fun k hk => .inl (by simp [FB.bl]; exact .inr (mem_footL.2 hk))
  have hbd := hbk.1; have hbm := hbk.2.1; have hvd : ¬ inFoot x.v d := fun e => (hvk d e).1 rfl; have hvm : ¬ inFoot x.v mb := fun e => (hvk mb e).2.1 rfl
  have hvp : ∀ k, inFoot x.v k → k ≠ pd := fun k hk e => hpd (by rw [← e]; exact hmemx k (List.mem_cons_of_mem _ (mem_footL.2 hk)))
  have hvq : ∀ k, inFoot x.v k → k ≠ pb := fun k hk e => hpb (by rw [← e]; exact hmemx k (List.mem_cons_of_mem _ (mem_footL.2 hk)))
  have hbp : x.blk ≠ pd := fun e => hpd (by rw [← e]; exact hmemx _ (List.mem_cons_self ..))
  have hbq : x.blk ≠ pb := fun e => hpb (by rw [← e]; exact hmemx _ (List.mem_cons_self ..))
  have h' := h
  rw [hfb] at h'
  have HFB := Lib.hid hfb; have HXE := Lib.hid hxe
  have HH := Lib.hid h; have HX := Lib.hid hx; have HO := Lib.hid hxo; have HV := Lib.hid hv; have HSM := Lib.hid hsame
  have HU2 := Lib.hid hU; have HL := Lib.hid hl
  clear hfb hxe h hx hxo hv hsame hU hl hf hfd hput hdel hxn hus hsz hmem hmemx hpx hp hvk hxx hbk hul2 hxl
  go_enter Try.func61, Try.ntmps61
  go_wp2_with fail
  have hl0 := HL.out
  go_quiet (fail)
  clear hl0
  go_wp2_with fail
  generalize hXw : w.drewN nq = X at *
  have eW : Ext Nil w X := by rw [← hXw]; exact (Ext.refl Nil w).drewN nq
  clear hXw
  have eX := eW.mono (G := fun k => k = d ∨ k = mb ∨ k ∈ [x].flatMap FB.bl) fun _ _ h => h.elim
  have AX := HH.out.cells.ext eW fun h => h
  have MX : MapAt X mb (A ++ [⟨⟨s.data.toList, x.f.b, x.f.sy⟩, x.blk, x.v⟩] ++ B) := by
    have := HH.out.map.ext eW fun h => h
    rw [HFB.out, HXE.out] at this
    exact this
  have FX := HO.out.1.ext eW fun h => h
  have OX := HO.out.2.ext eW fun _ _ h => h
  have BX := HX.out.ext eW fun _ _ h => h
  have BXd := eW.cell hd' fun h => h
  have BXb := eW.cell hb' fun h => h
  have hU := HU2.out
  have hsame := fun v' => HSM.out v'
  obtain ⟨ao2, cap2, w1, hrun, q1, q2, O1, S1⟩ := run_appendB (w := X.drew) OX BX hfit 31
  have S1 : Step (inFoot x.v) X _ w1 := ⟨(Ext.refl _ X).drew.same S1.1, S1.2⟩
  have FX0 := FX.cell 0 rfl
  have F1 := FX.ext S1.1 hbv
  have F10 := F1.cell 0 rfl
  have z10 := F1.frozen 0
  have hnd : ¬ inFoot x.v pd := fun e => hvp pd e rfl
  have hnb : ¬ inFoot x.v pb := fun e => hvq pb e rfl
  have hYd := (World.cell?_setCell_other w1 ⟨x.blk, 0, none⟩ ⟨pd, 0, none⟩ (.slice ao2 (x.f.b.length + b.length) cap2) (by intro e; simp only [Addr.mk.injEq, and_true] at e; exact hbp e)).trans (S1.1.cell BXd hnd)
  have hYb := (World.cell?_setCell_other w1 ⟨x.blk, 0, none⟩ ⟨pb, 0, none⟩ (.slice ao2 (x.f.b.length + b.length) cap2) (by intro e; simp only [Addr.mk.injEq, and_true] at e; exact hbq e)).trans (S1.1.cell BXb hnb)
  have AY := ((AX.ext S1.1 hvd).setOther ⟨x.blk, 0, none⟩ (.slice ao2 (x.f.b.length + b.length) cap2) (fun e => hbd e.symm))
  have y1 := AY.cell 1 rfl
  have zy1 := AY.frozen 1
  obtain ⟨fbs', HL1, HL2⟩ := append_turn (X0 := [x]) h' s.data.toList x.blk x.v _ x.f.b b x.f.sy _ hU hwf eX AX MX FX hbv O1 S1 hkb hkv hbd hbm hvd hvm (hsame _)
  rw [← HFB.out] at HL2
  have HL := Lib.hid (show ∃ fbs', DAt _ d mb av fbs' _ ∧ Step (· ∈ dbl d mb av (fbs)) w (· ∈ dbl d mb av fbs') _ from ⟨fbs', HL1.drew, HL2.1.drew, HL2.2⟩)
  have hXd := BXd
  have hXb := BXb
  have hpdd : (⟨d, 1, none⟩ : Addr) ≠ ⟨pd, 0, none⟩ := by simp
  have hpbd : (⟨d, 1, none⟩ : Addr) ≠ ⟨pb, 0, none⟩ := by simp
  clear HL1 HL2 h' eX AX MX FX F1 AY O1 OX BX hU hwf hkb hkv hsame
  refine wp_region_held_drew (S := fun w' => w'.cell? ⟨pd, 0, none⟩ = some (.pointer (some ⟨d, 0, none⟩)) ∧ w'.cell? ⟨pb, 0, none⟩ = some (.slice axb b.length capb)) (by kernel_rfl) ⟨hXd, hXb⟩ (fun hHeld => ?_)
  refine wpAnyH_take (i := 0) (v := .pointer (some ⟨x.blk, 0, none⟩)) rfl (by kernel_rfl) (by kernel_rfl) (by kernel_rfl) (fun _ _ _ h => h) (Or.inl ⟨by rfl, ?y1⟩) (by assumption) ?r1
  case y1 => (intro w hSw; obtain ⟨s1, s2⟩ := hSw; go_simp)
  simp only [Act.put]
  refine wpAnyH_take (i := 1) (v := .pointer (some ⟨x.blk, 0, none⟩)) rfl (by kernel_rfl) (by kernel_rfl) (by kernel_rfl) (fun _ _ _ h => h) (Or.inl ⟨by rfl, ?y2⟩) (by assumption) ?r2
  case y2 => (intro w hSw; obtain ⟨s1, s2⟩ := hSw; go_simp)
  simp only [Act.put]
  refine wpAnyH_take (i := 2) (v := .pointer (some ⟨x.blk, 0, none⟩)) rfl (by kernel_rfl) (by kernel_rfl) (by kernel_rfl) (fun _ _ _ h => h) (Or.inl ⟨by rfl, ?y3⟩) (by assumption) ?r3
  case y3 => (intro w hSw; obtain ⟨s1, s2⟩ := hSw; go_simp)
  simp only [Act.put]
  refine wpAnyH_take (i := 3) (v := .pointer (some ⟨x.blk, 0, none⟩)) rfl (by kernel_rfl) (by kernel_rfl) (by kernel_rfl) (fun _ _ _ h => h) (Or.inl ⟨by rfl, ?y4⟩) (by assumption) ?r4
  case y4 => (intro w hSw; obtain ⟨s1, s2⟩ := hSw; go_simp)
  simp only [Act.put]
  refine wpAnyH_take (i := 5) (v := .slice axb b.length capb) rfl (by kernel_rfl) (by kernel_rfl) (by kernel_rfl) (fun _ _ _ h => h) (Or.inl ⟨by rfl, ?y5⟩) (by assumption) ?r5
  case y5 => (intro w hSw; obtain ⟨s1, s2⟩ := hSw; go_simp)
  simp only [Act.put]
  refine wpAnyH_ready (rs := [4]) (by kernel_rfl) (by simp) (AllReadyH.cons rfl (fun K hK => ?_) AllReadyH.nil)
  go_simp
  refine hK.out _ _ ⟨hXd, hXb⟩ (fun hHeld => ?_)
  clear hK K
  refine wpAnyH_ready (rs := [6]) (by kernel_rfl) (by simp) (AllReadyH.cons rfl (fun K hK => ?_) AllReadyH.nil)
  refine step_append_run rfl _ _ _ _ rfl _ _ _ rfl rfl hrun ?_
  refine hK.out _ _ ⟨S1.1.cell hXd hnd, S1.1.cell hXb hnb⟩ (fun hHeld => ?_)
  clear hK K
  simp only [Act.put]
  refine wpAnyH_take (i := 7) (v := .pointer (some ⟨x.blk, 0, none⟩)) rfl (by kernel_rfl) (by kernel_rfl) (by kernel_rfl) (fun _ _ _ h => h) (Or.inl ⟨by rfl, ?y6⟩) (by assumption) ?r6
  case y6 => (intro w hSw; obtain ⟨s1, s2⟩ := hSw; go_simp)
  simp only [Act.put]
  refine wpAnyH_take (i := 8) (v := .pointer (some ⟨x.blk, 0, none⟩)) rfl (by kernel_rfl) (by kernel_rfl) (by kernel_rfl) (fun _ _ _ h => h) (Or.inl ⟨by rfl, ?y7⟩) (by assumption) ?r7
  case y7 => (intro w hSw; obtain ⟨s1, s2⟩ := hSw; go_simp)
  simp only [Act.put]
  refine wpAnyH_ready (rs := [9]) (by kernel_rfl) (by simp) (AllReadyH.cons rfl (fun K hK => ?_) AllReadyH.nil)
  go_simp
  refine hK.out _ _ ⟨hYd, hYb⟩ (fun hHeld => ?_)
  clear hK K
  refine wpAnyH_done (by kernel_rfl) ?_ _
  generalize w1.setCell ⟨x.blk, 0, none⟩ (.slice ao2 (x.f.b.length + b.length) cap2) = Y at *
  go_wp2_with fail
  refine wp_region_held_drew (S := fun w' => w'.cell? ⟨pd, 0, none⟩ = some (.pointer (some ⟨d, 0, none⟩)) ∧ w'.cell? ⟨pb, 0, none⟩ = some (.slice axb b.length capb)) (by kernel_rfl) ⟨hYd, hYb⟩ (fun hHeld => ?_)
  refine wpAnyH_take (i := 0) (v := .pointer (some ⟨d, 0, none⟩)) rfl (by kernel_rfl) (by kernel_rfl) (by kernel_rfl) (fun _ _ _ h => h) (Or.inl ⟨by rfl, ?y8⟩) (by assumption) ?r8
  case y8 => (intro w hSw; obtain ⟨s1, s2⟩ := hSw; go_simp)
  simp only [Act.put]
  refine wpAnyH_take (i := 1) (v := .pointer (some ⟨d, 0, none⟩)) rfl (by kernel_rfl) (by kernel_rfl) (by kernel_rfl) (fun _ _ _ h => h) (Or.inl ⟨by rfl, ?y9⟩) (by assumption) ?r9
  case y9 => (intro w hSw; obtain ⟨s1, s2⟩ := hSw; go_simp)
  simp only [Act.put]
  refine wpAnyH_take (i := 2) (v := .pointer (some ⟨d, 1, none⟩)) rfl (by kernel_rfl) (by kernel_rfl) (by kernel_rfl) (fun _ _ _ h => h) (Or.inl ⟨by rfl, ?y10⟩) (by assumption) ?r10
  case y10 => (intro w hSw; obtain ⟨s1, s2⟩ := hSw; go_simp)
  simp only [Act.put]
  refine wpAnyH_take (i := 4) (v := .slice axb b.length capb) rfl (by kernel_rfl) (by kernel_rfl) (by kernel_rfl) (fun _ _ _ h => h) (Or.inl ⟨by rfl, ?y11⟩) (by assumption) ?r11
  case y11 => (intro w hSw; obtain ⟨s1, s2⟩ := hSw; go_simp)
  simp only [Act.put]
  refine wpAnyH_take (i := 5) (v := .int .i64 b.length) rfl (by kernel_rfl) (by kernel_rfl) (by kernel_rfl) (fun _ _ _ h => h) (Or.inl ⟨by rfl, ?y12⟩) (by assumption) ?r12
  case y12 => (intro w hSw; obtain ⟨s1, s2⟩ := hSw; go_simp)
  simp only [Act.put]
  refine wpAnyH_ready (rs := [3]) (by kernel_rfl) (by simp) (AllReadyH.cons rfl (fun K hK => ?_) AllReadyH.nil)
  go_simp
  refine hK.out _ _ ⟨hYd, hYb⟩ (fun hHeld => ?_)
  clear hK K
  refine wpAnyH_take (i := 6) (v := .int .i64 ((D.used + b.length : Nat) : Int)) rfl (by kernel_rfl) (by kernel_rfl) (by kernel_rfl) (fun _ _ _ h => h) (Or.inl ⟨by rfl, ?y13⟩) (by assumption) ?r13
  case y13 => (intro w hSw; obtain ⟨s1, s2⟩ := hSw; go_simp)
  simp only [Act.put]
  refine wpAnyH_take (i := 7) (v := .pointer (some ⟨d, 0, none⟩)) rfl (by kernel_rfl) (by kernel_rfl) (by kernel_rfl) (fun _ _ _ h => h) (Or.inl ⟨by rfl, ?y14⟩) (by assumption) ?r14
  case y14 => (intro w hSw; obtain ⟨s1, s2⟩ := hSw; go_simp)
  simp only [Act.put]
  refine wpAnyH_take (i := 8) (v := .pointer (some ⟨d, 1, none⟩)) rfl (by kernel_rfl) (by kernel_rfl) (by kernel_rfl) (fun _ _ _ h => h) (Or.inl ⟨by rfl, ?y15⟩) (by assumption) ?r15
  case y15 => (intro w hSw; obtain ⟨s1, s2⟩ := hSw; go_simp)
  simp only [Act.put]
  refine wpAnyH_ready (rs := [9]) (by kernel_rfl) (by simp) (AllReadyH.cons rfl (fun K hK => ?_) AllReadyH.nil)
  go_simp
  refine hK.out _ _ ⟨(World.cell?_setCell_other _ _ _ _ hpdd).trans hYd, (World.cell?_setCell_other _ _ _ _ hpbd).trans hYb⟩ (fun hHeld => ?_)
  clear hK K
  refine wpAnyH_done (by kernel_rfl) ?_ _
  go_wp2_with fail
  go_end0
  exact ⟨rfl, HL.out⟩

set_option maxRecDepth 20000 in
set_option maxHeartbeats 2000000 in
theorem append_new (w : World) (d mb : Nat) (av : Value) (fbs : List FB) (D : Dk) (h : DAt w d mb av fbs D) (pd pn pb : Nat) (s : ByteArray) (hs : s.size ≤ maxLen) (hf : findK FB.nm s.data.toList fbs = none) (axb : Option Addr) (capb : Nat) (b : List UInt8)
    (hd : Bx w pd (.pointer (some ⟨d, 0, none⟩))) (hn : Bx w pn (.string s)) (hb : Bx w pb (.slice axb b.length capb)) (hx : Bytes w (.slice axb b.length capb) b) (hxm : ¬ inFoot (.slice axb b.length capb) mb)
    (hpd : pd ∉ dbl d mb av fbs) (hpn : pn ∉ dbl d mb av fbs) (hpb : pb ∉ dbl d mb av fbs) (hroom : D.used + b.length ≤ D.lim) (hnm : nmOk s.data.toList = true) (hcnt : D.fs.length < 65536) :
    Calls Try.prog 61 #[.pointer (some ⟨pd, 0, none⟩), .pointer (some ⟨pn, 0, none⟩), .pointer (some ⟨pb, 0, none⟩)] w (Did w d mb av fbs (D.put ⟨s.data.toList, b, 0⟩)) := by
  have hl := fun q => MapAt.look (h.map.ext ((Ext.refl Nil w).drewN q) fun h => h) s hs
  unfold fileAt at hl
  rw [hf] at hl
  have hd' : w.cell? ⟨pd, 0, none⟩ = some (.pointer (some ⟨d, 0, none⟩)) := hd
  have hn' : w.cell? ⟨pn, 0, none⟩ = some (.string s) := hn
  have hb' : w.cell? ⟨pb, 0, none⟩ = some (.slice axb b.length capb) := hb
  have c2 := h.cells.cell 2 rfl
  have hfd := h.find s.data.toList
  rw [hf] at hfd
  have hsz : D.size s.data.toList = 0 := Dk.size_none hfd
  have hus : _ + D.size s.data.toList = D.used + b.length := (Dk.used_put h.wf ⟨s.data.toList, b, 0⟩).1
  have hl1 := h.wf.lim1
  have hwf : (D.put ⟨s.data.toList, [] ++ b, 0⟩).Wf := Dk.put_wf h.wf ⟨s.data.toList, [] ++ b, 0⟩ (Nat.zero_le _) hnm
    (by show D.used + ([] ++ b : List UInt8).length ≤ D.lim + D.size s.data.toList; simp; omega) (.inr hcnt)
  have hU : (D.put ⟨s.data.toList, [] ++ b, 0⟩).used = D.used + b.length := by rw [List.nil_append]; omega
  have hp := h.part
  have hdne : d ≠ pd := fun e => hpd (by rw [← e]; simp [dbl])
  have hmpd : mb ≠ pd := fun e => hpd (by rw [← e]; simp [dbl])
  have hmpb : mb ≠ pb := fun e => hpb (by rw [← e]; simp [dbl])
  have hmb := World.ownsMap.lt h.map
  have hdl := h.cells.lt
  have hpdl := (cell_spot hd').2
  have hpbl := (cell_spot hb').2
  simp only [] at hpdl hpbl
  have hw1 : IntKind.i64.wrap ((D.used : Int) + (b.length : Int)) = ((D.used + b.length : Nat) : Int) := by rw [IntWalk.i64_in _ (by omega)]; omega
  obtain ⟨A, B, hfb, hA, hB⟩ := rises_part FB.nm s.data.toList fbs h.rises ((findK_none _ _ _).1 hf)
  have hmapput : ∀ (v : Value) (k : Nat), putK FB.nm ⟨⟨s.data.toList, [], 0⟩, k, v⟩ fbs = A ++ [⟨⟨s.data.toList, [], 0⟩, k, v⟩] ++ B := fun v k => by
    unfold putK
    have e : delK FB.nm (FB.nm ⟨⟨s.data.toList, [], 0⟩, k, v⟩) fbs = A ++ B := by show delK FB.nm s.data.toList fbs = A ++ B; rw [delK_none _ _ _ ((findK_none _ _ _).1 hf), hfb]
    rw [e, insK_part FB.nm ⟨⟨s.data.toList, [], 0⟩, k, v⟩ B hB A hA]
    simp
  have hsame : ∀ (v' : Value) (k : Nat), (A ++ [(⟨⟨s.data.toList, [] ++ b, 0⟩, k, v'⟩ : FB)] ++ B).map FB.f = (D.put ⟨s.data.toList, [] ++ b, 0⟩).fs := fun v' k => by
    have e : (putK FB.nm ⟨⟨s.data.toList, [] ++ b, 0⟩, k, v'⟩ fbs).map FB.f = (D.put ⟨s.data.toList, [] ++ b, 0⟩).fs := by
      rw [putK_map FB.nm FileM.nm FB.f (fun _ => rfl), h.same]
      rfl
    rw [← e]
    congr 1
    unfold putK
    have e : delK FB.nm (FB.nm ⟨⟨s.data.toList, [] ++ b, 0⟩, k, v'⟩) fbs = A ++ B := by show delK FB.nm s.data.toList fbs = A ++ B; rw [delK_none _ _ _ ((findK_none _ _ _).1 hf), hfb]
    rw [e, insK_part FB.nm ⟨⟨s.data.toList, [] ++ b, 0⟩, k, v'⟩ B hB A hA]
    simp
  have hfb : fbs = A ++ [] ++ B := by rw [hfb]; simp
  have h' := h
  rw [hfb] at h'
  have hcount := h.wf.count
  rw [← h.count] at hcount
  have HFB := Lib.hid hfb
  have HH := Lib.hid h; have HX := Lib.hid hx; have HSM := Lib.hid hsame; have HMP := Lib.hid hmapput
  have HU2 := Lib.hid hU; have HL := Lib.hid hl
  clear hfb h hx hsame hU hl hf hfd hus hsz hmapput hA hB
  go_enter Try.func61, Try.ntmps61
  go_wp2_with fail
  have hl0 := HL.out
  go_quiet (fail)
  clear hl0
  go_wp2_with fail
  have e3 : Ext Nil w ((w.drewN nq).alloc (.cells #[.slice none 0 0, .int .i64 0] 115 (0, 0))) := ((Ext.refl Nil w).drewN nq).alloc _
  have FW := At.new (w.drewN nq) [.slice none 0 0, .int .i64 0] 115
  have hws : (w.drewN nq).heap.size = w.heap.size := rfl
  rw [hws] at FW
  generalize (w.drewN nq).alloc (.cells #[.slice none 0 0, .int .i64 0] 115 (0, 0)) = W at *
  have AW := HH.out.cells.ext e3 fun h => h
  have M3 := HH.out.map.ext e3 fun h => h
  obtain ⟨X, hrun0, M', e'⟩ := MapAt.put (w := W.drew) M3 s hs (by unfold maxLen; omega) ⟨⟨s.data.toList, [], 0⟩, w.heap.size, .slice none 0 0⟩ rfl
  rw [HMP.out] at M'
  have hWd := e3.cell hd' fun h => h
  have hWn := e3.cell hn' fun h => h
  have W2 := AW.cell 2 rfl
  have hmpn : mb ≠ pn := fun e => hpn (by rw [← e]; simp [dbl])
  obtain ⟨b0, hb0⟩ : ∃ b0 : List UInt8, b0 = [] := ⟨_, rfl⟩
  have HB0 := Lib.hid hb0
  have eX : Ext (fun k => k = d ∨ k = mb ∨ k ∈ ([] : List FB).flatMap FB.bl) w X := ((e3.drew.mono fun k _ h => h.elim).trans e' fun k _ e => .inr (.inl e))
  have AX := AW.drew.ext e' fun e => hp.1 e
  have FX := FW.drew.ext e' fun e => by have e : w.heap.size = mb := e; omega
  have OX : OwnB X (.slice none 0 0) b0 := by rw [hb0]; exact Own.nil _ _ _
  have MX : MapAt X mb (A ++ [⟨⟨s.data.toList, b0, 0⟩, w.heap.size, .slice none 0 0⟩] ++ B) := by rw [hb0]; exact M'
  have BX := ((HX.out.ext e3 fun _ _ h => h).ext (Ext.refl Nil W).drew fun _ _ h => h).ext e' fun k hk e => hxm (by have e : k = mb := e; rwa [e] at hk)
  have BXd := e'.cell (w := W.drew) hWd fun e => hmpd e.symm
  have BXb := e'.cell (w := W.drew) (e3.cell hb' fun h => h) fun e => hmpb e.symm
  have BXn := e'.cell (w := W.drew) hWn fun e => hmpn e.symm
  have hU : (D.put ⟨s.data.toList, b0 ++ b, 0⟩).used = D.used + b.length := by rw [hb0]; exact HU2.out
  have hsame : ∀ v', (A ++ [(⟨⟨s.data.toList, b0 ++ b, 0⟩, w.heap.size, v'⟩ : FB)] ++ B).map FB.f = (D.put ⟨s.data.toList, b0 ++ b, 0⟩).fs := fun v' => by rw [hb0]; exact HSM.out v' _
  have hwf : (D.put ⟨s.data.toList, b0 ++ b, 0⟩).Wf := by rw [hb0]; exact hwf
  have hfit : Fits (b0.length + b.length) := by rw [hb0]; unfold Fits; simp; omega
  have hnone : ∀ k, ¬ inFoot (.slice none 0 0) k := fun k hk => by simp [inFoot, foot] at hk
  have hbv := hnone w.heap.size
  have hkb : w.heap.size ∈ ([] : List FB).flatMap FB.bl ∨ w.heap.size ≤ w.heap.size := .inr (Nat.le_refl _)
  have hkv : ∀ k, inFoot (.slice none 0 0) k → k ∈ ([] : List FB).flatMap FB.bl ∨ w.heap.size ≤ k := fun k hk => absurd hk (hnone k)
  have hbd : w.heap.size ≠ d := by omega
  have hbm : w.heap.size ≠ mb := by omega
  have hvd := hnone d; have hvm := hnone mb
  have hvp : ∀ k, inFoot (.slice none 0 0) k → k ≠ pd := fun k hk => absurd hk (hnone k)
  have hvq : ∀ k, inFoot (.slice none 0 0) k → k ≠ pb := fun k hk => absurd hk (hnone k)
  have hbp : w.heap.size ≠ pd := by omega
  have hbq : w.heap.size ≠ pb := by omega
  have hEnd : ∀ (w' : World), (∃ fbs', DAt w' d mb av fbs' (D.put ⟨s.data.toList, b0 ++ b, 0⟩) ∧ Step (· ∈ dbl d mb av fbs) w (· ∈ dbl d mb av fbs') w') → ∃ fbs', DAt w' d mb av fbs' (D.put ⟨s.data.toList, b, 0⟩) ∧ Step (· ∈ dbl d mb av fbs) w (· ∈ dbl d mb av fbs') w' := fun w' hq => by
    rw [hb0] at hq
    exact hq
  have HEnd := Lib.hid hEnd
  clear hb0 hnone hEnd M3 M' AW FW
  refine wp_region_held_drew (S := fun w' => w'.cell? ⟨pd, 0, none⟩ = some (.pointer (some ⟨d, 0, none⟩)) ∧ w'.cell? ⟨pn, 0, none⟩ = some (.string s)) (by kernel_rfl) ⟨hWd, hWn⟩ (fun hHeld => ?_)
  refine wpAnyH_take (i := 0) (v := .pointer (some ⟨d, 0, none⟩)) rfl (by kernel_rfl) (by kernel_rfl) (by kernel_rfl) (fun _ _ _ h => h) (Or.inl ⟨by rfl, ?y16⟩) (by assumption) ?r16
  case y16 => (intro w hSw; obtain ⟨s1, s2⟩ := hSw; go_simp)
  simp only [Act.put]
  refine wpAnyH_take (i := 1) (v := .pointer (some ⟨d, 0, none⟩)) rfl (by kernel_rfl) (by kernel_rfl) (by kernel_rfl) (fun _ _ _ h => h) (Or.inl ⟨by rfl, ?y17⟩) (by assumption) ?r17
  case y17 => (intro w hSw; obtain ⟨s1, s2⟩ := hSw; go_simp)
  simp only [Act.put]
  refine wpAnyH_take (i := 2) (v := .pointer (some ⟨d, 2, none⟩)) rfl (by kernel_rfl) (by kernel_rfl) (by kernel_rfl) (fun _ _ _ h => h) (Or.inl ⟨by rfl, ?y18⟩) (by assumption) ?r18
  case y18 => (intro w hSw; obtain ⟨s1, s2⟩ := hSw; go_simp)
  simp only [Act.put]
  refine wpAnyH_take (i := 4) (v := .string s) rfl (by kernel_rfl) (by kernel_rfl) (by kernel_rfl) (fun _ _ _ h => h) (Or.inl ⟨by rfl, ?y19⟩) (by assumption) ?r19
  case y19 => (intro w hSw; obtain ⟨s1, s2⟩ := hSw; go_simp)
  simp only [Act.put]
  refine wpAnyH_take (i := 5) (v := .pointer (some ⟨w.heap.size, 0, none⟩)) rfl (by kernel_rfl) (by kernel_rfl) (by kernel_rfl) (fun _ _ _ h => h) (Or.inl ⟨by rfl, ?y20⟩) (by assumption) ?r20
  case y20 => (intro w hSw; obtain ⟨s1, s2⟩ := hSw; go_simp)
  simp only [Act.put]
  refine wpAnyH_ready (rs := [3]) (by kernel_rfl) (by simp) (AllReadyH.cons rfl (fun K hK => ?_) AllReadyH.nil)
  go_simp
  refine hK.out _ _ ⟨hWd, hWn⟩ (fun hHeld => ?_)
  clear hK K
  refine wpAnyH_ready (rs := [6]) (by kernel_rfl) (by simp) (AllReadyH.cons rfl (fun K hK => ?_) AllReadyH.nil)
  go_simp
  refine hK.out _ _ ⟨BXd, BXn⟩ (fun hHeld => ?_)
  clear hK K
  refine wpAnyH_done (by kernel_rfl) ?_ _
  clear hrun0 hWd hWn W2 BXn HMP HSM HU2
  go_wp2_with fail
  obtain ⟨ao2, cap2, w1, hrun, q1, q2, O1, S1⟩ := run_appendB (w := X.drew) OX BX hfit 31
  have S1 : Step (inFoot (.slice none 0 0)) X _ w1 := ⟨(Ext.refl _ X).drew.same S1.1, S1.2⟩
  have FX0 := FX.cell 0 rfl
  have F1 := FX.ext S1.1 hbv
  have F10 := F1.cell 0 rfl
  have z10 := F1.frozen 0
  have hnd : ¬ inFoot (.slice none 0 0) pd := fun e => hvp pd e rfl
  have hnb : ¬ inFoot (.slice none 0 0) pb := fun e => hvq pb e rfl
  have hYd := (World.cell?_setCell_other w1 ⟨w.heap.size, 0, none⟩ ⟨pd, 0, none⟩ (.slice ao2 (b0.length + b.length) cap2) (by intro e; simp only [Addr.mk.injEq, and_true] at e; exact hbp e)).trans (S1.1.cell BXd hnd)
  have hYb := (World.cell?_setCell_other w1 ⟨w.heap.size, 0, none⟩ ⟨pb, 0, none⟩ (.slice ao2 (b0.length + b.length) cap2) (by intro e; simp only [Addr.mk.injEq, and_true] at e; exact hbq e)).trans (S1.1.cell BXb hnb)
  have AY := ((AX.ext S1.1 hvd).setOther ⟨w.heap.size, 0, none⟩ (.slice ao2 (b0.length + b.length) cap2) (fun e => hbd e.symm))
  have y1 := AY.cell 1 rfl
  have zy1 := AY.frozen 1
  obtain ⟨fbs', HL1, HL2⟩ := append_turn (X0 := []) h' s.data.toList w.heap.size (.slice none 0 0) _ b0 b 0 _ hU hwf eX AX MX FX hbv O1 S1 hkb hkv hbd hbm hvd hvm (hsame _)
  rw [← HFB.out] at HL2
  have HL := Lib.hid (show ∃ fbs', DAt _ d mb av fbs' _ ∧ Step (· ∈ dbl d mb av (fbs)) w (· ∈ dbl d mb av fbs') _ from ⟨fbs', HL1.drew, HL2.1.drew, HL2.2⟩)
  have hXd := BXd
  have hXb := BXb
  have hpdd : (⟨d, 1, none⟩ : Addr) ≠ ⟨pd, 0, none⟩ := by simp
  have hpbd : (⟨d, 1, none⟩ : Addr) ≠ ⟨pb, 0, none⟩ := by simp
  clear HL1 HL2 h' eX AX MX FX F1 AY O1 OX BX hU hwf hkb hkv hsame
  refine wp_region_held_drew (S := fun w' => w'.cell? ⟨pd, 0, none⟩ = some (.pointer (some ⟨d, 0, none⟩)) ∧ w'.cell? ⟨pb, 0, none⟩ = some (.slice axb b.length capb)) (by kernel_rfl) ⟨hXd, hXb⟩ (fun hHeld => ?_)
  refine wpAnyH_take (i := 0) (v := .pointer (some ⟨w.heap.size, 0, none⟩)) rfl (by kernel_rfl) (by kernel_rfl) (by kernel_rfl) (fun _ _ _ h => h) (Or.inl ⟨by rfl, ?y21⟩) (by assumption) ?r21
  case y21 => (intro w hSw; obtain ⟨s1, s2⟩ := hSw; go_simp)
  simp only [Act.put]
  refine wpAnyH_take (i := 1) (v := .pointer (some ⟨w.heap.size, 0, none⟩)) rfl (by kernel_rfl) (by kernel_rfl) (by kernel_rfl) (fun _ _ _ h => h) (Or.inl ⟨by rfl, ?y22⟩) (by assumption) ?r22
  case y22 => (intro w hSw; obtain ⟨s1, s2⟩ := hSw; go_simp)
  simp only [Act.put]
  refine wpAnyH_take (i := 2) (v := .pointer (some ⟨w.heap.size, 0, none⟩)) rfl (by kernel_rfl) (by kernel_rfl) (by kernel_rfl) (fun _ _ _ h => h) (Or.inl ⟨by rfl, ?y23⟩) (by assumption) ?r23
  case y23 => (intro w hSw; obtain ⟨s1, s2⟩ := hSw; go_simp)
  simp only [Act.put]
  refine wpAnyH_take (i := 3) (v := .pointer (some ⟨w.heap.size, 0, none⟩)) rfl (by kernel_rfl) (by kernel_rfl) (by kernel_rfl) (fun _ _ _ h => h) (Or.inl ⟨by rfl, ?y24⟩) (by assumption) ?r24
  case y24 => (intro w hSw; obtain ⟨s1, s2⟩ := hSw; go_simp)
  simp only [Act.put]
  refine wpAnyH_take (i := 5) (v := .slice axb b.length capb) rfl (by kernel_rfl) (by kernel_rfl) (by kernel_rfl) (fun _ _ _ h => h) (Or.inl ⟨by rfl, ?y25⟩) (by assumption) ?r25
  case y25 => (intro w hSw; obtain ⟨s1, s2⟩ := hSw; go_simp)
  simp only [Act.put]
  refine wpAnyH_ready (rs := [4]) (by kernel_rfl) (by simp) (AllReadyH.cons rfl (fun K hK => ?_) AllReadyH.nil)
  go_simp
  refine hK.out _ _ ⟨hXd, hXb⟩ (fun hHeld => ?_)
  clear hK K
  refine wpAnyH_ready (rs := [6]) (by kernel_rfl) (by simp) (AllReadyH.cons rfl (fun K hK => ?_) AllReadyH.nil)
  refine step_append_run rfl _ _ _ _ rfl _ _ _ rfl rfl hrun ?_
  refine hK.out _ _ ⟨S1.1.cell hXd hnd, S1.1.cell hXb hnb⟩ (fun hHeld => ?_)
  clear hK K
  simp only [Act.put]
  refine wpAnyH_take (i := 7) (v := .pointer (some ⟨w.heap.size, 0, none⟩)) rfl (by kernel_rfl) (by kernel_rfl) (by kernel_rfl) (fun _ _ _ h => h) (Or.inl ⟨by rfl, ?y26⟩) (by assumption) ?r26
  case y26 => (intro w hSw; obtain ⟨s1, s2⟩ := hSw; go_simp)
  simp only [Act.put]
  refine wpAnyH_take (i := 8) (v := .pointer (some ⟨w.heap.size, 0, none⟩)) rfl (by kernel_rfl) (by kernel_rfl) (by kernel_rfl) (fun _ _ _ h => h) (Or.inl ⟨by rfl, ?y27⟩) (by assumption) ?r27
  case y27 => (intro w hSw; obtain ⟨s1, s2⟩ := hSw; go_simp)
  simp only [Act.put]
  refine wpAnyH_ready (rs := [9]) (by kernel_rfl) (by simp) (AllReadyH.cons rfl (fun K hK => ?_) AllReadyH.nil)
  go_simp
  refine hK.out _ _ ⟨hYd, hYb⟩ (fun hHeld => ?_)
  clear hK K
  refine wpAnyH_done (by kernel_rfl) ?_ _
  generalize w1.setCell ⟨w.heap.size, 0, none⟩ (.slice ao2 (b0.length + b.length) cap2) = Y at *
  go_wp2_with fail
  refine wp_region_held_drew (S := fun w' => w'.cell? ⟨pd, 0, none⟩ = some (.pointer (some ⟨d, 0, none⟩)) ∧ w'.cell? ⟨pb, 0, none⟩ = some (.slice axb b.length capb)) (by kernel_rfl) ⟨hYd, hYb⟩ (fun hHeld => ?_)
  refine wpAnyH_take (i := 0) (v := .pointer (some ⟨d, 0, none⟩)) rfl (by kernel_rfl) (by kernel_rfl) (by kernel_rfl) (fun _ _ _ h => h) (Or.inl ⟨by rfl, ?y28⟩) (by assumption) ?r28
  case y28 => (intro w hSw; obtain ⟨s1, s2⟩ := hSw; go_simp)
  simp only [Act.put]
  refine wpAnyH_take (i := 1) (v := .pointer (some ⟨d, 0, none⟩)) rfl (by kernel_rfl) (by kernel_rfl) (by kernel_rfl) (fun _ _ _ h => h) (Or.inl ⟨by rfl, ?y29⟩) (by assumption) ?r29
  case y29 => (intro w hSw; obtain ⟨s1, s2⟩ := hSw; go_simp)
  simp only [Act.put]
  refine wpAnyH_take (i := 2) (v := .pointer (some ⟨d, 1, none⟩)) rfl (by kernel_rfl) (by kernel_rfl) (by kernel_rfl) (fun _ _ _ h => h) (Or.inl ⟨by rfl, ?y30⟩) (by assumption) ?r30
  case y30 => (intro w hSw; obtain ⟨s1, s2⟩ := hSw; go_simp)
  simp only [Act.put]
  refine wpAnyH_take (i := 4) (v := .slice axb b.length capb) rfl (by kernel_rfl) (by kernel_rfl) (by kernel_rfl) (fun _ _ _ h => h) (Or.inl ⟨by rfl, ?y31⟩) (by assumption) ?r31
  case y31 => (intro w hSw; obtain ⟨s1, s2⟩ := hSw; go_simp)
  simp only [Act.put]
  refine wpAnyH_take (i := 5) (v := .int .i64 b.length) rfl (by kernel_rfl) (by kernel_rfl) (by kernel_rfl) (fun _ _ _ h => h) (Or.inl ⟨by rfl, ?y32⟩) (by assumption) ?r32
  case y32 => (intro w hSw; obtain ⟨s1, s2⟩ := hSw; go_simp)
  simp only [Act.put]
  refine wpAnyH_ready (rs := [3]) (by kernel_rfl) (by simp) (AllReadyH.cons rfl (fun K hK => ?_) AllReadyH.nil)
  go_simp
  refine hK.out _ _ ⟨hYd, hYb⟩ (fun hHeld => ?_)
  clear hK K
  refine wpAnyH_take (i := 6) (v := .int .i64 ((D.used + b.length : Nat) : Int)) rfl (by kernel_rfl) (by kernel_rfl) (by kernel_rfl) (fun _ _ _ h => h) (Or.inl ⟨by rfl, ?y33⟩) (by assumption) ?r33
  case y33 => (intro w hSw; obtain ⟨s1, s2⟩ := hSw; go_simp)
  simp only [Act.put]
  refine wpAnyH_take (i := 7) (v := .pointer (some ⟨d, 0, none⟩)) rfl (by kernel_rfl) (by kernel_rfl) (by kernel_rfl) (fun _ _ _ h => h) (Or.inl ⟨by rfl, ?y34⟩) (by assumption) ?r34
  case y34 => (intro w hSw; obtain ⟨s1, s2⟩ := hSw; go_simp)
  simp only [Act.put]
  refine wpAnyH_take (i := 8) (v := .pointer (some ⟨d, 1, none⟩)) rfl (by kernel_rfl) (by kernel_rfl) (by kernel_rfl) (fun _ _ _ h => h) (Or.inl ⟨by rfl, ?y35⟩) (by assumption) ?r35
  case y35 => (intro w hSw; obtain ⟨s1, s2⟩ := hSw; go_simp)
  simp only [Act.put]
  refine wpAnyH_ready (rs := [9]) (by kernel_rfl) (by simp) (AllReadyH.cons rfl (fun K hK => ?_) AllReadyH.nil)
  go_simp
  refine hK.out _ _ ⟨(World.cell?_setCell_other _ _ _ _ hpdd).trans hYd, (World.cell?_setCell_other _ _ _ _ hpbd).trans hYb⟩ (fun hHeld => ?_)
  clear hK K
  refine wpAnyH_done (by kernel_rfl) ?_ _
  go_wp2_with fail
  go_end0
  exact ⟨rfl, HEnd.out _ HL.out⟩
end Go.Proofs.Ytnppneilbkmnfaa
