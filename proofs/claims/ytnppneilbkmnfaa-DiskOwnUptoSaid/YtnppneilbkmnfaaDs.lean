/- The contract of the disk's Arm. Condition: the disk stands; few calls were made. -/
import Derived.Test.YtnppneilbkmnfaaDr
namespace Go.Proofs.Ytnppneilbkmnfaa
open Go.RowKit

theorem info_armed : (Try.prog.info? 108).map (fun i => (i.zero, i.size, i.bytes)) = some (some (.agg #[.int .i64 0, .int .i64 0, .int .i64 0, .bool false]), 4, 32) := by kernel_rfl
theorem armCells_one (l : List ArmM) : ∀ u ∈ l.flatMap armCells, u.oneCell' = true := by
  intro u hu
  obtain ⟨a, -, ha⟩ := List.mem_flatMap.1 hu
  simp only [armCells, List.mem_cons, List.not_mem_nil, or_false] at ha
  rcases ha with rfl | rfl | rfl | rfl <;> rfl
/-- append of a trouble onto a row of troubles -/
theorem run_appendA {w : World} {v : Value} {l : List ArmM} (hown : OwnA w v l) {vx : Value} {a : ArmM} (hm : Reads w 4 vx 1 (armCells a)) (hfit : l.length ≤ 1099511627776) (ty : TypeId) :
    ∃ ao cap w', (Builtin.append_ #[55, 55] ty #[v, vx]).run Try.prog w = .ok (.slice ao (l.length + 1) cap) w' ∧ OwnA w' (.slice ao (l.length + 1) cap) (l ++ [a]) ∧ Step (inFoot v) w (inFoot (.slice ao (l.length + 1) cap)) w' := by
  obtain ⟨i, hi, hz, h1, h2⟩ := info_parts info_armed
  have hone : ∀ u ∈ armCells a, u.oneCell' = true := fun u hu => armCells_one [a] u (by simpa using hu)
  obtain ⟨v', w', hr, h3, h4, h5⟩ := run_append (P := Try.prog) w 55 55 ty 108 i (.agg #[.int .i64 0, .int .i64 0, .int .i64 0, .bool false]) 4 32 Try.underlying55 hi hz h1 h2 rfl v l.length _ hown vx 1 (armCells a) (Reads.src (P := Try.prog) hm Try.underlying55 hone)
    (by unfold maxLen; omega) (by omega)
  obtain ⟨ao, cap, rfl, h6, h7⟩ := h3.shape
  refine ⟨ao, cap, w', hr, ?_, h4, h5⟩
  unfold OwnA
  rw [List.length_append, List.flatMap_append]
  simpa using h3
theorem Reads.oneArm (w : World) (a : ArmM) : Reads (w.alloc (.cells (armCells a).toArray 108 (0, 0))) 4 (.slice (some ⟨w.heap.size, 0, none⟩) 1 1) 1 (armCells a) :=
  ⟨rfl, _, _, rfl, Nat.le_refl _, by simp [maxLen], fun _ => ⟨_, _, rfl, fun j u hu => by rw [Nat.zero_add]; exact (At.new w (armCells a) 108).cell j hu⟩⟩

theorem arm_off_m (w : World) (d : Nat) (D : Dk) (F : Nat → Prop) (hD : Disk w d D F) (a k : Int) (b : Bool) (ho : D.off = true) :
    Calls Try.prog 19 #[.pointer (some ⟨d, 0, none⟩), .agg #[.int .i64 a, .int .i64 k, .bool b]] w (Acted w d F (D.arm a k b)) := by
  have hdef : D.arm a k b = (D, 63) := by unfold Dk.arm; rw [if_pos ho]
  rw [hdef]
  have hDD := hD
  obtain ⟨mb, av, fbs, h, rfl⟩ := hD
  have eW : Ext Nil w (w.alloc (.cells #[.int .i64 a, .int .i64 k, .bool b] 29 (0, 0))) := (Ext.refl _ _).alloc _
  have hW := h.ext eW fun _ _ h => h
  have c3 := hW.cells.cell 3 rfl
  rw [ho] at c3
  go_enter Try.func19, Try.ntmps19
  go_wp2_with (go_at_call 56; refine (missing_at _ d mb av fbs D hW).mono ?_; rintro e w' ⟨rfl, rfl⟩)
  go_ret
  exact Acted.same hDD eW _
theorem arm_bad_m (w : World) (d : Nat) (D : Dk) (F : Nat → Prop) (hD : Disk w d D F) (a k : Int) (b : Bool) (ho : D.off = false) (hbad : a < 1 ∨ 4294967296 < a ∨ (k ≠ 1 ∧ k ≠ 2) ∨ (b = true ∧ k = 1)) :
    Calls Try.prog 19 #[.pointer (some ⟨d, 0, none⟩), .agg #[.int .i64 a, .int .i64 k, .bool b]] w (Acted w d F (D.arm a k b)) := by
  have hdef : D.arm a k b = (D, 2) := by unfold Dk.arm; rw [if_neg (by simp [ho]), if_pos hbad]
  rw [hdef]
  have hDD := hD
  obtain ⟨mb, av, fbs, h, rfl⟩ := hD
  have eW : Ext Nil w (w.alloc (.cells #[.int .i64 a, .int .i64 k, .bool b] 29 (0, 0))) := (Ext.refl _ _).alloc _
  have hW := h.ext eW fun _ _ h => h
  have c3 := hW.cells.cell 3 rfl
  rw [ho] at c3
  by_cases h1 : a < 1
  · clear hbad
    go_enter Try.func19, Try.ntmps19
    go_wp2_with (go_at_call 56; refine (missing_at _ d mb av fbs D hW).mono ?_; rintro e w' ⟨rfl, rfl⟩)
    go_ret
    exact Acted.same hDD eW _
  · have h1 : 1 ≤ a := by omega
    by_cases h2 : 4294967296 < a
    · clear hbad
      go_enter Try.func19, Try.ntmps19
      go_wp2_with (go_at_call 56; refine (missing_at _ d mb av fbs D hW).mono ?_; rintro e w' ⟨rfl, rfl⟩)
      go_ret
      exact Acted.same hDD eW _
    · have h2 : a ≤ 4294967296 := by omega
      by_cases h3 : k = 1
      · have hb : b = true := by
          rcases hbad with h | h | h | h
          · omega
          · omega
          · omega
          · exact h.1
        subst h3 hb
        clear hbad
        go_enter Try.func19, Try.ntmps19
        go_wp2_with (go_at_call 56; refine (missing_at _ d mb av fbs D hW).mono ?_; rintro e w' ⟨rfl, rfl⟩)
        go_ret
        exact Acted.same hDD eW _
      · have h4 : k ≠ 2 := by
          rcases hbad with h | h | h | h
          · omega
          · omega
          · exact h.2
          · exact absurd h.2 h3
        have n1 : (k != 1) = true := by rw [bne_iff_ne]; exact h3
        have n2 : (k != 2) = true := by rw [bne_iff_ne]; exact h4
        clear hbad h3 h4
        go_enter Try.func19, Try.ntmps19
        go_wp2_with (go_at_call 56; refine (missing_at _ d mb av fbs D hW).mono ?_; rintro e w' ⟨rfl, rfl⟩)
        go_ret
        exact Acted.same hDD eW _

/-- what turns when a trouble is laid behind the others -/
theorem DAt.armed {w X w1 : World} {d mb : Nat} {av : Value} {fbs : List FB} {D : Dk} (h : DAt w d mb av fbs D) (e : Ext Nil w X) (v' : Value) (a : ArmM) (hO : OwnA w1 v' (D.arms ++ [a])) (hS : Step (inFoot av) X (inFoot v') w1) (ha : (a.kind = 1 ∨ a.kind = 2) ∧ 1 ≤ a.tat ∧ a.tat ≤ 4294967296) :
    DAt (w1.setCell ⟨d, 6, none⟩ v') d mb v' fbs { D with arms := D.arms ++ [a] } ∧ Step (· ∈ dbl d mb av fbs) w (· ∈ dbl d mb v' fbs) (w1.setCell ⟨d, 6, none⟩ v') := by
  have hX := h.ext e fun _ _ h => h
  have hp := h.part
  have hd := hX.cells.lt
  have hvd : ¬ inFoot v' d := fun hk => (hS.2 d hk).elim hp.2.1 fun hk => by omega
  have e1 : Ext (fun k => k = d ∨ inFoot av k) w (w1.setCell ⟨d, 6, none⟩ v') := (((e.mono fun _ _ h => h.elim).trans hS.1 fun i _ h => .inr h)).setCell (p := ⟨d, 6, none⟩) (fun _ => .inl rfl) v'
  refine h.rearm (D' := { D with arms := D.arms ++ [a] }) e1 ((hX.cells.ext hS.1 hp.2.1).set 6 v') (hO.ext (F := One d) ((Ext.refl (One d) w1).setCell (p := ⟨d, 6, none⟩) (fun _ => (rfl : d = d)) v') fun k hk ek => hvd (by have ek : k = d := ek; rwa [ek] at hk)) (fun k hk => (hS.2 k hk).imp id fun h => Nat.le_trans e.size h) rfl ?_
  exact ⟨h.wf.rises, h.wf.lim0, h.wf.lim1, h.wf.used, h.wf.synced, h.wf.names, h.wf.count, fun x hx => by
    rcases List.mem_append.1 hx with hx | hx
    · exact h.wf.kinds x hx
    · rw [List.mem_singleton] at hx
      subst hx
      exact ha, h.wf.outOff⟩

set_option maxRecDepth 20000 in
set_option maxHeartbeats 2000000 in
theorem arm_ok_m (w : World) (d : Nat) (D : Dk) (F : Nat → Prop) (hD : Disk w d D F) (hc : D.calls ≤ 1099511627776) (hal : D.arms.length ≤ 1099511627776) (a k : Int) (b : Bool) (ho : D.off = false) (h1 : 1 ≤ a) (h2 : a ≤ 4294967296) (hkb : k = 1 ∧ b = false ∨ k = 2) :
    Calls Try.prog 19 #[.pointer (some ⟨d, 0, none⟩), .agg #[.int .i64 a, .int .i64 k, .bool b]] w (Acted w d F (D.arm a k b)) := by
  obtain ⟨m, rfl⟩ := Int.eq_ofNat_of_zero_le (show 0 ≤ a by omega)
  have hdef : D.arm m k b = ({ D with arms := D.arms ++ [⟨D.calls + m, m, k, b⟩] }, 0) := by
    unfold Dk.arm
    rw [if_neg (by simp [ho]), if_neg]
    · rfl
    · rintro (h | h | h | h)
      · omega
      · omega
      · omega
      · rcases hkb with h' | h'
        · rw [h'.2] at h; cases h.1
        · omega
  rw [hdef]
  clear hdef
  obtain ⟨mb, av, fbs, h, rfl⟩ := hD
  have eW : Ext Nil w (w.alloc (.cells #[.int .i64 m, .int .i64 k, .bool b] 29 (0, 0))) := (Ext.refl _ _).alloc _
  have hW := h.ext eW fun _ _ h => h
  have c3 := hW.cells.cell 3 rfl
  rw [ho] at c3
  obtain ⟨ao, cap, hav, hcap, hcm⟩ := Own.shape h.arms
  subst hav
  have b6 := hW.cells.cell 6 rfl
  have b5 := hW.cells.cell 5 rfl
  have f6 := hW.cells.frozen 6
  have hN := At.new w [.int .i64 m, .int .i64 k, .bool b] 29
  have b0 := hN.cell 0 rfl
  have b1 := hN.cell 1 rfl
  have b2 := hN.cell 2 rfl
  have hd := h.cells.lt
  have hp := h.part
  obtain ⟨J, hJ⟩ : ∃ J : Nat, J = D.calls + m := ⟨_, rfl⟩
  have hw1 : IntKind.i64.wrap ((D.calls : Int) + (m : Int)) = (J : Int) := by rw [IntWalk.i64_in _ (by omega)]; omega
  -- the new trouble's block, the append, what turns
  have hrunX : ∃ ao2 cap2 w1, (Builtin.append_ #[55, 55] 55 #[.slice ao D.arms.length cap, .slice (some ⟨w.heap.size + 1, 0, none⟩) 1 1]).run Try.prog (((w.alloc (.cells #[.int .i64 m, .int .i64 k, .bool b] 29 (0, 0))).alloc (.cells #[.int .i64 J, .int .i64 m, .int .i64 k, .bool b] 108 (0, 0))).drew) = .ok (.slice ao2 (D.arms.length + 1) cap2) w1 ∧
      Step (inFoot (.slice ao D.arms.length cap)) ((w.alloc (.cells #[.int .i64 m, .int .i64 k, .bool b] 29 (0, 0))).alloc (.cells #[.int .i64 J, .int .i64 m, .int .i64 k, .bool b] 108 (0, 0))) (inFoot (.slice ao2 (D.arms.length + 1) cap2)) w1 ∧
      ∃ av' fbs', DAt (w1.setCell ⟨d, 6, none⟩ (.slice ao2 (D.arms.length + 1) cap2)) d mb av' fbs' { D with arms := D.arms ++ [⟨D.calls + m, m, k, b⟩] } ∧ Step (· ∈ dbl d mb (.slice ao D.arms.length cap) fbs) w (· ∈ dbl d mb av' fbs') (w1.setCell ⟨d, 6, none⟩ (.slice ao2 (D.arms.length + 1) cap2)) := by
    have hs1 : (w.alloc (.cells #[.int .i64 m, .int .i64 k, .bool b] 29 (0, 0))).heap.size = w.heap.size + 1 := by simp
    have hR := Reads.oneArm (w.alloc (.cells #[.int .i64 m, .int .i64 k, .bool b] 29 (0, 0))) ⟨J, m, k, b⟩
    rw [hs1] at hR
    have eX := eW.alloc (.cells #[.int .i64 J, .int .i64 m, .int .i64 k, .bool b] 108 (0, 0))
    have hO : OwnA _ (.slice ao D.arms.length cap) D.arms := h.arms.ext eX fun _ _ h => h
    obtain ⟨ao2, cap2, w1, hr, hO1, hS1⟩ := run_appendA (hO.ext (Ext.refl Nil _).drew fun _ _ h => h) (Reads.ext hR (F := Nil) (Ext.refl Nil _).drew fun _ _ h => h) hal 55
    have hS1 : Step _ ((w.alloc (.cells #[.int .i64 m, .int .i64 k, .bool b] 29 (0, 0))).alloc (.cells #[.int .i64 J, .int .i64 m, .int .i64 k, .bool b] 108 (0, 0))) _ w1 := ⟨(Ext.refl _ _).drew.same hS1.1, hS1.2⟩
    have hA := h.armed eX _ ⟨J, m, k, b⟩ hO1 hS1 ⟨by rcases hkb with h | h <;> simp [h], by show 1 ≤ (m : Int); omega, by show (m : Int) ≤ 4294967296; omega⟩
    rw [hJ] at hA
    exact ⟨ao2, cap2, w1, hr, hS1, _, fbs, hA⟩
  obtain ⟨ao2, cap2, w1, hrun, hS1, hEND⟩ := hrunX
  have eX := (Ext.refl Nil (w.alloc (.cells #[.int .i64 m, .int .i64 k, .bool b] 29 (0, 0)))).alloc (.cells #[.int .i64 J, .int .i64 m, .int .i64 k, .bool b] 108 (0, 0))
  have hAf : ∀ k, inFoot (.slice ao D.arms.length cap) k → k < w.heap.size := Own.lt h.arms
  have hbf : ¬ inFoot (.slice ao D.arms.length cap) w.heap.size := fun e => by have := hAf _ e; omega
  have x0 := eX.cell b0 fun h => h
  have x1 := eX.cell b1 fun h => h
  have x2 := eX.cell b2 fun h => h
  have x5 := eX.cell b5 fun h => h
  have x6 := eX.cell b6 fun h => h
  have y0 := hS1.1.cell x0 hbf
  have y1 := hS1.1.cell x1 hbf
  have y2 := hS1.1.cell x2 hbf
  have y5 := hS1.1.cell x5 hp.2.1
  have AX := (hW.cells.ext eX fun h => h).ext hS1.1 hp.2.1
  have z6 := AX.cell 6 rfl
  have zf := AX.frozen 6
  have HEND := Lib.hid hEND; have HJ := Lib.hid hJ; have HAF := Lib.hid hAf; have HS1 := Lib.hid hS1
  clear hEND hJ hAf hS1 AX hN eX hp hbf
  rcases hkb with ⟨rfl, rfl⟩ | rfl
  all_goals try cases b
  all_goals
    go_enter Try.func19, Try.ntmps19
    go_wp2_with (go_at_call 56; refine (missing_at _ d mb _ fbs D hW).mono ?_; rintro e w' ⟨rfl, rfl⟩)
  · refine wp_region_held_drew (S := fun w' => w'.cell? ⟨w.heap.size, 0, none⟩ = some (.int .i64 m) ∧ w'.cell? ⟨w.heap.size, 1, none⟩ = some (.int .i64 1) ∧ w'.cell? ⟨w.heap.size, 2, none⟩ = some (.bool false) ∧ w'.cell? ⟨d, 5, none⟩ = some (.int .i64 D.calls)) (by kernel_rfl) ⟨b0, b1, b2, b5⟩ (fun hHeld => ?_)
    refine wpAnyH_take (i := 0) (v := .pointer (some ⟨d, 0, none⟩)) rfl (by kernel_rfl) (by kernel_rfl) (by kernel_rfl) (fun _ _ _ h => h) (Or.inl ⟨by rfl, ?y1⟩) (by assumption) ?r1
    case y1 => (intro w hSw; obtain ⟨s1, s2, s3, s4⟩ := hSw; go_simp)
    simp only [Act.put]
    refine wpAnyH_take (i := 1) (v := .pointer (some ⟨d, 0, none⟩)) rfl (by kernel_rfl) (by kernel_rfl) (by kernel_rfl) (fun _ _ _ h => h) (Or.inl ⟨by rfl, ?y2⟩) (by assumption) ?r2
    case y2 => (intro w hSw; obtain ⟨s1, s2, s3, s4⟩ := hSw; go_simp)
    simp only [Act.put]
    refine wpAnyH_take (i := 2) (v := .pointer (some ⟨d, 0, none⟩)) rfl (by kernel_rfl) (by kernel_rfl) (by kernel_rfl) (fun _ _ _ h => h) (Or.inl ⟨by rfl, ?y3⟩) (by assumption) ?r3
    case y3 => (intro w hSw; obtain ⟨s1, s2, s3, s4⟩ := hSw; go_simp)
    simp only [Act.put]
    refine wpAnyH_take (i := 3) (v := .pointer (some ⟨d, 6, none⟩)) rfl (by kernel_rfl) (by kernel_rfl) (by kernel_rfl) (fun _ _ _ h => h) (Or.inl ⟨by rfl, ?y4⟩) (by assumption) ?r4
    case y4 => (intro w hSw; obtain ⟨s1, s2, s3, s4⟩ := hSw; go_simp)
    simp only [Act.put]
    refine wpAnyH_take (i := 5) (v := .pointer (some ⟨d, 0, none⟩)) rfl (by kernel_rfl) (by kernel_rfl) (by kernel_rfl) (fun _ _ _ h => h) (Or.inl ⟨by rfl, ?y5⟩) (by assumption) ?r5
    case y5 => (intro w hSw; obtain ⟨s1, s2, s3, s4⟩ := hSw; go_simp)
    simp only [Act.put]
    refine wpAnyH_take (i := 6) (v := .pointer (some ⟨d, 0, none⟩)) rfl (by kernel_rfl) (by kernel_rfl) (by kernel_rfl) (fun _ _ _ h => h) (Or.inl ⟨by rfl, ?y6⟩) (by assumption) ?r6
    case y6 => (intro w hSw; obtain ⟨s1, s2, s3, s4⟩ := hSw; go_simp)
    simp only [Act.put]
    refine wpAnyH_take (i := 7) (v := .pointer (some ⟨d, 5, none⟩)) rfl (by kernel_rfl) (by kernel_rfl) (by kernel_rfl) (fun _ _ _ h => h) (Or.inl ⟨by rfl, ?y7⟩) (by assumption) ?r7
    case y7 => (intro w hSw; obtain ⟨s1, s2, s3, s4⟩ := hSw; go_simp)
    simp only [Act.put]
    refine wpAnyH_take (i := 8) (v := .int .i64 D.calls) rfl (by kernel_rfl) (by kernel_rfl) (by kernel_rfl) (fun _ _ _ h => h) (Or.inl ⟨by rfl, ?y8⟩) (by assumption) ?r8
    case y8 => (intro w hSw; obtain ⟨s1, s2, s3, s4⟩ := hSw; go_simp)
    simp only [Act.put]
    refine wpAnyH_take (i := 9) (v := .pointer (some ⟨w.heap.size, 0, none⟩)) rfl (by kernel_rfl) (by kernel_rfl) (by kernel_rfl) (fun _ _ _ h => h) (Or.inl ⟨by rfl, ?y9⟩) (by assumption) ?r9
    case y9 => (intro w hSw; obtain ⟨s1, s2, s3, s4⟩ := hSw; go_simp)
    simp only [Act.put]
    refine wpAnyH_take (i := 10) (v := .int .i64 m) rfl (by kernel_rfl) (by kernel_rfl) (by kernel_rfl) (fun _ _ _ h => h) (Or.inl ⟨by rfl, ?y10⟩) (by assumption) ?r10
    case y10 => (intro w hSw; obtain ⟨s1, s2, s3, s4⟩ := hSw; go_simp)
    simp only [Act.put]
    refine wpAnyH_take (i := 11) (v := .int .i64 J) rfl (by kernel_rfl) (by kernel_rfl) (by kernel_rfl) (fun _ _ _ h => h) (Or.inl ⟨by rfl, ?y11⟩) (by assumption) ?r11
    case y11 => (intro w hSw; obtain ⟨s1, s2, s3, s4⟩ := hSw; go_simp)
    simp only [Act.put]
    refine wpAnyH_take (i := 12) (v := .agg #[.int .i64 m, .int .i64 1, .bool false]) rfl (by kernel_rfl) (by kernel_rfl) (by kernel_rfl) (fun _ _ _ h => h) (Or.inl ⟨by rfl, ?y12⟩) (by assumption) ?r12
    case y12 => (intro w hSw; obtain ⟨s1, s2, s3, s4⟩ := hSw; go_simp)
    simp only [Act.put]
    refine wpAnyH_take (i := 13) (v := .agg #[.int .i64 J, .int .i64 m, .int .i64 1, .bool false]) rfl (by kernel_rfl) (by kernel_rfl) (by kernel_rfl) (fun _ _ _ h => h) (Or.inl ⟨by rfl, ?y13⟩) (by assumption) ?r13
    case y13 => (intro w hSw; obtain ⟨s1, s2, s3, s4⟩ := hSw; go_simp)
    simp only [Act.put]
    refine wpAnyH_ready (rs := [4, 14]) (by kernel_rfl) (by simp) (AllReadyH.cons rfl (fun K hK => ?o4) (AllReadyH.cons rfl (fun K hK => ?o14) AllReadyH.nil))
    case o4 =>
      go_simp
      refine hK.out _ _ ⟨b0, b1, b2, b5⟩ (fun hHeld => ?_)
      clear hK K
      refine wpAnyH_ready (rs := [14]) (by kernel_rfl) (by simp) (AllReadyH.cons rfl (fun K hK => ?_) AllReadyH.nil)
      go_simp
      refine hK.out _ _ ⟨x0, x1, x2, x5⟩ (fun hHeld => ?_)
      clear hK K
      refine wpAnyH_ready (rs := [15]) (by kernel_rfl) (by simp) (AllReadyH.cons rfl (fun K hK => ?_) AllReadyH.nil)
      refine step_append_run rfl _ _ _ _ rfl _ _ _ rfl rfl hrun ?_
      refine hK.out _ _ ⟨y0, y1, y2, y5⟩ (fun hHeld => ?_)
      clear hK K
      simp only [Act.put]
      refine wpAnyH_take (i := 16) (v := .pointer (some ⟨d, 0, none⟩)) rfl (by kernel_rfl) (by kernel_rfl) (by kernel_rfl) (fun _ _ _ h => h) (Or.inl ⟨by rfl, ?y14⟩) (by assumption) ?r14
      case y14 => (intro w hSw; obtain ⟨s1, s2, s3, s4⟩ := hSw; go_simp)
      simp only [Act.put]
      refine wpAnyH_take (i := 17) (v := .pointer (some ⟨d, 6, none⟩)) rfl (by kernel_rfl) (by kernel_rfl) (by kernel_rfl) (fun _ _ _ h => h) (Or.inl ⟨by rfl, ?y15⟩) (by assumption) ?r15
      case y15 => (intro w hSw; obtain ⟨s1, s2, s3, s4⟩ := hSw; go_simp)
      simp only [Act.put]
      refine wpAnyH_ready (rs := [18]) (by kernel_rfl) (by simp) (AllReadyH.cons rfl (fun K hK => ?_) AllReadyH.nil)
      go_simp
      refine hK.out _ _ ⟨(World.cell?_setCell_other _ _ _ _ (by simp)).trans y0, (World.cell?_setCell_other _ _ _ _ (by simp)).trans y1, (World.cell?_setCell_other _ _ _ _ (by simp)).trans y2, (World.cell?_setCell_other _ _ _ _ (by simp)).trans y5⟩ (fun hHeld => ?_)
      clear hK K
      refine wpAnyH_done (by kernel_rfl) ?_ _
      go_wp2_with fail
      go_ret
      obtain ⟨av', fbs', g1, g2⟩ := HEND.out
      exact ⟨rfl, _, ⟨mb, av', fbs', g1, rfl⟩, g2⟩
    case o14 =>
      go_simp
      refine hK.out _ _ ⟨x0, x1, x2, x5⟩ (fun hHeld => ?_)
      clear hK K
      refine wpAnyH_ready (rs := [4]) (by kernel_rfl) (by simp) (AllReadyH.cons rfl (fun K hK => ?_) AllReadyH.nil)
      go_simp
      refine hK.out _ _ ⟨x0, x1, x2, x5⟩ (fun hHeld => ?_)
      clear hK K
      refine wpAnyH_ready (rs := [15]) (by kernel_rfl) (by simp) (AllReadyH.cons rfl (fun K hK => ?_) AllReadyH.nil)
      refine step_append_run rfl _ _ _ _ rfl _ _ _ rfl rfl hrun ?_
      refine hK.out _ _ ⟨y0, y1, y2, y5⟩ (fun hHeld => ?_)
      clear hK K
      simp only [Act.put]
      refine wpAnyH_take (i := 16) (v := .pointer (some ⟨d, 0, none⟩)) rfl (by kernel_rfl) (by kernel_rfl) (by kernel_rfl) (fun _ _ _ h => h) (Or.inl ⟨by rfl, ?yq14⟩) (by assumption) ?rq14
      case yq14 => (intro w hSw; obtain ⟨s1, s2, s3, s4⟩ := hSw; go_simp)
      simp only [Act.put]
      refine wpAnyH_take (i := 17) (v := .pointer (some ⟨d, 6, none⟩)) rfl (by kernel_rfl) (by kernel_rfl) (by kernel_rfl) (fun _ _ _ h => h) (Or.inl ⟨by rfl, ?yq15⟩) (by assumption) ?rq15
      case yq15 => (intro w hSw; obtain ⟨s1, s2, s3, s4⟩ := hSw; go_simp)
      simp only [Act.put]
      refine wpAnyH_ready (rs := [18]) (by kernel_rfl) (by simp) (AllReadyH.cons rfl (fun K hK => ?_) AllReadyH.nil)
      go_simp
      refine hK.out _ _ ⟨(World.cell?_setCell_other _ _ _ _ (by simp)).trans y0, (World.cell?_setCell_other _ _ _ _ (by simp)).trans y1, (World.cell?_setCell_other _ _ _ _ (by simp)).trans y2, (World.cell?_setCell_other _ _ _ _ (by simp)).trans y5⟩ (fun hHeld => ?_)
      clear hK K
      refine wpAnyH_done (by kernel_rfl) ?_ _
      go_wp2_with fail
      go_ret
      obtain ⟨av', fbs', g1, g2⟩ := HEND.out
      exact ⟨rfl, _, ⟨mb, av', fbs', g1, rfl⟩, g2⟩
  · refine wp_region_held_drew (S := fun w' => w'.cell? ⟨w.heap.size, 0, none⟩ = some (.int .i64 m) ∧ w'.cell? ⟨w.heap.size, 1, none⟩ = some (.int .i64 2) ∧ w'.cell? ⟨w.heap.size, 2, none⟩ = some (.bool false) ∧ w'.cell? ⟨d, 5, none⟩ = some (.int .i64 D.calls)) (by kernel_rfl) ⟨b0, b1, b2, b5⟩ (fun hHeld => ?_)
    refine wpAnyH_take (i := 0) (v := .pointer (some ⟨d, 0, none⟩)) rfl (by kernel_rfl) (by kernel_rfl) (by kernel_rfl) (fun _ _ _ h => h) (Or.inl ⟨by rfl, ?y16⟩) (by assumption) ?r16
    case y16 => (intro w hSw; obtain ⟨s1, s2, s3, s4⟩ := hSw; go_simp)
    simp only [Act.put]
    refine wpAnyH_take (i := 1) (v := .pointer (some ⟨d, 0, none⟩)) rfl (by kernel_rfl) (by kernel_rfl) (by kernel_rfl) (fun _ _ _ h => h) (Or.inl ⟨by rfl, ?y17⟩) (by assumption) ?r17
    case y17 => (intro w hSw; obtain ⟨s1, s2, s3, s4⟩ := hSw; go_simp)
    simp only [Act.put]
    refine wpAnyH_take (i := 2) (v := .pointer (some ⟨d, 0, none⟩)) rfl (by kernel_rfl) (by kernel_rfl) (by kernel_rfl) (fun _ _ _ h => h) (Or.inl ⟨by rfl, ?y18⟩) (by assumption) ?r18
    case y18 => (intro w hSw; obtain ⟨s1, s2, s3, s4⟩ := hSw; go_simp)
    simp only [Act.put]
    refine wpAnyH_take (i := 3) (v := .pointer (some ⟨d, 6, none⟩)) rfl (by kernel_rfl) (by kernel_rfl) (by kernel_rfl) (fun _ _ _ h => h) (Or.inl ⟨by rfl, ?y19⟩) (by assumption) ?r19
    case y19 => (intro w hSw; obtain ⟨s1, s2, s3, s4⟩ := hSw; go_simp)
    simp only [Act.put]
    refine wpAnyH_take (i := 5) (v := .pointer (some ⟨d, 0, none⟩)) rfl (by kernel_rfl) (by kernel_rfl) (by kernel_rfl) (fun _ _ _ h => h) (Or.inl ⟨by rfl, ?y20⟩) (by assumption) ?r20
    case y20 => (intro w hSw; obtain ⟨s1, s2, s3, s4⟩ := hSw; go_simp)
    simp only [Act.put]
    refine wpAnyH_take (i := 6) (v := .pointer (some ⟨d, 0, none⟩)) rfl (by kernel_rfl) (by kernel_rfl) (by kernel_rfl) (fun _ _ _ h => h) (Or.inl ⟨by rfl, ?y21⟩) (by assumption) ?r21
    case y21 => (intro w hSw; obtain ⟨s1, s2, s3, s4⟩ := hSw; go_simp)
    simp only [Act.put]
    refine wpAnyH_take (i := 7) (v := .pointer (some ⟨d, 5, none⟩)) rfl (by kernel_rfl) (by kernel_rfl) (by kernel_rfl) (fun _ _ _ h => h) (Or.inl ⟨by rfl, ?y22⟩) (by assumption) ?r22
    case y22 => (intro w hSw; obtain ⟨s1, s2, s3, s4⟩ := hSw; go_simp)
    simp only [Act.put]
    refine wpAnyH_take (i := 8) (v := .int .i64 D.calls) rfl (by kernel_rfl) (by kernel_rfl) (by kernel_rfl) (fun _ _ _ h => h) (Or.inl ⟨by rfl, ?y23⟩) (by assumption) ?r23
    case y23 => (intro w hSw; obtain ⟨s1, s2, s3, s4⟩ := hSw; go_simp)
    simp only [Act.put]
    refine wpAnyH_take (i := 9) (v := .pointer (some ⟨w.heap.size, 0, none⟩)) rfl (by kernel_rfl) (by kernel_rfl) (by kernel_rfl) (fun _ _ _ h => h) (Or.inl ⟨by rfl, ?y24⟩) (by assumption) ?r24
    case y24 => (intro w hSw; obtain ⟨s1, s2, s3, s4⟩ := hSw; go_simp)
    simp only [Act.put]
    refine wpAnyH_take (i := 10) (v := .int .i64 m) rfl (by kernel_rfl) (by kernel_rfl) (by kernel_rfl) (fun _ _ _ h => h) (Or.inl ⟨by rfl, ?y25⟩) (by assumption) ?r25
    case y25 => (intro w hSw; obtain ⟨s1, s2, s3, s4⟩ := hSw; go_simp)
    simp only [Act.put]
    refine wpAnyH_take (i := 11) (v := .int .i64 J) rfl (by kernel_rfl) (by kernel_rfl) (by kernel_rfl) (fun _ _ _ h => h) (Or.inl ⟨by rfl, ?y26⟩) (by assumption) ?r26
    case y26 => (intro w hSw; obtain ⟨s1, s2, s3, s4⟩ := hSw; go_simp)
    simp only [Act.put]
    refine wpAnyH_take (i := 12) (v := .agg #[.int .i64 m, .int .i64 2, .bool false]) rfl (by kernel_rfl) (by kernel_rfl) (by kernel_rfl) (fun _ _ _ h => h) (Or.inl ⟨by rfl, ?y27⟩) (by assumption) ?r27
    case y27 => (intro w hSw; obtain ⟨s1, s2, s3, s4⟩ := hSw; go_simp)
    simp only [Act.put]
    refine wpAnyH_take (i := 13) (v := .agg #[.int .i64 J, .int .i64 m, .int .i64 2, .bool false]) rfl (by kernel_rfl) (by kernel_rfl) (by kernel_rfl) (fun _ _ _ h => h) (Or.inl ⟨by rfl, ?y28⟩) (by assumption) ?r28
    case y28 => (intro w hSw; obtain ⟨s1, s2, s3, s4⟩ := hSw; go_simp)
    simp only [Act.put]
    refine wpAnyH_ready (rs := [4, 14]) (by kernel_rfl) (by simp) (AllReadyH.cons rfl (fun K hK => ?o4) (AllReadyH.cons rfl (fun K hK => ?o14) AllReadyH.nil))
    case o4 =>
      go_simp
      refine hK.out _ _ ⟨b0, b1, b2, b5⟩ (fun hHeld => ?_)
      clear hK K
      refine wpAnyH_ready (rs := [14]) (by kernel_rfl) (by simp) (AllReadyH.cons rfl (fun K hK => ?_) AllReadyH.nil)
      go_simp
      refine hK.out _ _ ⟨x0, x1, x2, x5⟩ (fun hHeld => ?_)
      clear hK K
      refine wpAnyH_ready (rs := [15]) (by kernel_rfl) (by simp) (AllReadyH.cons rfl (fun K hK => ?_) AllReadyH.nil)
      refine step_append_run rfl _ _ _ _ rfl _ _ _ rfl rfl hrun ?_
      refine hK.out _ _ ⟨y0, y1, y2, y5⟩ (fun hHeld => ?_)
      clear hK K
      simp only [Act.put]
      refine wpAnyH_take (i := 16) (v := .pointer (some ⟨d, 0, none⟩)) rfl (by kernel_rfl) (by kernel_rfl) (by kernel_rfl) (fun _ _ _ h => h) (Or.inl ⟨by rfl, ?y29⟩) (by assumption) ?r29
      case y29 => (intro w hSw; obtain ⟨s1, s2, s3, s4⟩ := hSw; go_simp)
      simp only [Act.put]
      refine wpAnyH_take (i := 17) (v := .pointer (some ⟨d, 6, none⟩)) rfl (by kernel_rfl) (by kernel_rfl) (by kernel_rfl) (fun _ _ _ h => h) (Or.inl ⟨by rfl, ?y30⟩) (by assumption) ?r30
      case y30 => (intro w hSw; obtain ⟨s1, s2, s3, s4⟩ := hSw; go_simp)
      simp only [Act.put]
      refine wpAnyH_ready (rs := [18]) (by kernel_rfl) (by simp) (AllReadyH.cons rfl (fun K hK => ?_) AllReadyH.nil)
      go_simp
      refine hK.out _ _ ⟨(World.cell?_setCell_other _ _ _ _ (by simp)).trans y0, (World.cell?_setCell_other _ _ _ _ (by simp)).trans y1, (World.cell?_setCell_other _ _ _ _ (by simp)).trans y2, (World.cell?_setCell_other _ _ _ _ (by simp)).trans y5⟩ (fun hHeld => ?_)
      clear hK K
      refine wpAnyH_done (by kernel_rfl) ?_ _
      go_wp2_with fail
      go_ret
      obtain ⟨av', fbs', g1, g2⟩ := HEND.out
      exact ⟨rfl, _, ⟨mb, av', fbs', g1, rfl⟩, g2⟩
    case o14 =>
      go_simp
      refine hK.out _ _ ⟨x0, x1, x2, x5⟩ (fun hHeld => ?_)
      clear hK K
      refine wpAnyH_ready (rs := [4]) (by kernel_rfl) (by simp) (AllReadyH.cons rfl (fun K hK => ?_) AllReadyH.nil)
      go_simp
      refine hK.out _ _ ⟨x0, x1, x2, x5⟩ (fun hHeld => ?_)
      clear hK K
      refine wpAnyH_ready (rs := [15]) (by kernel_rfl) (by simp) (AllReadyH.cons rfl (fun K hK => ?_) AllReadyH.nil)
      refine step_append_run rfl _ _ _ _ rfl _ _ _ rfl rfl hrun ?_
      refine hK.out _ _ ⟨y0, y1, y2, y5⟩ (fun hHeld => ?_)
      clear hK K
      simp only [Act.put]
      refine wpAnyH_take (i := 16) (v := .pointer (some ⟨d, 0, none⟩)) rfl (by kernel_rfl) (by kernel_rfl) (by kernel_rfl) (fun _ _ _ h => h) (Or.inl ⟨by rfl, ?yq29⟩) (by assumption) ?rq29
      case yq29 => (intro w hSw; obtain ⟨s1, s2, s3, s4⟩ := hSw; go_simp)
      simp only [Act.put]
      refine wpAnyH_take (i := 17) (v := .pointer (some ⟨d, 6, none⟩)) rfl (by kernel_rfl) (by kernel_rfl) (by kernel_rfl) (fun _ _ _ h => h) (Or.inl ⟨by rfl, ?yq30⟩) (by assumption) ?rq30
      case yq30 => (intro w hSw; obtain ⟨s1, s2, s3, s4⟩ := hSw; go_simp)
      simp only [Act.put]
      refine wpAnyH_ready (rs := [18]) (by kernel_rfl) (by simp) (AllReadyH.cons rfl (fun K hK => ?_) AllReadyH.nil)
      go_simp
      refine hK.out _ _ ⟨(World.cell?_setCell_other _ _ _ _ (by simp)).trans y0, (World.cell?_setCell_other _ _ _ _ (by simp)).trans y1, (World.cell?_setCell_other _ _ _ _ (by simp)).trans y2, (World.cell?_setCell_other _ _ _ _ (by simp)).trans y5⟩ (fun hHeld => ?_)
      clear hK K
      refine wpAnyH_done (by kernel_rfl) ?_ _
      go_wp2_with fail
      go_ret
      obtain ⟨av', fbs', g1, g2⟩ := HEND.out
      exact ⟨rfl, _, ⟨mb, av', fbs', g1, rfl⟩, g2⟩
  · refine wp_region_held_drew (S := fun w' => w'.cell? ⟨w.heap.size, 0, none⟩ = some (.int .i64 m) ∧ w'.cell? ⟨w.heap.size, 1, none⟩ = some (.int .i64 2) ∧ w'.cell? ⟨w.heap.size, 2, none⟩ = some (.bool true) ∧ w'.cell? ⟨d, 5, none⟩ = some (.int .i64 D.calls)) (by kernel_rfl) ⟨b0, b1, b2, b5⟩ (fun hHeld => ?_)
    refine wpAnyH_take (i := 0) (v := .pointer (some ⟨d, 0, none⟩)) rfl (by kernel_rfl) (by kernel_rfl) (by kernel_rfl) (fun _ _ _ h => h) (Or.inl ⟨by rfl, ?y31⟩) (by assumption) ?r31
    case y31 => (intro w hSw; obtain ⟨s1, s2, s3, s4⟩ := hSw; go_simp)
    simp only [Act.put]
    refine wpAnyH_take (i := 1) (v := .pointer (some ⟨d, 0, none⟩)) rfl (by kernel_rfl) (by kernel_rfl) (by kernel_rfl) (fun _ _ _ h => h) (Or.inl ⟨by rfl, ?y32⟩) (by assumption) ?r32
    case y32 => (intro w hSw; obtain ⟨s1, s2, s3, s4⟩ := hSw; go_simp)
    simp only [Act.put]
    refine wpAnyH_take (i := 2) (v := .pointer (some ⟨d, 0, none⟩)) rfl (by kernel_rfl) (by kernel_rfl) (by kernel_rfl) (fun _ _ _ h => h) (Or.inl ⟨by rfl, ?y33⟩) (by assumption) ?r33
    case y33 => (intro w hSw; obtain ⟨s1, s2, s3, s4⟩ := hSw; go_simp)
    simp only [Act.put]
    refine wpAnyH_take (i := 3) (v := .pointer (some ⟨d, 6, none⟩)) rfl (by kernel_rfl) (by kernel_rfl) (by kernel_rfl) (fun _ _ _ h => h) (Or.inl ⟨by rfl, ?y34⟩) (by assumption) ?r34
    case y34 => (intro w hSw; obtain ⟨s1, s2, s3, s4⟩ := hSw; go_simp)
    simp only [Act.put]
    refine wpAnyH_take (i := 5) (v := .pointer (some ⟨d, 0, none⟩)) rfl (by kernel_rfl) (by kernel_rfl) (by kernel_rfl) (fun _ _ _ h => h) (Or.inl ⟨by rfl, ?y35⟩) (by assumption) ?r35
    case y35 => (intro w hSw; obtain ⟨s1, s2, s3, s4⟩ := hSw; go_simp)
    simp only [Act.put]
    refine wpAnyH_take (i := 6) (v := .pointer (some ⟨d, 0, none⟩)) rfl (by kernel_rfl) (by kernel_rfl) (by kernel_rfl) (fun _ _ _ h => h) (Or.inl ⟨by rfl, ?y36⟩) (by assumption) ?r36
    case y36 => (intro w hSw; obtain ⟨s1, s2, s3, s4⟩ := hSw; go_simp)
    simp only [Act.put]
    refine wpAnyH_take (i := 7) (v := .pointer (some ⟨d, 5, none⟩)) rfl (by kernel_rfl) (by kernel_rfl) (by kernel_rfl) (fun _ _ _ h => h) (Or.inl ⟨by rfl, ?y37⟩) (by assumption) ?r37
    case y37 => (intro w hSw; obtain ⟨s1, s2, s3, s4⟩ := hSw; go_simp)
    simp only [Act.put]
    refine wpAnyH_take (i := 8) (v := .int .i64 D.calls) rfl (by kernel_rfl) (by kernel_rfl) (by kernel_rfl) (fun _ _ _ h => h) (Or.inl ⟨by rfl, ?y38⟩) (by assumption) ?r38
    case y38 => (intro w hSw; obtain ⟨s1, s2, s3, s4⟩ := hSw; go_simp)
    simp only [Act.put]
    refine wpAnyH_take (i := 9) (v := .pointer (some ⟨w.heap.size, 0, none⟩)) rfl (by kernel_rfl) (by kernel_rfl) (by kernel_rfl) (fun _ _ _ h => h) (Or.inl ⟨by rfl, ?y39⟩) (by assumption) ?r39
    case y39 => (intro w hSw; obtain ⟨s1, s2, s3, s4⟩ := hSw; go_simp)
    simp only [Act.put]
    refine wpAnyH_take (i := 10) (v := .int .i64 m) rfl (by kernel_rfl) (by kernel_rfl) (by kernel_rfl) (fun _ _ _ h => h) (Or.inl ⟨by rfl, ?y40⟩) (by assumption) ?r40
    case y40 => (intro w hSw; obtain ⟨s1, s2, s3, s4⟩ := hSw; go_simp)
    simp only [Act.put]
    refine wpAnyH_take (i := 11) (v := .int .i64 J) rfl (by kernel_rfl) (by kernel_rfl) (by kernel_rfl) (fun _ _ _ h => h) (Or.inl ⟨by rfl, ?y41⟩) (by assumption) ?r41
    case y41 => (intro w hSw; obtain ⟨s1, s2, s3, s4⟩ := hSw; go_simp)
    simp only [Act.put]
    refine wpAnyH_take (i := 12) (v := .agg #[.int .i64 m, .int .i64 2, .bool true]) rfl (by kernel_rfl) (by kernel_rfl) (by kernel_rfl) (fun _ _ _ h => h) (Or.inl ⟨by rfl, ?y42⟩) (by assumption) ?r42
    case y42 => (intro w hSw; obtain ⟨s1, s2, s3, s4⟩ := hSw; go_simp)
    simp only [Act.put]
    refine wpAnyH_take (i := 13) (v := .agg #[.int .i64 J, .int .i64 m, .int .i64 2, .bool true]) rfl (by kernel_rfl) (by kernel_rfl) (by kernel_rfl) (fun _ _ _ h => h) (Or.inl ⟨by rfl, ?y43⟩) (by assumption) ?r43
    case y43 => (intro w hSw; obtain ⟨s1, s2, s3, s4⟩ := hSw; go_simp)
    simp only [Act.put]
    refine wpAnyH_ready (rs := [4, 14]) (by kernel_rfl) (by simp) (AllReadyH.cons rfl (fun K hK => ?o4) (AllReadyH.cons rfl (fun K hK => ?o14) AllReadyH.nil))
    case o4 =>
      go_simp
      refine hK.out _ _ ⟨b0, b1, b2, b5⟩ (fun hHeld => ?_)
      clear hK K
      refine wpAnyH_ready (rs := [14]) (by kernel_rfl) (by simp) (AllReadyH.cons rfl (fun K hK => ?_) AllReadyH.nil)
      go_simp
      refine hK.out _ _ ⟨x0, x1, x2, x5⟩ (fun hHeld => ?_)
      clear hK K
      refine wpAnyH_ready (rs := [15]) (by kernel_rfl) (by simp) (AllReadyH.cons rfl (fun K hK => ?_) AllReadyH.nil)
      refine step_append_run rfl _ _ _ _ rfl _ _ _ rfl rfl hrun ?_
      refine hK.out _ _ ⟨y0, y1, y2, y5⟩ (fun hHeld => ?_)
      clear hK K
      simp only [Act.put]
      refine wpAnyH_take (i := 16) (v := .pointer (some ⟨d, 0, none⟩)) rfl (by kernel_rfl) (by kernel_rfl) (by kernel_rfl) (fun _ _ _ h => h) (Or.inl ⟨by rfl, ?y44⟩) (by assumption) ?r44
      case y44 => (intro w hSw; obtain ⟨s1, s2, s3, s4⟩ := hSw; go_simp)
      simp only [Act.put]
      refine wpAnyH_take (i := 17) (v := .pointer (some ⟨d, 6, none⟩)) rfl (by kernel_rfl) (by kernel_rfl) (by kernel_rfl) (fun _ _ _ h => h) (Or.inl ⟨by rfl, ?y45⟩) (by assumption) ?r45
      case y45 => (intro w hSw; obtain ⟨s1, s2, s3, s4⟩ := hSw; go_simp)
      simp only [Act.put]
      refine wpAnyH_ready (rs := [18]) (by kernel_rfl) (by simp) (AllReadyH.cons rfl (fun K hK => ?_) AllReadyH.nil)
      go_simp
      refine hK.out _ _ ⟨(World.cell?_setCell_other _ _ _ _ (by simp)).trans y0, (World.cell?_setCell_other _ _ _ _ (by simp)).trans y1, (World.cell?_setCell_other _ _ _ _ (by simp)).trans y2, (World.cell?_setCell_other _ _ _ _ (by simp)).trans y5⟩ (fun hHeld => ?_)
      clear hK K
      refine wpAnyH_done (by kernel_rfl) ?_ _
      go_wp2_with fail
      go_ret
      obtain ⟨av', fbs', g1, g2⟩ := HEND.out
      exact ⟨rfl, _, ⟨mb, av', fbs', g1, rfl⟩, g2⟩
    case o14 =>
      go_simp
      refine hK.out _ _ ⟨x0, x1, x2, x5⟩ (fun hHeld => ?_)
      clear hK K
      refine wpAnyH_ready (rs := [4]) (by kernel_rfl) (by simp) (AllReadyH.cons rfl (fun K hK => ?_) AllReadyH.nil)
      go_simp
      refine hK.out _ _ ⟨x0, x1, x2, x5⟩ (fun hHeld => ?_)
      clear hK K
      refine wpAnyH_ready (rs := [15]) (by kernel_rfl) (by simp) (AllReadyH.cons rfl (fun K hK => ?_) AllReadyH.nil)
      refine step_append_run rfl _ _ _ _ rfl _ _ _ rfl rfl hrun ?_
      refine hK.out _ _ ⟨y0, y1, y2, y5⟩ (fun hHeld => ?_)
      clear hK K
      simp only [Act.put]
      refine wpAnyH_take (i := 16) (v := .pointer (some ⟨d, 0, none⟩)) rfl (by kernel_rfl) (by kernel_rfl) (by kernel_rfl) (fun _ _ _ h => h) (Or.inl ⟨by rfl, ?yq44⟩) (by assumption) ?rq44
      case yq44 => (intro w hSw; obtain ⟨s1, s2, s3, s4⟩ := hSw; go_simp)
      simp only [Act.put]
      refine wpAnyH_take (i := 17) (v := .pointer (some ⟨d, 6, none⟩)) rfl (by kernel_rfl) (by kernel_rfl) (by kernel_rfl) (fun _ _ _ h => h) (Or.inl ⟨by rfl, ?yq45⟩) (by assumption) ?rq45
      case yq45 => (intro w hSw; obtain ⟨s1, s2, s3, s4⟩ := hSw; go_simp)
      simp only [Act.put]
      refine wpAnyH_ready (rs := [18]) (by kernel_rfl) (by simp) (AllReadyH.cons rfl (fun K hK => ?_) AllReadyH.nil)
      go_simp
      refine hK.out _ _ ⟨(World.cell?_setCell_other _ _ _ _ (by simp)).trans y0, (World.cell?_setCell_other _ _ _ _ (by simp)).trans y1, (World.cell?_setCell_other _ _ _ _ (by simp)).trans y2, (World.cell?_setCell_other _ _ _ _ (by simp)).trans y5⟩ (fun hHeld => ?_)
      clear hK K
      refine wpAnyH_done (by kernel_rfl) ?_ _
      go_wp2_with fail
      go_ret
      obtain ⟨av', fbs', g1, g2⟩ := HEND.out
      exact ⟨rfl, _, ⟨mb, av', fbs', g1, rfl⟩, g2⟩

theorem arm_m (w : World) (d : Nat) (D : Dk) (F : Nat → Prop) (hD : Disk w d D F) (hc : D.calls ≤ 1099511627776) (hal : D.arms.length ≤ 1099511627776) (a k : Int) (b : Bool) :
    Calls Try.prog 19 #[.pointer (some ⟨d, 0, none⟩), .agg #[.int .i64 a, .int .i64 k, .bool b]] w (Acted w d F (D.arm a k b)) := by
  cases ho : D.off
  · by_cases hbad : a < 1 ∨ 4294967296 < a ∨ (k ≠ 1 ∧ k ≠ 2) ∨ (b = true ∧ k = 1)
    · exact arm_bad_m w d D F hD a k b ho hbad
    · refine arm_ok_m w d D F hD hc hal a k b ho (by omega) (by omega) ?_
      have h3 : k = 1 ∨ k = 2 := by omega
      rcases h3 with h3 | h3
      · left
        refine ⟨h3, ?_⟩
        cases b with
        | false => rfl
        | true => exact absurd (.inr (.inr (.inr ⟨rfl, h3⟩))) hbad
      · exact .inr h3
  · exact arm_off_m w d D F hD a k b ho
end Go.Proofs.Ytnppneilbkmnfaa
