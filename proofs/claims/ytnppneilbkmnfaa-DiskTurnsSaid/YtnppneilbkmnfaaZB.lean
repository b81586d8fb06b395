/- The contract of the disk's numbered call. Condition: what it does (one of five closures) has a contract at the disk that was counted on. | Plain laws: what laying a file down, taking one away and the like do to the disk's sums (no program in sight). | Contracts: the disk's put, and the closures of Replace and Cut. Conditions: the disk stands; what is laid down has a row of its own and fits. | Contracts: the closures of the disk's Replace and Cut. Conditions: the disk stands, the boxes lie elsewhere; what is laid down fits. -/
import Derived.Test.YtnppneilbkmnfaaZA
namespace Go.Proofs.Ytnppneilbkmnfaa
open Go.RowKit

theorem DAt.power {w : World} {d mb : Nat} {av : Value} {fbs : List FB} {D : Dk} (h : DAt w d mb av fbs D) :
    DAt (w.setCell ⟨d, 3, none⟩ (.bool true)) d mb av fbs { D with off := true } ∧ Step (· ∈ dbl d mb av fbs) w (· ∈ dbl d mb av fbs) (w.setCell ⟨d, 3, none⟩ (.bool true)) := by
  have e : Ext (One d) w (w.setCell ⟨d, 3, none⟩ (.bool true)) := (Ext.refl (One d) w).setCell (p := ⟨d, 3, none⟩) (fun _ => (rfl : d = d)) _
  exact h.rearm (D' := { D with off := true }) (e.mono fun k _ hk => .inl hk) (h.cells.set 3 (.bool true)) (h.arms.ext e fun k hk ek => h.part.2.1 (by have ek : k = d := ek; rwa [ek] at hk)) (fun k hk => .inl hk) rfl (off_wf h.wf)
theorem tick_rest {D : Dk} {A B : List ArmM} {a : ArmM} (h : D.arms = A ++ a :: B) (hA : ∀ x ∈ A, x.call ≠ D.calls + 1) (ha : a.call = D.calls + 1) : D.tick.arms = A ++ rest (D.calls + 1) B := by
  show rest (D.calls + 1) D.arms = _
  rw [h]
  have e := rest_none hA
  unfold rest at *
  rw [List.filter_append, e, List.filter_cons]
  simp [ha]

set_option maxRecDepth 20000 in
set_option maxHeartbeats 4000000 in
theorem num_none (w : World) (d mb : Nat) (av : Value) (fbs : List FB) (D : Dk) (h : DAt w d mb av fbs D) (hc : D.calls ≤ 1099511627776) (f : Nat) (hf : IsDo f) (caps : Array Value) (hh : D.hit = none) (D' : Dk)
    (H : ∀ w1 av1, Ext (fun k => k = d ∨ inFoot av k) w w1 → (∀ k, inFoot av1 k → inFoot av k) → DAt w1 d mb av1 fbs D.tick → Calls Try.prog f caps w1 (Did w1 d mb av1 fbs D')) :
    Calls Try.prog 60 #[.pointer (some ⟨d, 0, none⟩), .func (.func f) #[] caps] w (Numbered w d mb av fbs D' 0) := by
  have c5 := h.cells.cell 5 rfl
  have f5 := h.cells.frozen 5
  have hd := h.cells.lt
  obtain ⟨ao, cap, hav, hcap, hcm⟩ := Own.shape h.arms
  subst hav
  have hp := h.part
  have hal : ∀ k, inFoot (.slice ao D.arms.length cap) k → k < w.heap.size := Own.lt h.arms
  obtain ⟨E1, A1, B1, T1, O1⟩ := boxed_facts h
  have hC := delete_none (boxed w d (D.calls + 1)).drew _ D.arms O1 w.heap.size (w.heap.size + 1) d (D.calls + 1) B1 (hit_none hh)
  have hrest : D.tick.arms = D.arms := rest_none (hit_none hh)
  have P0 := B1.1
  have P6 := A1.cell 6 rfl
  have hpd : (⟨d, 6, none⟩ : Addr) ≠ ⟨w.heap.size, 0, none⟩ := by simp
  have hpa : ¬ (w.heap.size = w.heap.size + 1 ∨ inFoot (.slice ao D.arms.length cap) w.heap.size) := fun e => e.elim (fun e => by omega) fun e => by have := hal _ e; omega
  have hda : ¬ (d = w.heap.size + 1 ∨ inFoot (.slice ao D.arms.length cap) d) := fun e => e.elim (fun e => by omega) hp.2.1
  have HTK : ∀ (w1 : World) (av' : Value), Ext (fun k => k = w.heap.size + 1 ∨ inFoot (.slice ao D.arms.length cap) k) (boxed w d (D.calls + 1)).drew w1 → OwnA w1 av' D.tick.arms → (∀ k, inFoot av' k → inFoot (.slice ao D.arms.length cap) k) → _ := fun w1 av' e1 O2 hk2 => ticked h e1 O2 hk2
  have hlt := h.lt
  unfold boxed pickV at *
  have A1d := A1.drew
  have T1d := T1.drew
  have HC := Lib.hid hC; have HAL := Lib.hid hal; have HA1 := Lib.hid A1d; have HT1 := Lib.hid T1d; have HT := Lib.hid HTK; have HO1 := Lib.hid O1; have HLT := Lib.hid hlt
  have HH := Lib.hid H
  clear hC hal A1 B1 T1 O1 E1 A1d T1d HTK hlt h hh  H
  have HR := Lib.hid hrest
  clear hrest
  go_enter Try.func60, Try.ntmps60
  go_wp2_with fail
  generalize (((w.setCell ⟨d, 5, none⟩ (.int .i64 ((D.calls : Int) + 1))).alloc (.cells #[.pointer (some ⟨d, 0, none⟩)] 22 (0, 0))).alloc (.cells #[.int .i64 0, .int .i64 0, .bool false] 29 (0, 0))) = W at *
  refine wp_region_held_drew (S := fun w' => w'.cell? ⟨w.heap.size, 0, none⟩ = some (.pointer (some ⟨d, 0, none⟩))) (by kernel_rfl) P0 (fun hHeld => ?_)
  refine wpAnyH_take (i := 0) (v := .pointer (some ⟨d, 0, none⟩)) rfl (by kernel_rfl) (by kernel_rfl) (by kernel_rfl) (fun _ _ _ h => h) (Or.inl ⟨by rfl, ?y1⟩) (by assumption) ?r1
  case y1 => (intro w hSw; go_simp)
  simp only [Act.put]
  refine wpAnyH_take (i := 1) (v := .pointer (some ⟨d, 0, none⟩)) rfl (by kernel_rfl) (by kernel_rfl) (by kernel_rfl) (fun _ _ _ h => h) (Or.inl ⟨by rfl, ?y2⟩) (by assumption) ?r2
  case y2 => (intro w hSw; go_simp)
  simp only [Act.put]
  refine wpAnyH_take (i := 2) (v := .pointer (some ⟨d, 0, none⟩)) rfl (by kernel_rfl) (by kernel_rfl) (by kernel_rfl) (fun _ _ _ h => h) (Or.inl ⟨by rfl, ?y3⟩) (by assumption) ?r3
  case y3 => (intro w hSw; go_simp)
  simp only [Act.put]
  refine wpAnyH_take (i := 3) (v := .pointer (some ⟨d, 6, none⟩)) rfl (by kernel_rfl) (by kernel_rfl) (by kernel_rfl) (fun _ _ _ h => h) (Or.inl ⟨by rfl, ?y4⟩) (by assumption) ?r4
  case y4 => (intro w hSw; go_simp)
  simp only [Act.put]
  refine wpAnyH_take (i := 5) (v := .func (.func 91) #[] #[.pointer (some ⟨w.heap.size, 0, none⟩), .pointer (some ⟨w.heap.size + 1, 0, none⟩)]) rfl (by kernel_rfl) (by kernel_rfl) (by kernel_rfl) (fun _ _ _ h => h) (Or.inl ⟨by rfl, ?y5⟩) (by assumption) ?r5
  case y5 => (intro w hSw; go_simp)
  simp only [Act.put]
  refine wpAnyH_ready (rs := [4]) (by kernel_rfl) (by simp) (AllReadyH.cons rfl (fun K hK => ?_) AllReadyH.nil)
  go_simp
  refine hK.out _ _ P0 (fun hHeld => ?_)
  clear hK K
  refine wpAnyH_ready (rs := [6]) (by kernel_rfl) (by simp) (AllReadyH.cons rfl (fun K hK => ?_) AllReadyH.nil)
  go_simp
  refine HC.out.mono ?_
  rintro e w1 ⟨rfl, e0⟩
  have e1 : Ext (fun k => k = w.heap.size + 1 ∨ inFoot (.slice ao D.arms.length cap) k) W.drew w1 := e0.mono fun _ _ h => h.elim
  have O2 : OwnA w1 (.slice ao D.arms.length cap) D.tick.arms := by
    rw [HR.out]
    exact OwnA.ext (w := W.drew) HO1.out e0 fun _ _ h => h
  have T2 := At.ext HT1.out e0 fun h => h
  have hk2 : ∀ k, inFoot (.slice ao D.arms.length cap) k → inFoot (.slice ao D.arms.length cap) k := fun _ h => h
  have A2 := At.ext HA1.out e1 hda
  have f6' := A2.frozen 6
  have c6' := A2.cell 6 rfl
  go_wp2_with fail
  refine hK.out _ _ (e1.cell P0 hpa) (fun hHeld => ?_)
  clear hK K
  refine wpAnyH_take (i := 7) (v := .pointer (some ⟨d, 0, none⟩)) rfl (by kernel_rfl) (by kernel_rfl) (by kernel_rfl) (fun _ _ _ h => h) (Or.inl ⟨by rfl, ?y6⟩) (by assumption) ?r6
  case y6 => (intro w hSw; go_simp)
  simp only [Act.put]
  refine wpAnyH_take (i := 8) (v := .pointer (some ⟨d, 6, none⟩)) rfl (by kernel_rfl) (by kernel_rfl) (by kernel_rfl) (fun _ _ _ h => h) (Or.inl ⟨by rfl, ?y7⟩) (by assumption) ?r7
  case y7 => (intro w hSw; go_simp)
  simp only [Act.put]
  refine wpAnyH_ready (rs := [9]) (by kernel_rfl) (by simp) (AllReadyH.cons rfl (fun K hK => ?_) AllReadyH.nil)
  go_simp
  refine hK.out _ _ ((World.cell?_setCell_other _ _ _ _ hpd).trans (e1.cell P0 hpa)) (fun hHeld => ?_)
  clear hK K
  refine wpAnyH_done (by kernel_rfl) ?_ _
  obtain ⟨h2, S2, E2⟩ := HT.out _ _ e1 O2 hk2
  have P2 := (World.cell?_setCell_other _ _ _ (.slice ao D.arms.length cap) hpd).trans (e1.cell P0 hpa)
  have T3 := T2.setOther ⟨d, 6, none⟩ (.slice ao D.arms.length cap) (show w.heap.size + 1 ≠ d by omega)
  have t1 := T3.cell 1 rfl
  have t2 := T3.cell 2 rfl
  have H3 := HH.out _ _ E2 hk2 h2
  have hpn : w.heap.size ∉ dbl d mb (.slice ao D.arms.length cap) fbs := by
    intro hm
    have hm2 : w.heap.size ∈ dbl d mb (.slice ao D.arms.length cap) fbs := by
      simp only [dbl, List.mem_cons, List.mem_append] at hm ⊢
      rcases hm with hm | hm | hm | hm
      · exact .inl hm
      · exact .inr (.inl hm)
      · exact .inr (.inr (.inl (mem_footL.2 (hk2 _ (mem_footL.1 hm)))))
      · exact .inr (.inr (.inr hm))
    have := HLT.out _ hm2
    omega
  clear P0 P6 A2 T2 f6' c6' e1 HC E2 T3 O2 hpa hda hpd HT HA1 HT1 HO1 HLT HAL HH HR e0
  generalize w1.setCell ⟨d, 6, none⟩ (.slice ao D.arms.length cap) = w2 at *
  rcases hf with rfl | rfl | rfl | rfl | rfl
  all_goals
    go_wp2_with fail
    refine H3.mono ?_
    rintro e w3 ⟨rfl, fbs', h3, S3⟩
    go_wp2_with fail
    go_ret
    exact ⟨rfl, _, fbs', h3, S2.trans S3⟩

set_option maxRecDepth 20000 in
set_option maxHeartbeats 4000000 in
theorem num_fault (w : World) (d mb : Nat) (av : Value) (fbs : List FB) (D : Dk) (h : DAt w d mb av fbs D) (hc : D.calls ≤ 1099511627776) (f : Nat) (caps : Array Value) (a : ArmM) (hh : D.hit = some a) (hkind : a.kind = 1) :
    Calls Try.prog 60 #[.pointer (some ⟨d, 0, none⟩), .func (.func f) #[] caps] w (Numbered w d mb av fbs D.tick 64) := by
  have c5 := h.cells.cell 5 rfl
  have f5 := h.cells.frozen 5
  have hd := h.cells.lt
  obtain ⟨ao, cap, hav, hcap, hcm⟩ := Own.shape h.arms
  subst hav
  have hp := h.part
  have hal : ∀ k, inFoot (.slice ao D.arms.length cap) k → k < w.heap.size := Own.lt h.arms
  obtain ⟨E1, A1, B1, T1, O1⟩ := boxed_facts h
  obtain ⟨A, B, hAB, hA, ha⟩ := hit_some hh
  have hC := delete_some (boxed w d (D.calls + 1)).drew (.slice ao D.arms.length cap) A B a (by rw [← hAB]; exact O1) w.heap.size (w.heap.size + 1) d (D.calls + 1) B1 T1 hA ha (by omega) (by omega) (by omega) (fun e => by have := hal _ e; omega) hp.2.1 (fun e => by have := hal _ e; omega)
  rw [← tick_rest hAB hA ha] at hC
  have P0 := B1.1
  have P6 := A1.cell 6 rfl
  have hpd : (⟨d, 6, none⟩ : Addr) ≠ ⟨w.heap.size, 0, none⟩ := by simp
  have hpa : ¬ (w.heap.size = w.heap.size + 1 ∨ inFoot (.slice ao D.arms.length cap) w.heap.size) := fun e => e.elim (fun e => by omega) fun e => by have := hal _ e; omega
  have hda : ¬ (d = w.heap.size + 1 ∨ inFoot (.slice ao D.arms.length cap) d) := fun e => e.elim (fun e => by omega) hp.2.1
  have HTK : ∀ (w1 : World) (av' : Value), Ext (fun k => k = w.heap.size + 1 ∨ inFoot (.slice ao D.arms.length cap) k) (boxed w d (D.calls + 1)).drew w1 → OwnA w1 av' D.tick.arms → (∀ k, inFoot av' k → inFoot (.slice ao D.arms.length cap) k) → _ := fun w1 av' e1 O2 hk2 => ticked h e1 O2 hk2
  have hlt := h.lt
  unfold boxed pickV at *
  have A1d := A1.drew
  have T1d := T1.drew
  have HC := Lib.hid hC; have HAL := Lib.hid hal; have HA1 := Lib.hid A1d; have HT1 := Lib.hid T1d; have HT := Lib.hid HTK; have HO1 := Lib.hid O1; have HLT := Lib.hid hlt
  clear hC hal A1 B1 T1 O1 E1 A1d T1d HTK hlt h hh hAB hA
  go_enter Try.func60, Try.ntmps60
  go_wp2_with fail
  generalize (((w.setCell ⟨d, 5, none⟩ (.int .i64 ((D.calls : Int) + 1))).alloc (.cells #[.pointer (some ⟨d, 0, none⟩)] 22 (0, 0))).alloc (.cells #[.int .i64 0, .int .i64 0, .bool false] 29 (0, 0))) = W at *
  refine wp_region_held_drew (S := fun w' => w'.cell? ⟨w.heap.size, 0, none⟩ = some (.pointer (some ⟨d, 0, none⟩))) (by kernel_rfl) P0 (fun hHeld => ?_)
  refine wpAnyH_take (i := 0) (v := .pointer (some ⟨d, 0, none⟩)) rfl (by kernel_rfl) (by kernel_rfl) (by kernel_rfl) (fun _ _ _ h => h) (Or.inl ⟨by rfl, ?y8⟩) (by assumption) ?r8
  case y8 => (intro w hSw; go_simp)
  simp only [Act.put]
  refine wpAnyH_take (i := 1) (v := .pointer (some ⟨d, 0, none⟩)) rfl (by kernel_rfl) (by kernel_rfl) (by kernel_rfl) (fun _ _ _ h => h) (Or.inl ⟨by rfl, ?y9⟩) (by assumption) ?r9
  case y9 => (intro w hSw; go_simp)
  simp only [Act.put]
  refine wpAnyH_take (i := 2) (v := .pointer (some ⟨d, 0, none⟩)) rfl (by kernel_rfl) (by kernel_rfl) (by kernel_rfl) (fun _ _ _ h => h) (Or.inl ⟨by rfl, ?y10⟩) (by assumption) ?r10
  case y10 => (intro w hSw; go_simp)
  simp only [Act.put]
  refine wpAnyH_take (i := 3) (v := .pointer (some ⟨d, 6, none⟩)) rfl (by kernel_rfl) (by kernel_rfl) (by kernel_rfl) (fun _ _ _ h => h) (Or.inl ⟨by rfl, ?y11⟩) (by assumption) ?r11
  case y11 => (intro w hSw; go_simp)
  simp only [Act.put]
  refine wpAnyH_take (i := 5) (v := .func (.func 91) #[] #[.pointer (some ⟨w.heap.size, 0, none⟩), .pointer (some ⟨w.heap.size + 1, 0, none⟩)]) rfl (by kernel_rfl) (by kernel_rfl) (by kernel_rfl) (fun _ _ _ h => h) (Or.inl ⟨by rfl, ?y12⟩) (by assumption) ?r12
  case y12 => (intro w hSw; go_simp)
  simp only [Act.put]
  refine wpAnyH_ready (rs := [4]) (by kernel_rfl) (by simp) (AllReadyH.cons rfl (fun K hK => ?_) AllReadyH.nil)
  go_simp
  refine hK.out _ _ P0 (fun hHeld => ?_)
  clear hK K
  refine wpAnyH_ready (rs := [6]) (by kernel_rfl) (by simp) (AllReadyH.cons rfl (fun K hK => ?_) AllReadyH.nil)
  go_simp
  refine HC.out.mono ?_
  rintro e w1 ⟨v', rfl, O2, hk2, T2, e1⟩
  obtain ⟨ao2, cap2, rfl, -, -⟩ := Own.shape O2
  have A2 := At.ext HA1.out e1 hda
  have f6' := A2.frozen 6
  have c6' := A2.cell 6 rfl
  go_wp2_with fail
  refine hK.out _ _ (e1.cell P0 hpa) (fun hHeld => ?_)
  clear hK K
  refine wpAnyH_take (i := 7) (v := .pointer (some ⟨d, 0, none⟩)) rfl (by kernel_rfl) (by kernel_rfl) (by kernel_rfl) (fun _ _ _ h => h) (Or.inl ⟨by rfl, ?y13⟩) (by assumption) ?r13
  case y13 => (intro w hSw; go_simp)
  simp only [Act.put]
  refine wpAnyH_take (i := 8) (v := .pointer (some ⟨d, 6, none⟩)) rfl (by kernel_rfl) (by kernel_rfl) (by kernel_rfl) (fun _ _ _ h => h) (Or.inl ⟨by rfl, ?y14⟩) (by assumption) ?r14
  case y14 => (intro w hSw; go_simp)
  simp only [Act.put]
  refine wpAnyH_ready (rs := [9]) (by kernel_rfl) (by simp) (AllReadyH.cons rfl (fun K hK => ?_) AllReadyH.nil)
  go_simp
  refine hK.out _ _ ((World.cell?_setCell_other _ _ _ _ hpd).trans (e1.cell P0 hpa)) (fun hHeld => ?_)
  clear hK K
  refine wpAnyH_done (by kernel_rfl) ?_ _
  obtain ⟨h2, S2, E2⟩ := HT.out _ _ e1 O2 hk2
  have P2 := (World.cell?_setCell_other _ _ _ (.slice ao2 D.tick.arms.length cap2) hpd).trans (e1.cell P0 hpa)
  have T3 := T2.setOther ⟨d, 6, none⟩ (.slice ao2 D.tick.arms.length cap2) (show w.heap.size + 1 ≠ d by omega)
  have t1 := T3.cell 1 rfl
  have t2 := T3.cell 2 rfl
  rw [hkind] at t1
  have hpn : w.heap.size ∉ dbl d mb (.slice ao2 D.tick.arms.length cap2) fbs := by
    intro hm
    have hm2 : w.heap.size ∈ dbl d mb (.slice ao D.arms.length cap) fbs := by
      simp only [dbl, List.mem_cons, List.mem_append] at hm ⊢
      rcases hm with hm | hm | hm | hm
      · exact .inl hm
      · exact .inr (.inl hm)
      · exact .inr (.inr (.inl (mem_footL.2 (hk2 _ (mem_footL.1 hm)))))
      · exact .inr (.inr (.inr hm))
    have := HLT.out _ hm2
    omega
  clear P0 P6 A2 T2 f6' c6' e1 HC E2 T3 O2 hpa hda hpd HT HA1 HT1 HO1 HLT HAL
  generalize w1.setCell ⟨d, 6, none⟩ (.slice ao2 D.tick.arms.length cap2) = w2 at *
  go_wp2_with fail
  go_ret
  exact ⟨rfl, _, fbs, h2, S2⟩

set_option maxRecDepth 20000 in
set_option maxHeartbeats 4000000 in
theorem num_cut (w : World) (d mb : Nat) (av : Value) (fbs : List FB) (D : Dk) (h : DAt w d mb av fbs D) (hc : D.calls ≤ 1099511627776) (f : Nat) (caps : Array Value) (a : ArmM) (hh : D.hit = some a) (hkind : a.kind = 2) (hdone : a.done = false) :
    Calls Try.prog 60 #[.pointer (some ⟨d, 0, none⟩), .func (.func f) #[] caps] w (Numbered w d mb av fbs { D.tick with off := true } 63) := by
  have c5 := h.cells.cell 5 rfl
  have f5 := h.cells.frozen 5
  have hd := h.cells.lt
  obtain ⟨ao, cap, hav, hcap, hcm⟩ := Own.shape h.arms
  subst hav
  have hp := h.part
  have hal : ∀ k, inFoot (.slice ao D.arms.length cap) k → k < w.heap.size := Own.lt h.arms
  obtain ⟨E1, A1, B1, T1, O1⟩ := boxed_facts h
  obtain ⟨A, B, hAB, hA, ha⟩ := hit_some hh
  have hC := delete_some (boxed w d (D.calls + 1)).drew (.slice ao D.arms.length cap) A B a (by rw [← hAB]; exact O1) w.heap.size (w.heap.size + 1) d (D.calls + 1) B1 T1 hA ha (by omega) (by omega) (by omega) (fun e => by have := hal _ e; omega) hp.2.1 (fun e => by have := hal _ e; omega)
  rw [← tick_rest hAB hA ha] at hC
  have P0 := B1.1
  have P6 := A1.cell 6 rfl
  have hpd : (⟨d, 6, none⟩ : Addr) ≠ ⟨w.heap.size, 0, none⟩ := by simp
  have hpa : ¬ (w.heap.size = w.heap.size + 1 ∨ inFoot (.slice ao D.arms.length cap) w.heap.size) := fun e => e.elim (fun e => by omega) fun e => by have := hal _ e; omega
  have hda : ¬ (d = w.heap.size + 1 ∨ inFoot (.slice ao D.arms.length cap) d) := fun e => e.elim (fun e => by omega) hp.2.1
  have HTK : ∀ (w1 : World) (av' : Value), Ext (fun k => k = w.heap.size + 1 ∨ inFoot (.slice ao D.arms.length cap) k) (boxed w d (D.calls + 1)).drew w1 → OwnA w1 av' D.tick.arms → (∀ k, inFoot av' k → inFoot (.slice ao D.arms.length cap) k) → _ := fun w1 av' e1 O2 hk2 => ticked h e1 O2 hk2
  have hlt := h.lt
  unfold boxed pickV at *
  have A1d := A1.drew
  have T1d := T1.drew
  have HC := Lib.hid hC; have HAL := Lib.hid hal; have HA1 := Lib.hid A1d; have HT1 := Lib.hid T1d; have HT := Lib.hid HTK; have HO1 := Lib.hid O1; have HLT := Lib.hid hlt
  clear hC hal A1 B1 T1 O1 E1 A1d T1d HTK hlt h hh hAB hA
  go_enter Try.func60, Try.ntmps60
  go_wp2_with fail
  generalize (((w.setCell ⟨d, 5, none⟩ (.int .i64 ((D.calls : Int) + 1))).alloc (.cells #[.pointer (some ⟨d, 0, none⟩)] 22 (0, 0))).alloc (.cells #[.int .i64 0, .int .i64 0, .bool false] 29 (0, 0))) = W at *
  refine wp_region_held_drew (S := fun w' => w'.cell? ⟨w.heap.size, 0, none⟩ = some (.pointer (some ⟨d, 0, none⟩))) (by kernel_rfl) P0 (fun hHeld => ?_)
  refine wpAnyH_take (i := 0) (v := .pointer (some ⟨d, 0, none⟩)) rfl (by kernel_rfl) (by kernel_rfl) (by kernel_rfl) (fun _ _ _ h => h) (Or.inl ⟨by rfl, ?y15⟩) (by assumption) ?r15
  case y15 => (intro w hSw; go_simp)
  simp only [Act.put]
  refine wpAnyH_take (i := 1) (v := .pointer (some ⟨d, 0, none⟩)) rfl (by kernel_rfl) (by kernel_rfl) (by kernel_rfl) (fun _ _ _ h => h) (Or.inl ⟨by rfl, ?y16⟩) (by assumption) ?r16
  case y16 => (intro w hSw; go_simp)
  simp only [Act.put]
  refine wpAnyH_take (i := 2) (v := .pointer (some ⟨d, 0, none⟩)) rfl (by kernel_rfl) (by kernel_rfl) (by kernel_rfl) (fun _ _ _ h => h) (Or.inl ⟨by rfl, ?y17⟩) (by assumption) ?r17
  case y17 => (intro w hSw; go_simp)
  simp only [Act.put]
  refine wpAnyH_take (i := 3) (v := .pointer (some ⟨d, 6, none⟩)) rfl (by kernel_rfl) (by kernel_rfl) (by kernel_rfl) (fun _ _ _ h => h) (Or.inl ⟨by rfl, ?y18⟩) (by assumption) ?r18
  case y18 => (intro w hSw; go_simp)
  simp only [Act.put]
  refine wpAnyH_take (i := 5) (v := .func (.func 91) #[] #[.pointer (some ⟨w.heap.size, 0, none⟩), .pointer (some ⟨w.heap.size + 1, 0, none⟩)]) rfl (by kernel_rfl) (by kernel_rfl) (by kernel_rfl) (fun _ _ _ h => h) (Or.inl ⟨by rfl, ?y19⟩) (by assumption) ?r19
  case y19 => (intro w hSw; go_simp)
  simp only [Act.put]
  refine wpAnyH_ready (rs := [4]) (by kernel_rfl) (by simp) (AllReadyH.cons rfl (fun K hK => ?_) AllReadyH.nil)
  go_simp
  refine hK.out _ _ P0 (fun hHeld => ?_)
  clear hK K
  refine wpAnyH_ready (rs := [6]) (by kernel_rfl) (by simp) (AllReadyH.cons rfl (fun K hK => ?_) AllReadyH.nil)
  go_simp
  refine HC.out.mono ?_
  rintro e w1 ⟨v', rfl, O2, hk2, T2, e1⟩
  obtain ⟨ao2, cap2, rfl, -, -⟩ := Own.shape O2
  have A2 := At.ext HA1.out e1 hda
  have f6' := A2.frozen 6
  have c6' := A2.cell 6 rfl
  go_wp2_with fail
  refine hK.out _ _ (e1.cell P0 hpa) (fun hHeld => ?_)
  clear hK K
  refine wpAnyH_take (i := 7) (v := .pointer (some ⟨d, 0, none⟩)) rfl (by kernel_rfl) (by kernel_rfl) (by kernel_rfl) (fun _ _ _ h => h) (Or.inl ⟨by rfl, ?y20⟩) (by assumption) ?r20
  case y20 => (intro w hSw; go_simp)
  simp only [Act.put]
  refine wpAnyH_take (i := 8) (v := .pointer (some ⟨d, 6, none⟩)) rfl (by kernel_rfl) (by kernel_rfl) (by kernel_rfl) (fun _ _ _ h => h) (Or.inl ⟨by rfl, ?y21⟩) (by assumption) ?r21
  case y21 => (intro w hSw; go_simp)
  simp only [Act.put]
  refine wpAnyH_ready (rs := [9]) (by kernel_rfl) (by simp) (AllReadyH.cons rfl (fun K hK => ?_) AllReadyH.nil)
  go_simp
  refine hK.out _ _ ((World.cell?_setCell_other _ _ _ _ hpd).trans (e1.cell P0 hpa)) (fun hHeld => ?_)
  clear hK K
  refine wpAnyH_done (by kernel_rfl) ?_ _
  obtain ⟨h2, S2, E2⟩ := HT.out _ _ e1 O2 hk2
  have P2 := (World.cell?_setCell_other _ _ _ (.slice ao2 D.tick.arms.length cap2) hpd).trans (e1.cell P0 hpa)
  have T3 := T2.setOther ⟨d, 6, none⟩ (.slice ao2 D.tick.arms.length cap2) (show w.heap.size + 1 ≠ d by omega)
  have t1 := T3.cell 1 rfl
  have t2 := T3.cell 2 rfl
  rw [hkind] at t1
  rw [hdone] at t2
  have hpn : w.heap.size ∉ dbl d mb (.slice ao2 D.tick.arms.length cap2) fbs := by
    intro hm
    have hm2 : w.heap.size ∈ dbl d mb (.slice ao D.arms.length cap) fbs := by
      simp only [dbl, List.mem_cons, List.mem_append] at hm ⊢
      rcases hm with hm | hm | hm | hm
      · exact .inl hm
      · exact .inr (.inl hm)
      · exact .inr (.inr (.inl (mem_footL.2 (hk2 _ (mem_footL.1 hm)))))
      · exact .inr (.inr (.inr hm))
    have := HLT.out _ hm2
    omega
  clear P0 P6 A2 T2 f6' c6' e1 HC E2 T3 O2 hpa hda hpd HT HA1 HT1 HO1 HLT HAL
  generalize w1.setCell ⟨d, 6, none⟩ (.slice ao2 D.tick.arms.length cap2) = w2 at *
  have f3 := h2.cells.frozen 3
  have c3 := h2.cells.cell 3 rfl
  go_wp2_with fail
  go_ret
  have h4 := h2.power
  exact ⟨rfl, _, fbs, h4.1, S2.trans h4.2⟩

set_option maxRecDepth 20000 in
set_option maxHeartbeats 4000000 in
theorem num_done (w : World) (d mb : Nat) (av : Value) (fbs : List FB) (D : Dk) (h : DAt w d mb av fbs D) (hc : D.calls ≤ 1099511627776) (f : Nat) (hf : IsDo f) (caps : Array Value) (a : ArmM) (hh : D.hit = some a) (hkind : a.kind = 2) (hdone : a.done = true) (D' : Dk)
    (H : ∀ w1 av1, Ext (fun k => k = d ∨ inFoot av k) w w1 → (∀ k, inFoot av1 k → inFoot av k) → DAt w1 d mb av1 fbs D.tick → Calls Try.prog f caps w1 (Did w1 d mb av1 fbs D')) :
    Calls Try.prog 60 #[.pointer (some ⟨d, 0, none⟩), .func (.func f) #[] caps] w (Numbered w d mb av fbs { D' with off := true } 63) := by
  have c5 := h.cells.cell 5 rfl
  have f5 := h.cells.frozen 5
  have hd := h.cells.lt
  obtain ⟨ao, cap, hav, hcap, hcm⟩ := Own.shape h.arms
  subst hav
  have hp := h.part
  have hal : ∀ k, inFoot (.slice ao D.arms.length cap) k → k < w.heap.size := Own.lt h.arms
  obtain ⟨E1, A1, B1, T1, O1⟩ := boxed_facts h
  obtain ⟨A, B, hAB, hA, ha⟩ := hit_some hh
  have hC := delete_some (boxed w d (D.calls + 1)).drew (.slice ao D.arms.length cap) A B a (by rw [← hAB]; exact O1) w.heap.size (w.heap.size + 1) d (D.calls + 1) B1 T1 hA ha (by omega) (by omega) (by omega) (fun e => by have := hal _ e; omega) hp.2.1 (fun e => by have := hal _ e; omega)
  rw [← tick_rest hAB hA ha] at hC
  have P0 := B1.1
  have P6 := A1.cell 6 rfl
  have hpd : (⟨d, 6, none⟩ : Addr) ≠ ⟨w.heap.size, 0, none⟩ := by simp
  have hpa : ¬ (w.heap.size = w.heap.size + 1 ∨ inFoot (.slice ao D.arms.length cap) w.heap.size) := fun e => e.elim (fun e => by omega) fun e => by have := hal _ e; omega
  have hda : ¬ (d = w.heap.size + 1 ∨ inFoot (.slice ao D.arms.length cap) d) := fun e => e.elim (fun e => by omega) hp.2.1
  have HTK : ∀ (w1 : World) (av' : Value), Ext (fun k => k = w.heap.size + 1 ∨ inFoot (.slice ao D.arms.length cap) k) (boxed w d (D.calls + 1)).drew w1 → OwnA w1 av' D.tick.arms → (∀ k, inFoot av' k → inFoot (.slice ao D.arms.length cap) k) → _ := fun w1 av' e1 O2 hk2 => ticked h e1 O2 hk2
  have hlt := h.lt
  unfold boxed pickV at *
  have A1d := A1.drew
  have T1d := T1.drew
  have HC := Lib.hid hC; have HAL := Lib.hid hal; have HA1 := Lib.hid A1d; have HT1 := Lib.hid T1d; have HT := Lib.hid HTK; have HO1 := Lib.hid O1; have HLT := Lib.hid hlt
  have HH := Lib.hid H
  clear hC hal A1 B1 T1 O1 E1 A1d T1d HTK hlt h hh hAB hA H
  go_enter Try.func60, Try.ntmps60
  go_wp2_with fail
  generalize (((w.setCell ⟨d, 5, none⟩ (.int .i64 ((D.calls : Int) + 1))).alloc (.cells #[.pointer (some ⟨d, 0, none⟩)] 22 (0, 0))).alloc (.cells #[.int .i64 0, .int .i64 0, .bool false] 29 (0, 0))) = W at *
  refine wp_region_held_drew (S := fun w' => w'.cell? ⟨w.heap.size, 0, none⟩ = some (.pointer (some ⟨d, 0, none⟩))) (by kernel_rfl) P0 (fun hHeld => ?_)
  refine wpAnyH_take (i := 0) (v := .pointer (some ⟨d, 0, none⟩)) rfl (by kernel_rfl) (by kernel_rfl) (by kernel_rfl) (fun _ _ _ h => h) (Or.inl ⟨by rfl, ?y22⟩) (by assumption) ?r22
  case y22 => (intro w hSw; go_simp)
  simp only [Act.put]
  refine wpAnyH_take (i := 1) (v := .pointer (some ⟨d, 0, none⟩)) rfl (by kernel_rfl) (by kernel_rfl) (by kernel_rfl) (fun _ _ _ h => h) (Or.inl ⟨by rfl, ?y23⟩) (by assumption) ?r23
  case y23 => (intro w hSw; go_simp)
  simp only [Act.put]
  refine wpAnyH_take (i := 2) (v := .pointer (some ⟨d, 0, none⟩)) rfl (by kernel_rfl) (by kernel_rfl) (by kernel_rfl) (fun _ _ _ h => h) (Or.inl ⟨by rfl, ?y24⟩) (by assumption) ?r24
  case y24 => (intro w hSw; go_simp)
  simp only [Act.put]
  refine wpAnyH_take (i := 3) (v := .pointer (some ⟨d, 6, none⟩)) rfl (by kernel_rfl) (by kernel_rfl) (by kernel_rfl) (fun _ _ _ h => h) (Or.inl ⟨by rfl, ?y25⟩) (by assumption) ?r25
  case y25 => (intro w hSw; go_simp)
  simp only [Act.put]
  refine wpAnyH_take (i := 5) (v := .func (.func 91) #[] #[.pointer (some ⟨w.heap.size, 0, none⟩), .pointer (some ⟨w.heap.size + 1, 0, none⟩)]) rfl (by kernel_rfl) (by kernel_rfl) (by kernel_rfl) (fun _ _ _ h => h) (Or.inl ⟨by rfl, ?y26⟩) (by assumption) ?r26
  case y26 => (intro w hSw; go_simp)
  simp only [Act.put]
  refine wpAnyH_ready (rs := [4]) (by kernel_rfl) (by simp) (AllReadyH.cons rfl (fun K hK => ?_) AllReadyH.nil)
  go_simp
  refine hK.out _ _ P0 (fun hHeld => ?_)
  clear hK K
  refine wpAnyH_ready (rs := [6]) (by kernel_rfl) (by simp) (AllReadyH.cons rfl (fun K hK => ?_) AllReadyH.nil)
  go_simp
  refine HC.out.mono ?_
  rintro e w1 ⟨v', rfl, O2, hk2, T2, e1⟩
  obtain ⟨ao2, cap2, rfl, -, -⟩ := Own.shape O2
  have A2 := At.ext HA1.out e1 hda
  have f6' := A2.frozen 6
  have c6' := A2.cell 6 rfl
  go_wp2_with fail
  refine hK.out _ _ (e1.cell P0 hpa) (fun hHeld => ?_)
  clear hK K
  refine wpAnyH_take (i := 7) (v := .pointer (some ⟨d, 0, none⟩)) rfl (by kernel_rfl) (by kernel_rfl) (by kernel_rfl) (fun _ _ _ h => h) (Or.inl ⟨by rfl, ?y27⟩) (by assumption) ?r27
  case y27 => (intro w hSw; go_simp)
  simp only [Act.put]
  refine wpAnyH_take (i := 8) (v := .pointer (some ⟨d, 6, none⟩)) rfl (by kernel_rfl) (by kernel_rfl) (by kernel_rfl) (fun _ _ _ h => h) (Or.inl ⟨by rfl, ?y28⟩) (by assumption) ?r28
  case y28 => (intro w hSw; go_simp)
  simp only [Act.put]
  refine wpAnyH_ready (rs := [9]) (by kernel_rfl) (by simp) (AllReadyH.cons rfl (fun K hK => ?_) AllReadyH.nil)
  go_simp
  refine hK.out _ _ ((World.cell?_setCell_other _ _ _ _ hpd).trans (e1.cell P0 hpa)) (fun hHeld => ?_)
  clear hK K
  refine wpAnyH_done (by kernel_rfl) ?_ _
  obtain ⟨h2, S2, E2⟩ := HT.out _ _ e1 O2 hk2
  have P2 := (World.cell?_setCell_other _ _ _ (.slice ao2 D.tick.arms.length cap2) hpd).trans (e1.cell P0 hpa)
  have T3 := T2.setOther ⟨d, 6, none⟩ (.slice ao2 D.tick.arms.length cap2) (show w.heap.size + 1 ≠ d by omega)
  have t1 := T3.cell 1 rfl
  have t2 := T3.cell 2 rfl
  rw [hkind] at t1
  rw [hdone] at t2
  have H3 := HH.out _ _ E2 hk2 h2
  have hpn : w.heap.size ∉ dbl d mb (.slice ao2 D.tick.arms.length cap2) fbs := by
    intro hm
    have hm2 : w.heap.size ∈ dbl d mb (.slice ao D.arms.length cap) fbs := by
      simp only [dbl, List.mem_cons, List.mem_append] at hm ⊢
      rcases hm with hm | hm | hm | hm
      · exact .inl hm
      · exact .inr (.inl hm)
      · exact .inr (.inr (.inl (mem_footL.2 (hk2 _ (mem_footL.1 hm)))))
      · exact .inr (.inr (.inr hm))
    have := HLT.out _ hm2
    omega
  clear P0 P6 A2 T2 f6' c6' e1 HC E2 T3 O2 hpa hda hpd HT HA1 HT1 HO1 HLT HAL HH
  generalize w1.setCell ⟨d, 6, none⟩ (.slice ao2 D.tick.arms.length cap2) = w2 at *
  rcases hf with rfl | rfl | rfl | rfl | rfl
  all_goals
    go_wp2_with fail
    refine H3.mono ?_
    rintro e w3 ⟨rfl, fbs', h3, S3⟩
    have P3 := S3.1.cell P2 hpn
    have f3 := h3.cells.frozen 3
    have c3 := h3.cells.cell 3 rfl
    go_wp2_with fail
    go_ret
    have h4 := h3.power
    exact ⟨rfl, _, fbs', h4.1, (S2.trans S3).trans h4.2⟩

set_option maxRecDepth 20000 in
theorem number_any (w : World) (d mb : Nat) (av : Value) (fbs : List FB) (D : Dk) (h : DAt w d mb av fbs D) (hc : D.calls ≤ 1099511627776) (f : Nat) (hf : IsDo f) (caps : Array Value) (act : Dk → Dk)
    (H : ∀ w1 av1, Ext (fun k => k = d ∨ inFoot av k) w w1 → (∀ k, inFoot av1 k → inFoot av k) → DAt w1 d mb av1 fbs D.tick → Calls Try.prog f caps w1 (Did w1 d mb av1 fbs (act D.tick))) :
    Calls Try.prog 60 #[.pointer (some ⟨d, 0, none⟩), .func (.func f) #[] caps] w (Numbered w d mb av fbs (D.num act).1 (D.num act).2) := by
  cases hh : D.hit with
  | none =>
    have e : D.num act = (act D.tick, 0) := by unfold Dk.num; rw [hh]
    rw [e]
    exact num_none w d mb av fbs D h hc f hf caps hh _ H
  | some a =>
    obtain ⟨A, B, hAB, -, -⟩ := hit_some hh
    rcases (h.wf.kinds a (by rw [hAB]; simp)).1 with hk | hk
    · have e : D.num act = (D.tick, 64) := by unfold Dk.num; rw [hh]; simp only []; rw [if_pos hk]
      rw [e]
      exact num_fault w d mb av fbs D h hc f caps a hh hk
    · cases hd : a.done
      · have e : D.num act = ({ D.tick with off := true }, 63) := by unfold Dk.num; rw [hh]; simp only []; rw [if_neg (by omega), hd]; rfl
        rw [e]
        exact num_cut w d mb av fbs D h hc f caps a hh hk hd
      · have e : D.num act = ({ act D.tick with off := true }, 63) := by unfold Dk.num; rw [hh]; simp only []; rw [if_neg (by omega), hd]; rfl
        rw [e]
        exact num_done w d mb av fbs D h hc f hf caps a hh hk hd _ H
end Go.Proofs.Ytnppneilbkmnfaa
namespace Go.Proofs.Ytnppneilbkmnfaa
open Go.RowKit

theorem sumF_append (A B : List FileM) : sumF (A ++ B) = sumF A + sumF B := by simp [sumF]
theorem sumF_cons (f : FileM) (A : List FileM) : sumF (f :: A) = f.b.length + sumF A := by simp [sumF]
namespace Dk
variable {D : Dk}
theorem size_some {s : Nm} {f : FileM} (h : D.find s = some f) : D.size s = f.b.length := by unfold size; rw [h]
theorem size_none {s : Nm} (h : D.find s = none) : D.size s = 0 := by unfold size; rw [h]
theorem used_put (h : D.Wf) (f : FileM) : (D.put f).used + D.size f.nm = D.used + f.b.length ∧ (D.put f).fs.length = D.fs.length + (if (D.find f.nm).isSome then 0 else 1) := by
  have hr := h.rises
  rcases putK_part FileM.nm hr f with ⟨A, a, B, hf, e1, e2, _, _, _⟩ | ⟨A, B, hf, e1, e2, _, _⟩
  · have hs : D.size f.nm = a.b.length := size_some hf
    have hfd : D.find f.nm = some a := hf
    unfold used put
    rw [hs, hfd]
    simp only [e2]
    rw [e1]
    simp only [sumF_append, sumF_cons, List.length_append, List.length_cons]
    exact ⟨by omega, by simp⟩
  · have hs : D.size f.nm = 0 := size_none hf
    have hfd : D.find f.nm = none := hf
    unfold used put
    rw [hs, hfd]
    simp only [e2]
    rw [e1]
    simp only [sumF_append, sumF_cons, List.length_append, List.length_cons]
    exact ⟨by omega, by simp; omega⟩
theorem put_wf (h : D.Wf) (f : FileM) (hs : f.sy ≤ f.b.length) (hn : nmOk f.nm = true) (hu : D.used + f.b.length ≤ D.lim + D.size f.nm) (hc : (D.find f.nm).isSome = true ∨ D.fs.length < 65536) : (D.put f).Wf where
  rises := rises_put _ h.rises f
  lim0 := h.lim0
  lim1 := h.lim1
  used := by
    have := (used_put h f).1
    show (D.put f).used ≤ D.lim
    omega
  synced := by
    intro g hg
    rcases mem_put _ h.rises f g hg with rfl | hg
    · exact hs
    · exact h.synced g hg.1
  names := by
    intro g hg
    rcases mem_put _ h.rises f g hg with rfl | hg
    · exact hn
    · exact h.names g hg.1
  count := by
    have h1 := (used_put h f).2
    have h2 := h.count
    rcases hc with hc | hc
    · rw [hc] at h1; simp at h1; omega
    · split at h1 <;> omega
  kinds := h.kinds
  outOff := h.outOff
theorem used_del (h : D.Wf) (s : Nm) : (D.del s).used + D.size s = D.used := by
  cases hf : D.find s with
  | none =>
    rw [size_none hf]
    unfold used del
    simp only [delK_none _ _ _ ((findK_none _ _ _).1 hf)]
    rfl
  | some f =>
    rw [size_some hf]
    obtain ⟨A, B, e1, _, _, _, e2⟩ := rises_at FileM.nm h.rises hf
    unfold used del
    simp only [e2]
    rw [e1]
    simp only [sumF_append, sumF_cons]
    omega
theorem del_wf (h : D.Wf) (s : Nm) : (D.del s).Wf where
  rises := rises_del _ h.rises s
  lim0 := h.lim0
  lim1 := h.lim1
  used := by
    have := used_del h s
    have := h.used
    show (D.del s).used ≤ D.lim
    unfold used at *
    omega
  synced := fun g hg => h.synced g (List.mem_filter.1 hg).1
  names := fun g hg => h.names g (List.mem_filter.1 hg).1
  count := Nat.le_trans (List.length_filter_le _ _) h.count
  kinds := h.kinds
  outOff := h.outOff
theorem room_spec {s : Nm} {n : Nat} : D.room s n = true ↔ D.used + n ≤ D.lim + D.size s ∧ ((D.find s).isSome = true ∨ D.fs.length < 65536) := by
  unfold room
  simp
end Dk

/-- a file's place among the files -/
theorem DAt.at {w : World} {d mb : Nat} {av : Value} {fbs : List FB} {D : Dk} (h : DAt w d mb av fbs D) {s : Nm} {x : FB} (hf : findK FB.nm s fbs = some x) :
    ∃ A B, fbs = A ++ [x] ++ B ∧ x.f.nm = s ∧ D.find s = some x.f ∧ FileOk w x ∧ delK FB.nm s fbs = A ++ B ∧ ∀ f : FileM, f.nm = s → (D.put f).fs = A.map FB.f ++ [f] ++ B.map FB.f := by
  obtain ⟨A, B, e1, hA, hB, hk, e2⟩ := rises_at FB.nm h.rises hf
  have hfd := h.find s
  rw [hf] at hfd
  refine ⟨A, B, by rw [e1]; simp, hk, hfd, h.files x (findK_some _ hf).1, e2, fun f hn => ?_⟩
  have hr : Rises FileM.nm (A.map FB.f ++ x.f :: B.map FB.f) := by
    have := h.wf.rises
    rw [← h.same, e1] at this
    simpa using this
  have hpa := putK_part FileM.nm h.wf.rises f
  show putK FileM.nm f D.fs = _
  unfold putK
  have hd : delK FileM.nm f.nm D.fs = A.map FB.f ++ B.map FB.f := by
    rw [← h.same, ← delK_map FB.nm FileM.nm FB.f (fun _ => rfl), hn, e2, List.map_append]
  rw [hd, insK_part FileM.nm f (B.map FB.f) ?_ (A.map FB.f) ?_]
  · simp
  · intro a ha
    obtain ⟨y, hy, rfl⟩ := List.mem_map.1 ha
    rw [hn]
    exact hB y hy
  · intro a ha
    obtain ⟨y, hy, rfl⟩ := List.mem_map.1 ha
    rw [hn]
    exact hA y hy
end Go.Proofs.Ytnppneilbkmnfaa
namespace Go.Proofs.Ytnppneilbkmnfaa
open Go.RowKit

/-- what turns when a file is laid down in a new block -/
theorem DAt.laid {w0 w' : World} {d mb : Nat} {av : Value} {fbs : List FB} {D : Dk} (h : DAt w0 d mb av fbs D) (x : FB) (e : Ext (fun k => k = d ∨ k = mb) w0 w')
    (hcells : At w' d 57 [.int .i64 D.lim, .int .i64 (D.put x.f).used, .map (some mb), .bool D.off, .bool D.out, .int .i64 D.calls, av]) (hmap : MapAt w' mb (putK FB.nm x fbs)) (hx : FileOk w' x) (hn : x.bl.Nodup) (hk : ∀ k ∈ x.bl, w0.heap.size ≤ k) (wf : (D.put x.f).Wf) :
    DAt w' d mb av (putK FB.nm x fbs) (D.put x.f) ∧ Step (· ∈ dbl d mb av fbs) w0 (· ∈ dbl d mb av (putK FB.nm x fbs)) w' := by
  have hs : (putK FB.nm x fbs).map FB.f = (D.put x.f).fs := by
    rw [putK_map FB.nm FileM.nm FB.f (fun _ => rfl), h.same]
    rfl
  rcases putK_part FB.nm h.rises x with ⟨A, a, B, hf, e1, e2, _, _, _⟩ | ⟨A, B, hf, e1, e2, _, _⟩
  · have e1' : fbs = A ++ [a] ++ B := by rw [e1]; simp
    have e2' : putK FB.nm x fbs = A ++ [x] ++ B := by rw [e2]; simp
    rw [e2'] at hmap hs ⊢
    subst e1'
    exact h.change (D' := D.put x.f) (e.mono fun k _ hk => hk.imp id .inl) hcells hmap rfl (by intro y hy; rw [List.mem_singleton] at hy; subst hy; exact hx) (by simpa using hn) (fun k hq => .inr (hk k (by simpa using hq))) hs wf
  · have e1' : fbs = A ++ [] ++ B := by rw [e1]; simp
    have e2' : putK FB.nm x fbs = A ++ [x] ++ B := by rw [e2]; simp
    rw [e2'] at hmap hs ⊢
    subst e1'
    exact h.change (D' := D.put x.f) (e.mono fun k _ hk => hk.imp id .inl) hcells hmap rfl (by intro y hy; rw [List.mem_singleton] at hy; subst hy; exact hx) (by simpa using hn) (fun k hq => .inr (hk k (by simpa using hq))) hs wf

theorem DAt.drew {w : World} {d mb : Nat} {av : Value} {fbs : List FB} {D : Dk} (h : DAt w d mb av fbs D) : DAt w.drew d mb av fbs D := h.ext (Ext.refl Nil w).drew fun _ _ h => h

set_option maxRecDepth 20000 in
set_option maxHeartbeats 1000000 in
theorem put_at (w0 w : World) (d mb : Nat) (av : Value) (fbs : List FB) (D : Dk) (h0 : DAt w0 d mb av fbs D) (e0 : Ext Nil w0 w) (s : ByteArray) (hs : s.size ≤ maxLen) (v : Value) (b : List UInt8) (hv : OwnB w v b) (hvk : ∀ k, inFoot v k → w0.heap.size ≤ k) (sy : Nat) (hsy : sy ≤ b.length)
    (hn : nmOk s.data.toList = true) (hroom : D.room s.data.toList b.length = true) (hb : b.length ≤ 1099511627776) :
    Calls Try.prog 89 #[.pointer (some ⟨d, 0, none⟩), .string s, v, .int .i64 sy] w (Did w0 d mb av fbs (D.put ⟨s.data.toList, b, sy⟩)) := by
  have h := h0.ext e0 fun _ _ h => h
  have c1 := h.cells.cell 1 rfl
  have c2 := h.cells.cell 2 rfl
  have f1 := h.cells.frozen 1
  have hd := h.cells.lt
  have hd0 := h0.cells.lt
  have hwf := Dk.put_wf h.wf ⟨s.data.toList, b, sy⟩ hsy hn (Dk.room_spec.1 hroom).1 (Dk.room_spec.1 hroom).2
  have hus := (Dk.used_put h.wf ⟨s.data.toList, b, sy⟩).1
  have hsz := size_le h.wf s.data.toList
  have hul := h.wf.used
  have hl1 := h.wf.lim1
  have hp := h.part
  have hcount := h.wf.count
  rw [← h.count] at hcount
  obtain ⟨ao, cap, hav, hcap, hcm⟩ := Own.shape hv
  subst hav
  have hbl : (b.length : Int) ≤ 1099511627776 := by omega
  generalize hS : D.size s.data.toList = S at *
  generalize hU : (D.put ⟨s.data.toList, b, sy⟩).used = U at *
  have hul' : D.used ≤ D.lim := hul
  generalize hV : D.used = V at *
  have hus : U + S = V + b.length := hus
  have w1 : IntKind.i64.wrap ((b.length : Int) - S) = (b.length : Int) - S := IntWalk.i64_in _ (by omega)
  have w2 : IntKind.i64.wrap ((V : Int) + ((b.length : Int) - S)) = (U : Int) := by rw [IntWalk.i64_in _ (by omega)]; omega
  have HS := Lib.hid hS; have HU := Lib.hid hU; have HV := Lib.hid hV; have HUS := Lib.hid hus
  clear hS hU hV hus
  go_enter Try.func89, Try.ntmps89
  go_wp2_with fail
  refine wp_region_held_drew (S := fun _ => True) (by kernel_rfl) trivial (fun hHeld => ?_)
  refine wpAnyH_take (i := 0) (v := .pointer (some ⟨d, 0, none⟩)) rfl (by kernel_rfl) (by kernel_rfl) (by kernel_rfl) (fun _ _ _ h => h) (Or.inl ⟨by rfl, ?y1⟩) (by assumption) ?r1
  case y1 => (intro w hSw; go_simp)
  simp only [Act.put]
  refine wpAnyH_take (i := 1) (v := .pointer (some ⟨d, 0, none⟩)) rfl (by kernel_rfl) (by kernel_rfl) (by kernel_rfl) (fun _ _ _ h => h) (Or.inl ⟨by rfl, ?y2⟩) (by assumption) ?r2
  case y2 => (intro w hSw; go_simp)
  simp only [Act.put]
  refine wpAnyH_take (i := 2) (v := .pointer (some ⟨d, 1, none⟩)) rfl (by kernel_rfl) (by kernel_rfl) (by kernel_rfl) (fun _ _ _ h => h) (Or.inl ⟨by rfl, ?y3⟩) (by assumption) ?r3
  case y3 => (intro w hSw; go_simp)
  simp only [Act.put]
  refine wpAnyH_take (i := 4) (v := .slice ao b.length cap) rfl (by kernel_rfl) (by kernel_rfl) (by kernel_rfl) (fun _ _ _ h => h) (Or.inl ⟨by rfl, ?y4⟩) (by assumption) ?r4
  case y4 => (intro w hSw; go_simp)
  simp only [Act.put]
  refine wpAnyH_take (i := 5) (v := .int .i64 b.length) rfl (by kernel_rfl) (by kernel_rfl) (by kernel_rfl) (fun _ _ _ h => h) (Or.inl ⟨by rfl, ?y5⟩) (by assumption) ?r5
  case y5 => (intro w hSw; go_simp)
  simp only [Act.put]
  refine wpAnyH_take (i := 6) (v := .pointer (some ⟨d, 0, none⟩)) rfl (by kernel_rfl) (by kernel_rfl) (by kernel_rfl) (fun _ _ _ h => h) (Or.inl ⟨by rfl, ?y6⟩) (by assumption) ?r6
  case y6 => (intro w hSw; go_simp)
  simp only [Act.put]
  refine wpAnyH_take (i := 7) (v := .string s) rfl (by kernel_rfl) (by kernel_rfl) (by kernel_rfl) (fun _ _ _ h => h) (Or.inl ⟨by rfl, ?y7⟩) (by assumption) ?r7
  case y7 => (intro w hSw; go_simp)
  simp only [Act.put]
  refine wpAnyH_ready (rs := [3, 8]) (by kernel_rfl) (by simp) (AllReadyH.cons rfl (fun K hK => ?o3) (AllReadyH.cons rfl (fun K hK => ?o8) AllReadyH.nil))
  case o3 =>
    go_simp
    refine hK.out _ _ trivial (fun hHeld => ?_)
    clear hK K
    refine wpAnyH_ready (rs := [8]) (by kernel_rfl) (by simp) (AllReadyH.cons rfl (fun K hK => ?_) AllReadyH.nil)
    go_simp
    refine (size_q _ d mb av fbs D h.drew s hs S HS).mono ?_
    rintro e w' ⟨rfl, rfl⟩
    go_wp2_with fail
    refine hK.out _ _ trivial (fun hHeld => ?_)
    clear hK K
    refine wpAnyH_take (i := 9) (v := .int .i64 ((b.length : Int) - S)) rfl (by kernel_rfl) (by kernel_rfl) (by kernel_rfl) (fun _ _ _ h => h) (Or.inl ⟨by rfl, ?y8⟩) (by assumption) ?r8
    case y8 => (intro w hSw; go_simp)
    simp only [Act.put]
    refine wpAnyH_take (i := 10) (v := .int .i64 U) rfl (by kernel_rfl) (by kernel_rfl) (by kernel_rfl) (fun _ _ _ h => h) (Or.inl ⟨by rfl, ?y9⟩) (by assumption) ?r9
    case y9 => (intro w hSw; go_simp)
    simp only [Act.put]
    refine wpAnyH_take (i := 11) (v := .pointer (some ⟨d, 0, none⟩)) rfl (by kernel_rfl) (by kernel_rfl) (by kernel_rfl) (fun _ _ _ h => h) (Or.inl ⟨by rfl, ?y10⟩) (by assumption) ?r10
    case y10 => (intro w hSw; go_simp)
    simp only [Act.put]
    refine wpAnyH_take (i := 12) (v := .pointer (some ⟨d, 1, none⟩)) rfl (by kernel_rfl) (by kernel_rfl) (by kernel_rfl) (fun _ _ _ h => h) (Or.inl ⟨by rfl, ?y11⟩) (by assumption) ?r11
    case y11 => (intro w hSw; go_simp)
    simp only [Act.put]
    refine wpAnyH_ready (rs := [13]) (by kernel_rfl) (by simp) (AllReadyH.cons rfl (fun K hK => ?_) AllReadyH.nil)
    go_simp
    refine hK.out _ _ trivial (fun hHeld => ?_)
    clear hK K
    refine wpAnyH_done (by kernel_rfl) ?_ _
    have e1 : Ext (One d) w (w.setCell ⟨d, 1, none⟩ (.int .i64 U)).drew := ((Ext.refl (One d) w).setCell (p := ⟨d, 1, none⟩) (fun _ => (rfl : d = d)) _).drew
    have A1 : At (w.setCell ⟨d, 1, none⟩ (.int .i64 U)).drew d 57 _ := h.cells.set 1 (.int .i64 U)
    have hXs : (w.setCell ⟨d, 1, none⟩ (.int .i64 U)).drew.heap.size = w.heap.size := by simp [World.setCell, World.drew]
    generalize (w.setCell ⟨d, 1, none⟩ (.int .i64 U)).drew = X at *
    have M1 := h.map.ext e1 (fun e => hp.1 (by have e : mb = d := e; exact e.symm))
    have O1 := hv.ext e1 fun k hk e => by have e : k = d := e; have := hvk k hk; omega
    have M3 : MapAt (X.alloc (.cells #[.slice ao b.length cap, .int .i64 sy] 115 (0, 0))) mb fbs := World.ownsMap.alloc M1 _
    obtain ⟨w', hrun, M', e'⟩ := MapAt.put M3 s hs (by unfold maxLen; omega) ⟨⟨s.data.toList, b, sy⟩, X.heap.size, .slice ao b.length cap⟩ rfl
    have hmb := World.ownsMap.lt M1
    have hvl := hv.lt
    have C2 := A1.cell 2 rfl
    have E3 : Ext Nil X (X.alloc (.cells #[.slice ao b.length cap, .int .i64 sy] 115 (0, 0))) := (Ext.refl Nil X).alloc _
    have hsz0 := e0.size
    have hE : Ext (fun k => k = d ∨ k = mb) w0 w' := (((e0.mono fun k _ h => h.elim).trans e1 fun i _ e => .inl e).trans E3 fun i _ e => e.elim).trans e' fun i _ e => .inr e
    have hF : FileOk w' ⟨⟨s.data.toList, b, sy⟩, X.heap.size, .slice ao b.length cap⟩ :=
      ⟨(At.new X [.slice ao b.length cap, .int .i64 sy] 115).ext e' fun e => by have e : X.heap.size = mb := e; omega, (O1.ext E3 fun _ _ h => h).ext e' fun k hk e => by have e : k = mb := e; have h1 := hvk k hk; have h2 := World.ownsMap.lt h0.map; omega⟩
    have hA' := (A1.ext E3 fun h => h).ext e' fun e => hp.1 e
    have HL := Lib.hid (h0.laid ⟨⟨s.data.toList, b, sy⟩, X.heap.size, .slice ao b.length cap⟩ hE (by rw [HU.out]; exact hA') M' hF (by
      show (X.heap.size :: footL (.slice ao b.length cap)).Nodup
      rw [List.nodup_cons]
      exact ⟨fun hm => by have := hvl _ (mem_footL.1 hm); omega, footL_nodup _⟩) (fun k hk => by
      rcases List.mem_cons.1 hk with rfl | hk
      · show w0.heap.size ≤ X.heap.size
        omega
      · exact hvk k (mem_footL.1 hk)) hwf)
    clear hE hF hA' E3 e1 A1 M1 O1 M3 M' e' hvl hvk hv h h0 e0 hXs
    go_wp2_with fail
    go_end0
    exact ⟨rfl, _, HL.out⟩
  case o8 =>
    go_simp
    refine (size_q _ d mb av fbs D h.drew s hs S HS).mono ?_
    rintro e w' ⟨rfl, rfl⟩
    go_wp2_with fail
    refine hK.out _ _ trivial (fun hHeld => ?_)
    clear hK K
    refine wpAnyH_take (i := 9) (v := .int .i64 ((b.length : Int) - S)) rfl (by kernel_rfl) (by kernel_rfl) (by kernel_rfl) (fun _ _ _ h => h) (Or.inl ⟨by rfl, ?yq8⟩) (by assumption) ?rq8
    case yq8 => (intro w hSw; go_simp)
    simp only [Act.put]
    refine wpAnyH_ready (rs := [3]) (by kernel_rfl) (by simp) (AllReadyH.cons rfl (fun K hK => ?_) AllReadyH.nil)
    go_simp
    refine hK.out _ _ trivial (fun hHeld => ?_)
    clear hK K
    refine wpAnyH_take (i := 10) (v := .int .i64 U) rfl (by kernel_rfl) (by kernel_rfl) (by kernel_rfl) (fun _ _ _ h => h) (Or.inl ⟨by rfl, ?yq9⟩) (by assumption) ?rq9
    case yq9 => (intro w hSw; go_simp)
    simp only [Act.put]
    refine wpAnyH_take (i := 11) (v := .pointer (some ⟨d, 0, none⟩)) rfl (by kernel_rfl) (by kernel_rfl) (by kernel_rfl) (fun _ _ _ h => h) (Or.inl ⟨by rfl, ?yq10⟩) (by assumption) ?rq10
    case yq10 => (intro w hSw; go_simp)
    simp only [Act.put]
    refine wpAnyH_take (i := 12) (v := .pointer (some ⟨d, 1, none⟩)) rfl (by kernel_rfl) (by kernel_rfl) (by kernel_rfl) (fun _ _ _ h => h) (Or.inl ⟨by rfl, ?yq11⟩) (by assumption) ?rq11
    case yq11 => (intro w hSw; go_simp)
    simp only [Act.put]
    refine wpAnyH_ready (rs := [13]) (by kernel_rfl) (by simp) (AllReadyH.cons rfl (fun K hK => ?_) AllReadyH.nil)
    go_simp
    refine hK.out _ _ trivial (fun hHeld => ?_)
    clear hK K
    refine wpAnyH_done (by kernel_rfl) ?_ _
    have e1 : Ext (One d) w (w.setCell ⟨d, 1, none⟩ (.int .i64 U)).drew := ((Ext.refl (One d) w).setCell (p := ⟨d, 1, none⟩) (fun _ => (rfl : d = d)) _).drew
    have A1 : At (w.setCell ⟨d, 1, none⟩ (.int .i64 U)).drew d 57 _ := h.cells.set 1 (.int .i64 U)
    have hXs : (w.setCell ⟨d, 1, none⟩ (.int .i64 U)).drew.heap.size = w.heap.size := by simp [World.setCell, World.drew]
    generalize (w.setCell ⟨d, 1, none⟩ (.int .i64 U)).drew = X at *
    have M1 := h.map.ext e1 (fun e => hp.1 (by have e : mb = d := e; exact e.symm))
    have O1 := hv.ext e1 fun k hk e => by have e : k = d := e; have := hvk k hk; omega
    have M3 : MapAt (X.alloc (.cells #[.slice ao b.length cap, .int .i64 sy] 115 (0, 0))) mb fbs := World.ownsMap.alloc M1 _
    obtain ⟨w', hrun, M', e'⟩ := MapAt.put M3 s hs (by unfold maxLen; omega) ⟨⟨s.data.toList, b, sy⟩, X.heap.size, .slice ao b.length cap⟩ rfl
    have hmb := World.ownsMap.lt M1
    have hvl := hv.lt
    have C2 := A1.cell 2 rfl
    have E3 : Ext Nil X (X.alloc (.cells #[.slice ao b.length cap, .int .i64 sy] 115 (0, 0))) := (Ext.refl Nil X).alloc _
    have hsz0 := e0.size
    have hE : Ext (fun k => k = d ∨ k = mb) w0 w' := (((e0.mono fun k _ h => h.elim).trans e1 fun i _ e => .inl e).trans E3 fun i _ e => e.elim).trans e' fun i _ e => .inr e
    have hF : FileOk w' ⟨⟨s.data.toList, b, sy⟩, X.heap.size, .slice ao b.length cap⟩ :=
      ⟨(At.new X [.slice ao b.length cap, .int .i64 sy] 115).ext e' fun e => by have e : X.heap.size = mb := e; omega, (O1.ext E3 fun _ _ h => h).ext e' fun k hk e => by have e : k = mb := e; have h1 := hvk k hk; have h2 := World.ownsMap.lt h0.map; omega⟩
    have hA' := (A1.ext E3 fun h => h).ext e' fun e => hp.1 e
    have HL := Lib.hid (h0.laid ⟨⟨s.data.toList, b, sy⟩, X.heap.size, .slice ao b.length cap⟩ hE (by rw [HU.out]; exact hA') M' hF (by
      show (X.heap.size :: footL (.slice ao b.length cap)).Nodup
      rw [List.nodup_cons]
      exact ⟨fun hm => by have := hvl _ (mem_footL.1 hm); omega, footL_nodup _⟩) (fun k hk => by
      rcases List.mem_cons.1 hk with rfl | hk
      · show w0.heap.size ≤ X.heap.size
        omega
      · exact hvk k (mem_footL.1 hk)) hwf)
    clear hE hF hA' E3 e1 A1 M1 O1 M3 M' e' hvl hvk hv h h0 e0 hXs
    go_wp2_with fail
    go_end0
    exact ⟨rfl, _, HL.out⟩
end Go.Proofs.Ytnppneilbkmnfaa
namespace Go.Proofs.Ytnppneilbkmnfaa
open Go.RowKit

theorem Bytes.take {w : World} {ao : Option Addr} {n cap : Nat} {l : List UInt8} (h : Bytes w (.slice ao n cap) l) (k : Nat) (hk : k ≤ l.length) : Bytes w (.slice ao k cap) (l.take k) := by
  obtain ⟨ao', cap', e, h1, h2, h3⟩ := h.open
  simp only [Value.slice.injEq] at e
  obtain ⟨rfl, rfl, rfl⟩ := e
  have hlen : (l.take k).length = k := by simp; omega
  refine ⟨by rw [bvs_length, Nat.mul_one], _, cap, by rw [hlen], by rw [hlen]; omega, h2, fun hne => ?_⟩
  have hl : l ≠ [] := fun e => hne (by subst e; simp [bvs])
  obtain ⟨b, off, rfl, hc⟩ := h3 hl
  refine ⟨b, off, rfl, fun j u hj => ?_⟩
  have hj' : j < k := by
    have := (List.getElem?_eq_some_iff.1 hj).1
    simp [bvs] at this
    omega
  rw [hc j (by omega), ← hj]
  simp [bvs, bv, hj', show j < l.length by omega]
/-- a box that holds v -/
def Bx (w : World) (p : Nat) (v : Value) : Prop := w.cell? ⟨p, 0, none⟩ = some v

set_option maxRecDepth 20000 in
set_option maxHeartbeats 1000000 in
theorem replace_do (w : World) (d mb : Nat) (av : Value) (fbs : List FB) (D : Dk) (h : DAt w d mb av fbs D) (pd pn pb : Nat) (s : ByteArray) (hs : s.size ≤ maxLen) (x : Value) (b : List UInt8) (hd : Bx w pd (.pointer (some ⟨d, 0, none⟩))) (hn : Bx w pn (.string s)) (hb : Bx w pb x) (hx : Bytes w x b)
    (hpd : pd ∉ dbl d mb av fbs) (hpn : pn ∉ dbl d mb av fbs) (hpb : pb ∉ dbl d mb av fbs) (hnm : nmOk s.data.toList = true) (hroom : D.room s.data.toList b.length = true) (hbl : b.length ≤ 1099511627776) :
    Calls Try.prog 88 #[.pointer (some ⟨pd, 0, none⟩), .pointer (some ⟨pn, 0, none⟩), .pointer (some ⟨pb, 0, none⟩)] w (Did w d mb av fbs (D.put ⟨s.data.toList, b, b.length⟩)) := by
  obtain ⟨ao, cap, rfl, hcap, hcm, -⟩ := hx.open
  have hd' : w.cell? ⟨pd, 0, none⟩ = some (.pointer (some ⟨d, 0, none⟩)) := hd
  have hn' : w.cell? ⟨pn, 0, none⟩ = some (.string s) := hn
  have hb' : w.cell? ⟨pb, 0, none⟩ = some (.slice ao b.length cap) := hb
  go_enter Try.func88, Try.ntmps88
  go_wp2_with fail
  refine wp_region_held_drew (S := fun w' => w'.cell? ⟨pd, 0, none⟩ = some (.pointer (some ⟨d, 0, none⟩)) ∧ w'.cell? ⟨pn, 0, none⟩ = some (.string s) ∧ w'.cell? ⟨pb, 0, none⟩ = some (.slice ao b.length cap)) (by kernel_rfl) ⟨hd', hn', hb'⟩ (fun hHeld => ?_)
  refine wpAnyH_take (i := 0) (v := .pointer (some ⟨d, 0, none⟩)) rfl (by kernel_rfl) (by kernel_rfl) (by kernel_rfl) (fun _ _ _ h => h) (Or.inl ⟨by rfl, ?y1⟩) (by assumption) ?r1
  case y1 => (intro w hSw; obtain ⟨s1, s2, s3⟩ := hSw; go_simp)
  simp only [Act.put]
  refine wpAnyH_take (i := 1) (v := .string s) rfl (by kernel_rfl) (by kernel_rfl) (by kernel_rfl) (fun _ _ _ h => h) (Or.inl ⟨by rfl, ?y2⟩) (by assumption) ?r2
  case y2 => (intro w hSw; obtain ⟨s1, s2, s3⟩ := hSw; go_simp)
  simp only [Act.put]
  refine wpAnyH_take (i := 2) (v := .slice ao b.length cap) rfl (by kernel_rfl) (by kernel_rfl) (by kernel_rfl) (fun _ _ _ h => h) (Or.inl ⟨by rfl, ?y3⟩) (by assumption) ?r3
  case y3 => (intro w hSw; obtain ⟨s1, s2, s3⟩ := hSw; go_simp)
  simp only [Act.put]
  refine wpAnyH_take (i := 4) (v := .slice ao b.length cap) rfl (by kernel_rfl) (by kernel_rfl) (by kernel_rfl) (fun _ _ _ h => h) (Or.inl ⟨by rfl, ?y4⟩) (by assumption) ?r4
  case y4 => (intro w hSw; obtain ⟨s1, s2, s3⟩ := hSw; go_simp)
  simp only [Act.put]
  refine wpAnyH_take (i := 5) (v := .int .i64 b.length) rfl (by kernel_rfl) (by kernel_rfl) (by kernel_rfl) (fun _ _ _ h => h) (Or.inl ⟨by rfl, ?y5⟩) (by assumption) ?r5
  case y5 => (intro w hSw; obtain ⟨s1, s2, s3⟩ := hSw; go_simp)
  simp only [Act.put]
  refine wpAnyH_ready (rs := [3]) (by kernel_rfl) (by simp) (AllReadyH.cons rfl (fun K hK => ?_) AllReadyH.nil)
  go_simp
  refine (clone_any w.drew _ b (hx.ext (Ext.refl Nil w).drew fun _ _ h => h) (by unfold Fits; omega)).mono ?_
  rintro e w1 ⟨ao2, cap2, hc2, hm2, rfl, O2, S2⟩
  have S2 : Step Nil w _ w1 := ⟨((Ext.refl Nil w).drew).same S2.1, S2.2⟩
  go_wp2_with fail
  refine hK.out _ _ ⟨S2.1.cell hd' fun h => h, S2.1.cell hn' fun h => h, S2.1.cell hb' fun h => h⟩ (fun hHeld => ?_)
  clear hK K
  refine wpAnyH_ready (rs := [6]) (by kernel_rfl) (by simp) (AllReadyH.cons rfl (fun K hK => ?_) AllReadyH.nil)
  go_simp
  refine (put_at w w1 d mb av fbs D h S2.1 s hs _ b O2 (fun k hk => (S2.2 k hk).resolve_left fun h => h) b.length (Nat.le_refl _) hnm hroom (hbl)).mono ?_
  rintro e w2 ⟨rfl, fbs', h2, S3⟩
  go_wp2_with fail
  refine hK.out _ _ ⟨S3.1.cell hd' hpd, S3.1.cell hn' hpn, S3.1.cell hb' hpb⟩ (fun hHeld => ?_)
  clear hK K
  refine wpAnyH_done (by kernel_rfl) ?_ _
  go_wp2_with fail
  go_end0
  exact ⟨rfl, fbs', h2, S3⟩

theorem clone_q (w : World) (x : Value) (ys : List UInt8) (hx : Bytes w x ys) {n : Nat} (hl : ys.length = n) (hfit : Fits n) :
    Calls Try.prog 63 #[x] w fun e w' => ∃ ao cap, n ≤ cap ∧ cap ≤ maxLen ∧ e = .returned (.slice ao n cap) ∧ OwnB w' (.slice ao n cap) ys ∧ Step Nil w (inFoot (.slice ao n cap)) w' := by
  subst hl
  exact clone_any w x ys hx hfit

set_option maxRecDepth 20000 in
set_option maxHeartbeats 1000000 in
theorem cut_do (w : World) (d mb : Nat) (av : Value) (fbs : List FB) (D : Dk) (h : DAt w d mb av fbs D) (pd pn pf pk : Nat) (s : ByteArray) (hs : s.size ≤ maxLen) (x : FB) (hf : findK FB.nm s.data.toList fbs = some x) (n : Nat) (hn1 : n ≤ x.f.b.length)
    (hd : Bx w pd (.pointer (some ⟨d, 0, none⟩))) (hn : Bx w pn (.string s)) (hb : Bx w pf (.pointer (some ⟨x.blk, 0, none⟩))) (hk : Bx w pk (.int .i64 n))
    (hpd : pd ∉ dbl d mb av fbs) (hpn : pn ∉ dbl d mb av fbs) (hpf : pf ∉ dbl d mb av fbs) (hpk : pk ∉ dbl d mb av fbs) (hnm : nmOk s.data.toList = true) :
    Calls Try.prog 95 #[.pointer (some ⟨pd, 0, none⟩), .pointer (some ⟨pn, 0, none⟩), .pointer (some ⟨pf, 0, none⟩), .pointer (some ⟨pk, 0, none⟩)] w (Did w d mb av fbs (D.put ⟨s.data.toList, x.f.b.take n, n⟩)) := by
  have hx := h.files x (findK_some _ hf).1
  obtain ⟨ao, cap, hv, hcap, hcm⟩ := hx.2.shape
  have f0 := hx.1.cell 0 rfl
  have hB := hx.2.bytes
  rw [hv] at f0 hB
  have hfd := h.find s.data.toList
  rw [hf] at hfd
  have hmem := (findK_some _ hfd).1
  have hbl : x.f.b.length ≤ 1073741824 := by have := sumF_mem hmem; have := h.wf.used; have := h.wf.lim1; omega
  have htl : (x.f.b.take n).length = n := by rw [List.length_take]; omega
  have hroom : D.room s.data.toList (x.f.b.take n).length = true := by
    refine Dk.room_spec.2 ⟨?_, .inl (by rw [hfd]; rfl)⟩
    rw [Dk.size_some hfd, htl]
    have : D.used ≤ D.lim := h.wf.used
    show D.used + n ≤ D.lim + x.f.b.length
    omega
  have hd' : w.cell? ⟨pd, 0, none⟩ = some (.pointer (some ⟨d, 0, none⟩)) := hd
  have hn' : w.cell? ⟨pn, 0, none⟩ = some (.string s) := hn
  have hb' : w.cell? ⟨pf, 0, none⟩ = some (.pointer (some ⟨x.blk, 0, none⟩)) := hb
  have hk' : w.cell? ⟨pk, 0, none⟩ = some (.int .i64 n) := hk
  have hB2 := hB.take n hn1
  have HTL := Lib.hid htl
  have hi1 : (n : Int) ≤ x.f.b.length := by omega
  have hi2 : n ≤ cap := by omega
  clear htl hv hB hx hfd
  generalize x.f.b = b at *
  go_enter Try.func95, Try.ntmps95
  go_wp2_with fail
  refine wp_region_held_drew (S := fun w' => w'.cell? ⟨pd, 0, none⟩ = some (.pointer (some ⟨d, 0, none⟩)) ∧ w'.cell? ⟨pn, 0, none⟩ = some (.string s) ∧ w'.cell? ⟨pf, 0, none⟩ = some (.pointer (some ⟨x.blk, 0, none⟩)) ∧ w'.cell? ⟨pk, 0, none⟩ = some (.int .i64 n)) (by kernel_rfl) ⟨hd', hn', hb', hk'⟩ (fun hHeld => ?_)
  refine wpAnyH_take (i := 0) (v := .pointer (some ⟨d, 0, none⟩)) rfl (by kernel_rfl) (by kernel_rfl) (by kernel_rfl) (fun _ _ _ h => h) (Or.inl ⟨by rfl, ?y6⟩) (by assumption) ?r6
  case y6 => (intro w hSw; obtain ⟨s1, s2, s3, s4⟩ := hSw; go_simp)
  simp only [Act.put]
  refine wpAnyH_take (i := 1) (v := .string s) rfl (by kernel_rfl) (by kernel_rfl) (by kernel_rfl) (fun _ _ _ h => h) (Or.inl ⟨by rfl, ?y7⟩) (by assumption) ?r7
  case y7 => (intro w hSw; obtain ⟨s1, s2, s3, s4⟩ := hSw; go_simp)
  simp only [Act.put]
  refine wpAnyH_take (i := 2) (v := .pointer (some ⟨x.blk, 0, none⟩)) rfl (by kernel_rfl) (by kernel_rfl) (by kernel_rfl) (fun _ _ _ h => h) (Or.inl ⟨by rfl, ?y8⟩) (by assumption) ?r8
  case y8 => (intro w hSw; obtain ⟨s1, s2, s3, s4⟩ := hSw; go_simp)
  simp only [Act.put]
  refine wpAnyH_take (i := 3) (v := .pointer (some ⟨x.blk, 0, none⟩)) rfl (by kernel_rfl) (by kernel_rfl) (by kernel_rfl) (fun _ _ _ h => h) (Or.inl ⟨by rfl, ?y9⟩) (by assumption) ?r9
  case y9 => (intro w hSw; obtain ⟨s1, s2, s3, s4⟩ := hSw; go_simp)
  simp only [Act.put]
  refine wpAnyH_take (i := 4) (v := .pointer (some ⟨x.blk, 0, none⟩)) rfl (by kernel_rfl) (by kernel_rfl) (by kernel_rfl) (fun _ _ _ h => h) (Or.inl ⟨by rfl, ?y10⟩) (by assumption) ?r10
  case y10 => (intro w hSw; obtain ⟨s1, s2, s3, s4⟩ := hSw; go_simp)
  simp only [Act.put]
  refine wpAnyH_take (i := 6) (v := .int .i64 n) rfl (by kernel_rfl) (by kernel_rfl) (by kernel_rfl) (fun _ _ _ h => h) (Or.inl ⟨by rfl, ?y11⟩) (by assumption) ?r11
  case y11 => (intro w hSw; obtain ⟨s1, s2, s3, s4⟩ := hSw; go_simp)
  simp only [Act.put]
  refine wpAnyH_take (i := 9) (v := .int .i64 n) rfl (by kernel_rfl) (by kernel_rfl) (by kernel_rfl) (fun _ _ _ h => h) (Or.inl ⟨by rfl, ?y12⟩) (by assumption) ?r12
  case y12 => (intro w hSw; obtain ⟨s1, s2, s3, s4⟩ := hSw; go_simp)
  simp only [Act.put]
  refine wpAnyH_ready (rs := [5]) (by kernel_rfl) (by simp) (AllReadyH.cons rfl (fun K hK => ?_) AllReadyH.nil)
  go_simp
  refine hK.out _ _ ⟨hd', hn', hb', hk'⟩ (fun hHeld => ?_)
  clear hK K
  refine wpAnyH_ready (rs := [7]) (by kernel_rfl) (by simp) (AllReadyH.cons rfl (fun K hK => ?_) AllReadyH.nil)
  go_simp
  refine hK.out _ _ ⟨hd', hn', hb', hk'⟩ (fun hHeld => ?_)
  clear hK K
  refine wpAnyH_ready (rs := [8]) (by kernel_rfl) (by simp) (AllReadyH.cons rfl (fun K hK => ?_) AllReadyH.nil)
  go_simp
  refine (clone_q w.drew _ (b.take n) (hB2.ext (Ext.refl Nil w).drew fun _ _ h => h) HTL.out (by unfold Fits; omega)).mono ?_
  rintro e w1 ⟨ao2, cap2, hc2, hm2, rfl, O2, S2⟩
  have S2 : Step Nil w _ w1 := ⟨((Ext.refl Nil w).drew).same S2.1, S2.2⟩
  go_wp2_with fail
  refine hK.out _ _ ⟨S2.1.cell hd' fun h => h, S2.1.cell hn' fun h => h, S2.1.cell hb' fun h => h, S2.1.cell hk' fun h => h⟩ (fun hHeld => ?_)
  clear hK K
  refine wpAnyH_ready (rs := [10]) (by kernel_rfl) (by simp) (AllReadyH.cons rfl (fun K hK => ?_) AllReadyH.nil)
  go_simp
  refine (put_at w w1 d mb av fbs D h S2.1 s hs _ (b.take n) O2 (fun k hk => (S2.2 k hk).resolve_left fun h => h) n (by rw [HTL.out]; exact Nat.le_refl _) hnm hroom (by rw [HTL.out]; omega)).mono ?_
  rintro e w2 ⟨rfl, fbs', h2, S3⟩
  go_wp2_with fail
  refine hK.out _ _ ⟨S3.1.cell hd' hpd, S3.1.cell hn' hpn, S3.1.cell hb' hpf, S3.1.cell hk' hpk⟩ (fun hHeld => ?_)
  clear hK K
  refine wpAnyH_done (by kernel_rfl) ?_ _
  go_wp2_with fail
  go_end0
  exact ⟨rfl, fbs', h2, S3⟩
end Go.Proofs.Ytnppneilbkmnfaa
