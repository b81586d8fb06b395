/- The contract of the disk's numbered call. Condition: what it does (one of five closures) has a contract at the disk that was counted on. -/
import Derived.Test.YtnppneilbkmnfaaDd
namespace Go.Proofs.Ytnppneilbkmnfaa
open Go.RowKit

theorem DAt.power {w : World} {d mb : Nat} {av : Value} {fbs : List FB} {D : Dk} (h : DAt w d mb av fbs D) :
    DAt (w.setCell ⟨d, 3, none⟩ (.bool true)) d mb av fbs { D with off := true } ∧ Step (· ∈ dbl d mb av fbs) w (· ∈ dbl d mb av fbs) (w.setCell ⟨d, 3, none⟩ (.bool true)) := by
  have e : Ext (One d) w (w.setCell ⟨d, 3, none⟩ (.bool true)) := (Ext.refl (One d) w).setCell (p := ⟨d, 3, none⟩) (fun _ => (rfl : d = d)) _
  exact h.rearm (D' := { D with off := true }) (e.mono fun k _ hk => .inl hk) (h.cells.set 3 (.bool true)) (h.arms.ext e fun k hk ek => h.part.2.1 (by have ek : k = d := ek; rwa [ek] at hk)) (fun k hk => .inl hk) rfl (off_wf h.wf)
theorem tick_rest {D : Dk} {A B : List ArmM} {a : ArmM} (h : D.arms = A ++ a :: B) (hA : ∀ x ∈ A, x.call ≠ D.calls + 1) (ha : a.call = D.calls + 1) : D.tick.arms = A ++ rest (D.calls + 1) B := by
  show rest (D.calls + 1) D.arms = _
  rw [h]
  have e := rest_none hA
  unfold rest at *
  rw [List.filter_append, e, List.filter_cons]
  simp [ha]

set_option maxRecDepth 20000 in
set_option maxHeartbeats 4000000 in
theorem num_none (w : World) (d mb : Nat) (av : Value) (fbs : List FB) (D : Dk) (h : DAt w d mb av fbs D) (hc : D.calls ≤ 1099511627776) (f : Nat) (hf : IsDo f) (caps : Array Value) (hh : D.hit = none) (D' : Dk)
    (H : ∀ w1 av1, Ext (fun k => k = d ∨ inFoot av k) w w1 → (∀ k, inFoot av1 k → inFoot av k) → DAt w1 d mb av1 fbs D.tick → Calls Try.prog f caps w1 (Did w1 d mb av1 fbs D')) :
    Calls Try.prog 60 #[.pointer (some ⟨d, 0, none⟩), .func (.func f) #[] caps] w (Numbered w d mb av fbs D' 0) := by
  have c5 := h.cells.cell 5 rfl
  have f5 := h.cells.frozen 5
  have hd := h.cells.lt
  obtain ⟨ao, cap, hav, hcap, hcm⟩ := Own.shape h.arms
  subst hav
  have hp := h.part
  have hal : ∀ k, inFoot (.slice ao D.arms.length cap) k → k < w.heap.size := Own.lt h.arms
  obtain ⟨E1, A1, B1, T1, O1⟩ := boxed_facts h
  have hC := delete_none (boxed w d (D.calls + 1)).drew _ D.arms O1 w.heap.size (w.heap.size + 1) d (D.calls + 1) B1 (hit_none hh)
  have hrest : D.tick.arms = D.arms := rest_none (hit_none hh)
  have P0 := B1.1
  have P6 := A1.cell 6 rfl
  have hpd : (⟨d, 6, none⟩ : Addr) ≠ ⟨w.heap.size, 0, none⟩ := by simp
  have hpa : ¬ (w.heap.size = w.heap.size + 1 ∨ inFoot (.slice ao D.arms.length cap) w.heap.size) := fun e => e.elim (fun e => by omega) fun e => by have := hal _ e; omega
  have hda : ¬ (d = w.heap.size + 1 ∨ inFoot (.slice ao D.arms.length cap) d) := fun e => e.elim (fun e => by omega) hp.2.1
  have HTK : ∀ (w1 : World) (av' : Value), Ext (fun k => k = w.heap.size + 1 ∨ inFoot (.slice ao D.arms.length cap) k) (boxed w d (D.calls + 1)).drew w1 → OwnA w1 av' D.tick.arms → (∀ k, inFoot av' k → inFoot (.slice ao D.arms.length cap) k) → _ := fun w1 av' e1 O2 hk2 => ticked h e1 O2 hk2
  have hlt := h.lt
  unfold boxed pickV at *
  have A1d := A1.drew
  have T1d := T1.drew
  have HC := Lib.hid hC; have HAL := Lib.hid hal; have HA1 := Lib.hid A1d; have HT1 := Lib.hid T1d; have HT := Lib.hid HTK; have HO1 := Lib.hid O1; have HLT := Lib.hid hlt
  have HH := Lib.hid H
  clear hC hal A1 B1 T1 O1 E1 A1d T1d HTK hlt h hh  H
  have HR := Lib.hid hrest
  clear hrest
  go_enter Try.func60, Try.ntmps60
  go_wp2_with fail
  generalize (((w.setCell ⟨d, 5, none⟩ (.int .i64 ((D.calls : Int) + 1))).alloc (.cells #[.pointer (some ⟨d, 0, none⟩)] 22 (0, 0))).alloc (.cells #[.int .i64 0, .int .i64 0, .bool false] 29 (0, 0))) = W at *
  refine wp_region_held_drew (S := fun w' => w'.cell? ⟨w.heap.size, 0, none⟩ = some (.pointer (some ⟨d, 0, none⟩))) (by kernel_rfl) P0 (fun hHeld => ?_)
  refine wpAnyH_take (i := 0) (v := .pointer (some ⟨d, 0, none⟩)) rfl (by kernel_rfl) (by kernel_rfl) (by kernel_rfl) (fun _ _ _ h => h) (Or.inl ⟨by rfl, ?y1⟩) (by assumption) ?r1
  case y1 => (intro w hSw; go_simp)
  simp only [Act.put]
  refine wpAnyH_take (i := 1) (v := .pointer (some ⟨d, 0, none⟩)) rfl (by kernel_rfl) (by kernel_rfl) (by kernel_rfl) (fun _ _ _ h => h) (Or.inl ⟨by rfl, ?y2⟩) (by assumption) ?r2
  case y2 => (intro w hSw; go_simp)
  simp only [Act.put]
  refine wpAnyH_take (i := 2) (v := .pointer (some ⟨d, 0, none⟩)) rfl (by kernel_rfl) (by kernel_rfl) (by kernel_rfl) (fun _ _ _ h => h) (Or.inl ⟨by rfl, ?y3⟩) (by assumption) ?r3
  case y3 => (intro w hSw; go_simp)
  simp only [Act.put]
  refine wpAnyH_take (i := 3) (v := .pointer (some ⟨d, 6, none⟩)) rfl (by kernel_rfl) (by kernel_rfl) (by kernel_rfl) (fun _ _ _ h => h) (Or.inl ⟨by rfl, ?y4⟩) (by assumption) ?r4
  case y4 => (intro w hSw; go_simp)
  simp only [Act.put]
  refine wpAnyH_take (i := 5) (v := .func (.func 91) #[] #[.pointer (some ⟨w.heap.size, 0, none⟩), .pointer (some ⟨w.heap.size + 1, 0, none⟩)]) rfl (by kernel_rfl) (by kernel_rfl) (by kernel_rfl) (fun _ _ _ h => h) (Or.inl ⟨by rfl, ?y5⟩) (by assumption) ?r5
  case y5 => (intro w hSw; go_simp)
  simp only [Act.put]
  refine wpAnyH_ready (rs := [4]) (by kernel_rfl) (by simp) (AllReadyH.cons rfl (fun K hK => ?_) AllReadyH.nil)
  go_simp
  refine hK.out _ _ P0 (fun hHeld => ?_)
  clear hK K
  refine wpAnyH_ready (rs := [6]) (by kernel_rfl) (by simp) (AllReadyH.cons rfl (fun K hK => ?_) AllReadyH.nil)
  go_simp
  refine HC.out.mono ?_
  rintro e w1 ⟨rfl, e0⟩
  have e1 : Ext (fun k => k = w.heap.size + 1 ∨ inFoot (.slice ao D.arms.length cap) k) W.drew w1 := e0.mono fun _ _ h => h.elim
  have O2 : OwnA w1 (.slice ao D.arms.length cap) D.tick.arms := by
    rw [HR.out]
    exact OwnA.ext (w := W.drew) HO1.out e0 fun _ _ h => h
  have T2 := At.ext HT1.out e0 fun h => h
  have hk2 : ∀ k, inFoot (.slice ao D.arms.length cap) k → inFoot (.slice ao D.arms.length cap) k := fun _ h => h
  have A2 := At.ext HA1.out e1 hda
  have f6' := A2.frozen 6
  have c6' := A2.cell 6 rfl
  go_wp2_with fail
  refine hK.out _ _ (e1.cell P0 hpa) (fun hHeld => ?_)
  clear hK K
  refine wpAnyH_take (i := 7) (v := .pointer (some ⟨d, 0, none⟩)) rfl (by kernel_rfl) (by kernel_rfl) (by kernel_rfl) (fun _ _ _ h => h) (Or.inl ⟨by rfl, ?y6⟩) (by assumption) ?r6
  case y6 => (intro w hSw; go_simp)
  simp only [Act.put]
  refine wpAnyH_take (i := 8) (v := .pointer (some ⟨d, 6, none⟩)) rfl (by kernel_rfl) (by kernel_rfl) (by kernel_rfl) (fun _ _ _ h => h) (Or.inl ⟨by rfl, ?y7⟩) (by assumption) ?r7
  case y7 => (intro w hSw; go_simp)
  simp only [Act.put]
  refine wpAnyH_ready (rs := [9]) (by kernel_rfl) (by simp) (AllReadyH.cons rfl (fun K hK => ?_) AllReadyH.nil)
  go_simp
  refine hK.out _ _ ((World.cell?_setCell_other _ _ _ _ hpd).trans (e1.cell P0 hpa)) (fun hHeld => ?_)
  clear hK K
  refine wpAnyH_done (by kernel_rfl) ?_ _
  obtain ⟨h2, S2, E2⟩ := HT.out _ _ e1 O2 hk2
  have P2 := (World.cell?_setCell_other _ _ _ (.slice ao D.arms.length cap) hpd).trans (e1.cell P0 hpa)
  have T3 := T2.setOther ⟨d, 6, none⟩ (.slice ao D.arms.length cap) (show w.heap.size + 1 ≠ d by omega)
  have t1 := T3.cell 1 rfl
  have t2 := T3.cell 2 rfl
  have H3 := HH.out _ _ E2 hk2 h2
  have hpn : w.heap.size ∉ dbl d mb (.slice ao D.arms.length cap) fbs := by
    intro hm
    have hm2 : w.heap.size ∈ dbl d mb (.slice ao D.arms.length cap) fbs := by
      simp only [dbl, List.mem_cons, List.mem_append] at hm ⊢
      rcases hm with hm | hm | hm | hm
      · exact .inl hm
      · exact .inr (.inl hm)
      · exact .inr (.inr (.inl (mem_footL.2 (hk2 _ (mem_footL.1 hm)))))
      · exact .inr (.inr (.inr hm))
    have := HLT.out _ hm2
    omega
  clear P0 P6 A2 T2 f6' c6' e1 HC E2 T3 O2 hpa hda hpd HT HA1 HT1 HO1 HLT HAL HH HR e0
  generalize w1.setCell ⟨d, 6, none⟩ (.slice ao D.arms.length cap) = w2 at *
  rcases hf with rfl | rfl | rfl | rfl | rfl
  all_goals
    go_wp2_with fail
    refine H3.mono ?_
    rintro e w3 ⟨rfl, fbs', h3, S3⟩
    go_wp2_with fail
    go_ret
    exact ⟨rfl, _, fbs', h3, S2.trans S3⟩

set_option maxRecDepth 20000 in
set_option maxHeartbeats 4000000 in
theorem num_fault (w : World) (d mb : Nat) (av : Value) (fbs : List FB) (D : Dk) (h : DAt w d mb av fbs D) (hc : D.calls ≤ 1099511627776) (f : Nat) (caps : Array Value) (a : ArmM) (hh : D.hit = some a) (hkind : a.kind = 1) :
    Calls Try.prog 60 #[.pointer (some ⟨d, 0, none⟩), .func (.func f) #[] caps] w (Numbered w d mb av fbs D.tick 64) := by
  have c5 := h.cells.cell 5 rfl
  have f5 := h.cells.frozen 5
  have hd := h.cells.lt
  obtain ⟨ao, cap, hav, hcap, hcm⟩ := Own.shape h.arms
  subst hav
  have hp := h.part
  have hal : ∀ k, inFoot (.slice ao D.arms.length cap) k → k < w.heap.size := Own.lt h.arms
  obtain ⟨E1, A1, B1, T1, O1⟩ := boxed_facts h
  obtain ⟨A, B, hAB, hA, ha⟩ := hit_some hh
  have hC := delete_some (boxed w d (D.calls + 1)).drew (.slice ao D.arms.length cap) A B a (by rw [← hAB]; exact O1) w.heap.size (w.heap.size + 1) d (D.calls + 1) B1 T1 hA ha (by omega) (by omega) (by omega) (fun e => by have := hal _ e; omega) hp.2.1 (fun e => by have := hal _ e; omega)
  rw [← tick_rest hAB hA ha] at hC
  have P0 := B1.1
  have P6 := A1.cell 6 rfl
  have hpd : (⟨d, 6, none⟩ : Addr) ≠ ⟨w.heap.size, 0, none⟩ := by simp
  have hpa : ¬ (w.heap.size = w.heap.size + 1 ∨ inFoot (.slice ao D.arms.length cap) w.heap.size) := fun e => e.elim (fun e => by omega) fun e => by have := hal _ e; omega
  have hda : ¬ (d = w.heap.size + 1 ∨ inFoot (.slice ao D.arms.length cap) d) := fun e => e.elim (fun e => by omega) hp.2.1
  have HTK : ∀ (w1 : World) (av' : Value), Ext (fun k => k = w.heap.size + 1 ∨ inFoot (.slice ao D.arms.length cap) k) (boxed w d (D.calls + 1)).drew w1 → OwnA w1 av' D.tick.arms → (∀ k, inFoot av' k → inFoot (.slice ao D.arms.length cap) k) → _ := fun w1 av' e1 O2 hk2 => ticked h e1 O2 hk2
  have hlt := h.lt
  unfold boxed pickV at *
  have A1d := A1.drew
  have T1d := T1.drew
  have HC := Lib.hid hC; have HAL := Lib.hid hal; have HA1 := Lib.hid A1d; have HT1 := Lib.hid T1d; have HT := Lib.hid HTK; have HO1 := Lib.hid O1; have HLT := Lib.hid hlt
  clear hC hal A1 B1 T1 O1 E1 A1d T1d HTK hlt h hh hAB hA
  go_enter Try.func60, Try.ntmps60
  go_wp2_with fail
  generalize (((w.setCell ⟨d, 5, none⟩ (.int .i64 ((D.calls : Int) + 1))).alloc (.cells #[.pointer (some ⟨d, 0, none⟩)] 22 (0, 0))).alloc (.cells #[.int .i64 0, .int .i64 0, .bool false] 29 (0, 0))) = W at *
  refine wp_region_held_drew (S := fun w' => w'.cell? ⟨w.heap.size, 0, none⟩ = some (.pointer (some ⟨d, 0, none⟩))) (by kernel_rfl) P0 (fun hHeld => ?_)
  refine wpAnyH_take (i := 0) (v := .pointer (some ⟨d, 0, none⟩)) rfl (by kernel_rfl) (by kernel_rfl) (by kernel_rfl) (fun _ _ _ h => h) (Or.inl ⟨by rfl, ?y8⟩) (by assumption) ?r8
  case y8 => (intro w hSw; go_simp)
  simp only [Act.put]
  refine wpAnyH_take (i := 1) (v := .pointer (some ⟨d, 0, none⟩)) rfl (by kernel_rfl) (by kernel_rfl) (by kernel_rfl) (fun _ _ _ h => h) (Or.inl ⟨by rfl, ?y9⟩) (by assumption) ?r9
  case y9 => (intro w hSw; go_simp)
  simp only [Act.put]
  refine wpAnyH_take (i := 2) (v := .pointer (some ⟨d, 0, none⟩)) rfl (by kernel_rfl) (by kernel_rfl) (by kernel_rfl) (fun _ _ _ h => h) (Or.inl ⟨by rfl, ?y10⟩) (by assumption) ?r10
  case y10 => (intro w hSw; go_simp)
  simp only [Act.put]
  refine wpAnyH_take (i := 3) (v := .pointer (some ⟨d, 6, none⟩)) rfl (by kernel_rfl) (by kernel_rfl) (by kernel_rfl) (fun _ _ _ h => h) (Or.inl ⟨by rfl, ?y11⟩) (by assumption) ?r11
  case y11 => (intro w hSw; go_simp)
  simp only [Act.put]
  refine wpAnyH_take (i := 5) (v := .func (.func 91) #[] #[.pointer (some ⟨w.heap.size, 0, none⟩), .pointer (some ⟨w.heap.size + 1, 0, none⟩)]) rfl (by kernel_rfl) (by kernel_rfl) (by kernel_rfl) (fun _ _ _ h => h) (Or.inl ⟨by rfl, ?y12⟩) (by assumption) ?r12
  case y12 => (intro w hSw; go_simp)
  simp only [Act.put]
  refine wpAnyH_ready (rs := [4]) (by kernel_rfl) (by simp) (AllReadyH.cons rfl (fun K hK => ?_) AllReadyH.nil)
  go_simp
  refine hK.out _ _ P0 (fun hHeld => ?_)
  clear hK K
  refine wpAnyH_ready (rs := [6]) (by kernel_rfl) (by simp) (AllReadyH.cons rfl (fun K hK => ?_) AllReadyH.nil)
  go_simp
  refine HC.out.mono ?_
  rintro e w1 ⟨v', rfl, O2, hk2, T2, e1⟩
  obtain ⟨ao2, cap2, rfl, -, -⟩ := Own.shape O2
  have A2 := At.ext HA1.out e1 hda
  have f6' := A2.frozen 6
  have c6' := A2.cell 6 rfl
  go_wp2_with fail
  refine hK.out _ _ (e1.cell P0 hpa) (fun hHeld => ?_)
  clear hK K
  refine wpAnyH_take (i := 7) (v := .pointer (some ⟨d, 0, none⟩)) rfl (by kernel_rfl) (by kernel_rfl) (by kernel_rfl) (fun _ _ _ h => h) (Or.inl ⟨by rfl, ?y13⟩) (by assumption) ?r13
  case y13 => (intro w hSw; go_simp)
  simp only [Act.put]
  refine wpAnyH_take (i := 8) (v := .pointer (some ⟨d, 6, none⟩)) rfl (by kernel_rfl) (by kernel_rfl) (by kernel_rfl) (fun _ _ _ h => h) (Or.inl ⟨by rfl, ?y14⟩) (by assumption) ?r14
  case y14 => (intro w hSw; go_simp)
  simp only [Act.put]
  refine wpAnyH_ready (rs := [9]) (by kernel_rfl) (by simp) (AllReadyH.cons rfl (fun K hK => ?_) AllReadyH.nil)
  go_simp
  refine hK.out _ _ ((World.cell?_setCell_other _ _ _ _ hpd).trans (e1.cell P0 hpa)) (fun hHeld => ?_)
  clear hK K
  refine wpAnyH_done (by kernel_rfl) ?_ _
  obtain ⟨h2, S2, E2⟩ := HT.out _ _ e1 O2 hk2
  have P2 := (World.cell?_setCell_other _ _ _ (.slice ao2 D.tick.arms.length cap2) hpd).trans (e1.cell P0 hpa)
  have T3 := T2.setOther ⟨d, 6, none⟩ (.slice ao2 D.tick.arms.length cap2) (show w.heap.size + 1 ≠ d by omega)
  have t1 := T3.cell 1 rfl
  have t2 := T3.cell 2 rfl
  rw [hkind] at t1
  have hpn : w.heap.size ∉ dbl d mb (.slice ao2 D.tick.arms.length cap2) fbs := by
    intro hm
    have hm2 : w.heap.size ∈ dbl d mb (.slice ao D.arms.length cap) fbs := by
      simp only [dbl, List.mem_cons, List.mem_append] at hm ⊢
      rcases hm with hm | hm | hm | hm
      · exact .inl hm
      · exact .inr (.inl hm)
      · exact .inr (.inr (.inl (mem_footL.2 (hk2 _ (mem_footL.1 hm)))))
      · exact .inr (.inr (.inr hm))
    have := HLT.out _ hm2
    omega
  clear P0 P6 A2 T2 f6' c6' e1 HC E2 T3 O2 hpa hda hpd HT HA1 HT1 HO1 HLT HAL
  generalize w1.setCell ⟨d, 6, none⟩ (.slice ao2 D.tick.arms.length cap2) = w2 at *
  go_wp2_with fail
  go_ret
  exact ⟨rfl, _, fbs, h2, S2⟩

set_option maxRecDepth 20000 in
set_option maxHeartbeats 4000000 in
theorem num_cut (w : World) (d mb : Nat) (av : Value) (fbs : List FB) (D : Dk) (h : DAt w d mb av fbs D) (hc : D.calls ≤ 1099511627776) (f : Nat) (caps : Array Value) (a : ArmM) (hh : D.hit = some a) (hkind : a.kind = 2) (hdone : a.done = false) :
    Calls Try.prog 60 #[.pointer (some ⟨d, 0, none⟩), .func (.func f) #[] caps] w (Numbered w d mb av fbs { D.tick with off := true } 63) := by
  have c5 := h.cells.cell 5 rfl
  have f5 := h.cells.frozen 5
  have hd := h.cells.lt
  obtain ⟨ao, cap, hav, hcap, hcm⟩ := Own.shape h.arms
  subst hav
  have hp := h.part
  have hal : ∀ k, inFoot (.slice ao D.arms.length cap) k → k < w.heap.size := Own.lt h.arms
  obtain ⟨E1, A1, B1, T1, O1⟩ := boxed_facts h
  obtain ⟨A, B, hAB, hA, ha⟩ := hit_some hh
  have hC := delete_some (boxed w d (D.calls + 1)).drew (.slice ao D.arms.length cap) A B a (by rw [← hAB]; exact O1) w.heap.size (w.heap.size + 1) d (D.calls + 1) B1 T1 hA ha (by omega) (by omega) (by omega) (fun e => by have := hal _ e; omega) hp.2.1 (fun e => by have := hal _ e; omega)
  rw [← tick_rest hAB hA ha] at hC
  have P0 := B1.1
  have P6 := A1.cell 6 rfl
  have hpd : (⟨d, 6, none⟩ : Addr) ≠ ⟨w.heap.size, 0, none⟩ := by simp
  have hpa : ¬ (w.heap.size = w.heap.size + 1 ∨ inFoot (.slice ao D.arms.length cap) w.heap.size) := fun e => e.elim (fun e => by omega) fun e => by have := hal _ e; omega
  have hda : ¬ (d = w.heap.size + 1 ∨ inFoot (.slice ao D.arms.length cap) d) := fun e => e.elim (fun e => by omega) hp.2.1
  have HTK : ∀ (w1 : World) (av' : Value), Ext (fun k => k = w.heap.size + 1 ∨ inFoot (.slice ao D.arms.length cap) k) (boxed w d (D.calls + 1)).drew w1 → OwnA w1 av' D.tick.arms → (∀ k, inFoot av' k → inFoot (.slice ao D.arms.length cap) k) → _ := fun w1 av' e1 O2 hk2 => ticked h e1 O2 hk2
  have hlt := h.lt
  unfold boxed pickV at *
  have A1d := A1.drew
  have T1d := T1.drew
  have HC := Lib.hid hC; have HAL := Lib.hid hal; have HA1 := Lib.hid A1d; have HT1 := Lib.hid T1d; have HT := Lib.hid HTK; have HO1 := Lib.hid O1; have HLT := Lib.hid hlt
  clear hC hal A1 B1 T1 O1 E1 A1d T1d HTK hlt h hh hAB hA
  go_enter Try.func60, Try.ntmps60
  go_wp2_with fail
  generalize (((w.setCell ⟨d, 5, none⟩ (.int .i64 ((D.calls : Int) + 1))).alloc (.cells #[.pointer (some ⟨d, 0, none⟩)] 22 (0, 0))).alloc (.cells #[.int .i64 0, .int .i64 0, .bool false] 29 (0, 0))) = W at *
  refine wp_region_held_drew (S := fun w' => w'.cell? ⟨w.heap.size, 0, none⟩ = some (.pointer (some ⟨d, 0, none⟩))) (by kernel_rfl) P0 (fun hHeld => ?_)
  refine wpAnyH_take (i := 0) (v := .pointer (some ⟨d, 0, none⟩)) rfl (by kernel_rfl) (by kernel_rfl) (by kernel_rfl) (fun _ _ _ h => h) (Or.inl ⟨by rfl, ?y15⟩) (by assumption) ?r15
  case y15 => (intro w hSw; go_simp)
  simp only [Act.put]
  refine wpAnyH_take (i := 1) (v := .pointer (some ⟨d, 0, none⟩)) rfl (by kernel_rfl) (by kernel_rfl) (by kernel_rfl) (fun _ _ _ h => h) (Or.inl ⟨by rfl, ?y16⟩) (by assumption) ?r16
  case y16 => (intro w hSw; go_simp)
  simp only [Act.put]
  refine wpAnyH_take (i := 2) (v := .pointer (some ⟨d, 0, none⟩)) rfl (by kernel_rfl) (by kernel_rfl) (by kernel_rfl) (fun _ _ _ h => h) (Or.inl ⟨by rfl, ?y17⟩) (by assumption) ?r17
  case y17 => (intro w hSw; go_simp)
  simp only [Act.put]
  refine wpAnyH_take (i := 3) (v := .pointer (some ⟨d, 6, none⟩)) rfl (by kernel_rfl) (by kernel_rfl) (by kernel_rfl) (fun _ _ _ h => h) (Or.inl ⟨by rfl, ?y18⟩) (by assumption) ?r18
  case y18 => (intro w hSw; go_simp)
  simp only [Act.put]
  refine wpAnyH_take (i := 5) (v := .func (.func 91) #[] #[.pointer (some ⟨w.heap.size, 0, none⟩), .pointer (some ⟨w.heap.size + 1, 0, none⟩)]) rfl (by kernel_rfl) (by kernel_rfl) (by kernel_rfl) (fun _ _ _ h => h) (Or.inl ⟨by rfl, ?y19⟩) (by assumption) ?r19
  case y19 => (intro w hSw; go_simp)
  simp only [Act.put]
  refine wpAnyH_ready (rs := [4]) (by kernel_rfl) (by simp) (AllReadyH.cons rfl (fun K hK => ?_) AllReadyH.nil)
  go_simp
  refine hK.out _ _ P0 (fun hHeld => ?_)
  clear hK K
  refine wpAnyH_ready (rs := [6]) (by kernel_rfl) (by simp) (AllReadyH.cons rfl (fun K hK => ?_) AllReadyH.nil)
  go_simp
  refine HC.out.mono ?_
  rintro e w1 ⟨v', rfl, O2, hk2, T2, e1⟩
  obtain ⟨ao2, cap2, rfl, -, -⟩ := Own.shape O2
  have A2 := At.ext HA1.out e1 hda
  have f6' := A2.frozen 6
  have c6' := A2.cell 6 rfl
  go_wp2_with fail
  refine hK.out _ _ (e1.cell P0 hpa) (fun hHeld => ?_)
  clear hK K
  refine wpAnyH_take (i := 7) (v := .pointer (some ⟨d, 0, none⟩)) rfl (by kernel_rfl) (by kernel_rfl) (by kernel_rfl) (fun _ _ _ h => h) (Or.inl ⟨by rfl, ?y20⟩) (by assumption) ?r20
  case y20 => (intro w hSw; go_simp)
  simp only [Act.put]
  refine wpAnyH_take (i := 8) (v := .pointer (some ⟨d, 6, none⟩)) rfl (by kernel_rfl) (by kernel_rfl) (by kernel_rfl) (fun _ _ _ h => h) (Or.inl ⟨by rfl, ?y21⟩) (by assumption) ?r21
  case y21 => (intro w hSw; go_simp)
  simp only [Act.put]
  refine wpAnyH_ready (rs := [9]) (by kernel_rfl) (by simp) (AllReadyH.cons rfl (fun K hK => ?_) AllReadyH.nil)
  go_simp
  refine hK.out _ _ ((World.cell?_setCell_other _ _ _ _ hpd).trans (e1.cell P0 hpa)) (fun hHeld => ?_)
  clear hK K
  refine wpAnyH_done (by kernel_rfl) ?_ _
  obtain ⟨h2, S2, E2⟩ := HT.out _ _ e1 O2 hk2
  have P2 := (World.cell?_setCell_other _ _ _ (.slice ao2 D.tick.arms.length cap2) hpd).trans (e1.cell P0 hpa)
  have T3 := T2.setOther ⟨d, 6, none⟩ (.slice ao2 D.tick.arms.length cap2) (show w.heap.size + 1 ≠ d by omega)
  have t1 := T3.cell 1 rfl
  have t2 := T3.cell 2 rfl
  rw [hkind] at t1
  rw [hdone] at t2
  have hpn : w.heap.size ∉ dbl d mb (.slice ao2 D.tick.arms.length cap2) fbs := by
    intro hm
    have hm2 : w.heap.size ∈ dbl d mb (.slice ao D.arms.length cap) fbs := by
      simp only [dbl, List.mem_cons, List.mem_append] at hm ⊢
      rcases hm with hm | hm | hm | hm
      · exact .inl hm
      · exact .inr (.inl hm)
      · exact .inr (.inr (.inl (mem_footL.2 (hk2 _ (mem_footL.1 hm)))))
      · exact .inr (.inr (.inr hm))
    have := HLT.out _ hm2
    omega
  clear P0 P6 A2 T2 f6' c6' e1 HC E2 T3 O2 hpa hda hpd HT HA1 HT1 HO1 HLT HAL
  generalize w1.setCell ⟨d, 6, none⟩ (.slice ao2 D.tick.arms.length cap2) = w2 at *
  have f3 := h2.cells.frozen 3
  have c3 := h2.cells.cell 3 rfl
  go_wp2_with fail
  go_ret
  have h4 := h2.power
  exact ⟨rfl, _, fbs, h4.1, S2.trans h4.2⟩

set_option maxRecDepth 20000 in
set_option maxHeartbeats 4000000 in
theorem num_done (w : World) (d mb : Nat) (av : Value) (fbs : List FB) (D : Dk) (h : DAt w d mb av fbs D) (hc : D.calls ≤ 1099511627776) (f : Nat) (hf : IsDo f) (caps : Array Value) (a : ArmM) (hh : D.hit = some a) (hkind : a.kind = 2) (hdone : a.done = true) (D' : Dk)
    (H : ∀ w1 av1, Ext (fun k => k = d ∨ inFoot av k) w w1 → (∀ k, inFoot av1 k → inFoot av k) → DAt w1 d mb av1 fbs D.tick → Calls Try.prog f caps w1 (Did w1 d mb av1 fbs D')) :
    Calls Try.prog 60 #[.pointer (some ⟨d, 0, none⟩), .func (.func f) #[] caps] w (Numbered w d mb av fbs { D' with off := true } 63) := by
  have c5 := h.cells.cell 5 rfl
  have f5 := h.cells.frozen 5
  have hd := h.cells.lt
  obtain ⟨ao, cap, hav, hcap, hcm⟩ := Own.shape h.arms
  subst hav
  have hp := h.part
  have hal : ∀ k, inFoot (.slice ao D.arms.length cap) k → k < w.heap.size := Own.lt h.arms
  obtain ⟨E1, A1, B1, T1, O1⟩ := boxed_facts h
  obtain ⟨A, B, hAB, hA, ha⟩ := hit_some hh
  have hC := delete_some (boxed w d (D.calls + 1)).drew (.slice ao D.arms.length cap) A B a (by rw [← hAB]; exact O1) w.heap.size (w.heap.size + 1) d (D.calls + 1) B1 T1 hA ha (by omega) (by omega) (by omega) (fun e => by have := hal _ e; omega) hp.2.1 (fun e => by have := hal _ e; omega)
  rw [← tick_rest hAB hA ha] at hC
  have P0 := B1.1
  have P6 := A1.cell 6 rfl
  have hpd : (⟨d, 6, none⟩ : Addr) ≠ ⟨w.heap.size, 0, none⟩ := by simp
  have hpa : ¬ (w.heap.size = w.heap.size + 1 ∨ inFoot (.slice ao D.arms.length cap) w.heap.size) := fun e => e.elim (fun e => by omega) fun e => by have := hal _ e; omega
  have hda : ¬ (d = w.heap.size + 1 ∨ inFoot (.slice ao D.arms.length cap) d) := fun e => e.elim (fun e => by omega) hp.2.1
  have HTK : ∀ (w1 : World) (av' : Value), Ext (fun k => k = w.heap.size + 1 ∨ inFoot (.slice ao D.arms.length cap) k) (boxed w d (D.calls + 1)).drew w1 → OwnA w1 av' D.tick.arms → (∀ k, inFoot av' k → inFoot (.slice ao D.arms.length cap) k) → _ := fun w1 av' e1 O2 hk2 => ticked h e1 O2 hk2
  have hlt := h.lt
  unfold boxed pickV at *
  have A1d := A1.drew
  have T1d := T1.drew
  have HC := Lib.hid hC; have HAL := Lib.hid hal; have HA1 := Lib.hid A1d; have HT1 := Lib.hid T1d; have HT := Lib.hid HTK; have HO1 := Lib.hid O1; have HLT := Lib.hid hlt
  have HH := Lib.hid H
  clear hC hal A1 B1 T1 O1 E1 A1d T1d HTK hlt h hh hAB hA H
  go_enter Try.func60, Try.ntmps60
  go_wp2_with fail
  generalize (((w.setCell ⟨d, 5, none⟩ (.int .i64 ((D.calls : Int) + 1))).alloc (.cells #[.pointer (some ⟨d, 0, none⟩)] 22 (0, 0))).alloc (.cells #[.int .i64 0, .int .i64 0, .bool false] 29 (0, 0))) = W at *
  refine wp_region_held_drew (S := fun w' => w'.cell? ⟨w.heap.size, 0, none⟩ = some (.pointer (some ⟨d, 0, none⟩))) (by kernel_rfl) P0 (fun hHeld => ?_)
  refine wpAnyH_take (i := 0) (v := .pointer (some ⟨d, 0, none⟩)) rfl (by kernel_rfl) (by kernel_rfl) (by kernel_rfl) (fun _ _ _ h => h) (Or.inl ⟨by rfl, ?y22⟩) (by assumption) ?r22
  case y22 => (intro w hSw; go_simp)
  simp only [Act.put]
  refine wpAnyH_take (i := 1) (v := .pointer (some ⟨d, 0, none⟩)) rfl (by kernel_rfl) (by kernel_rfl) (by kernel_rfl) (fun _ _ _ h => h) (Or.inl ⟨by rfl, ?y23⟩) (by assumption) ?r23
  case y23 => (intro w hSw; go_simp)
  simp only [Act.put]
  refine wpAnyH_take (i := 2) (v := .pointer (some ⟨d, 0, none⟩)) rfl (by kernel_rfl) (by kernel_rfl) (by kernel_rfl) (fun _ _ _ h => h) (Or.inl ⟨by rfl, ?y24⟩) (by assumption) ?r24
  case y24 => (intro w hSw; go_simp)
  simp only [Act.put]
  refine wpAnyH_take (i := 3) (v := .pointer (some ⟨d, 6, none⟩)) rfl (by kernel_rfl) (by kernel_rfl) (by kernel_rfl) (fun _ _ _ h => h) (Or.inl ⟨by rfl, ?y25⟩) (by assumption) ?r25
  case y25 => (intro w hSw; go_simp)
  simp only [Act.put]
  refine wpAnyH_take (i := 5) (v := .func (.func 91) #[] #[.pointer (some ⟨w.heap.size, 0, none⟩), .pointer (some ⟨w.heap.size + 1, 0, none⟩)]) rfl (by kernel_rfl) (by kernel_rfl) (by kernel_rfl) (fun _ _ _ h => h) (Or.inl ⟨by rfl, ?y26⟩) (by assumption) ?r26
  case y26 => (intro w hSw; go_simp)
  simp only [Act.put]
  refine wpAnyH_ready (rs := [4]) (by kernel_rfl) (by simp) (AllReadyH.cons rfl (fun K hK => ?_) AllReadyH.nil)
  go_simp
  refine hK.out _ _ P0 (fun hHeld => ?_)
  clear hK K
  refine wpAnyH_ready (rs := [6]) (by kernel_rfl) (by simp) (AllReadyH.cons rfl (fun K hK => ?_) AllReadyH.nil)
  go_simp
  refine HC.out.mono ?_
  rintro e w1 ⟨v', rfl, O2, hk2, T2, e1⟩
  obtain ⟨ao2, cap2, rfl, -, -⟩ := Own.shape O2
  have A2 := At.ext HA1.out e1 hda
  have f6' := A2.frozen 6
  have c6' := A2.cell 6 rfl
  go_wp2_with fail
  refine hK.out _ _ (e1.cell P0 hpa) (fun hHeld => ?_)
  clear hK K
  refine wpAnyH_take (i := 7) (v := .pointer (some ⟨d, 0, none⟩)) rfl (by kernel_rfl) (by kernel_rfl) (by kernel_rfl) (fun _ _ _ h => h) (Or.inl ⟨by rfl, ?y27⟩) (by assumption) ?r27
  case y27 => (intro w hSw; go_simp)
  simp only [Act.put]
  refine wpAnyH_take (i := 8) (v := .pointer (some ⟨d, 6, none⟩)) rfl (by kernel_rfl) (by kernel_rfl) (by kernel_rfl) (fun _ _ _ h => h) (Or.inl ⟨by rfl, ?y28⟩) (by assumption) ?r28
  case y28 => (intro w hSw; go_simp)
  simp only [Act.put]
  refine wpAnyH_ready (rs := [9]) (by kernel_rfl) (by simp) (AllReadyH.cons rfl (fun K hK => ?_) AllReadyH.nil)
  go_simp
  refine hK.out _ _ ((World.cell?_setCell_other _ _ _ _ hpd).trans (e1.cell P0 hpa)) (fun hHeld => ?_)
  clear hK K
  refine wpAnyH_done (by kernel_rfl) ?_ _
  obtain ⟨h2, S2, E2⟩ := HT.out _ _ e1 O2 hk2
  have P2 := (World.cell?_setCell_other _ _ _ (.slice ao2 D.tick.arms.length cap2) hpd).trans (e1.cell P0 hpa)
  have T3 := T2.setOther ⟨d, 6, none⟩ (.slice ao2 D.tick.arms.length cap2) (show w.heap.size + 1 ≠ d by omega)
  have t1 := T3.cell 1 rfl
  have t2 := T3.cell 2 rfl
  rw [hkind] at t1
  rw [hdone] at t2
  have H3 := HH.out _ _ E2 hk2 h2
  have hpn : w.heap.size ∉ dbl d mb (.slice ao2 D.tick.arms.length cap2) fbs := by
    intro hm
    have hm2 : w.heap.size ∈ dbl d mb (.slice ao D.arms.length cap) fbs := by
      simp only [dbl, List.mem_cons, List.mem_append] at hm ⊢
      rcases hm with hm | hm | hm | hm
      · exact .inl hm
      · exact .inr (.inl hm)
      · exact .inr (.inr (.inl (mem_footL.2 (hk2 _ (mem_footL.1 hm)))))
      · exact .inr (.inr (.inr hm))
    have := HLT.out _ hm2
    omega
  clear P0 P6 A2 T2 f6' c6' e1 HC E2 T3 O2 hpa hda hpd HT HA1 HT1 HO1 HLT HAL HH
  generalize w1.setCell ⟨d, 6, none⟩ (.slice ao2 D.tick.arms.length cap2) = w2 at *
  rcases hf with rfl | rfl | rfl | rfl | rfl
  all_goals
    go_wp2_with fail
    refine H3.mono ?_
    rintro e w3 ⟨rfl, fbs', h3, S3⟩
    have P3 := S3.1.cell P2 hpn
    have f3 := h3.cells.frozen 3
    have c3 := h3.cells.cell 3 rfl
    go_wp2_with fail
    go_ret
    have h4 := h3.power
    exact ⟨rfl, _, fbs', h4.1, (S2.trans S3).trans h4.2⟩

set_option maxRecDepth 20000 in
theorem number_any (w : World) (d mb : Nat) (av : Value) (fbs : List FB) (D : Dk) (h : DAt w d mb av fbs D) (hc : D.calls ≤ 1099511627776) (f : Nat) (hf : IsDo f) (caps : Array Value) (act : Dk → Dk)
    (H : ∀ w1 av1, Ext (fun k => k = d ∨ inFoot av k) w w1 → (∀ k, inFoot av1 k → inFoot av k) → DAt w1 d mb av1 fbs D.tick → Calls Try.prog f caps w1 (Did w1 d mb av1 fbs (act D.tick))) :
    Calls Try.prog 60 #[.pointer (some ⟨d, 0, none⟩), .func (.func f) #[] caps] w (Numbered w d mb av fbs (D.num act).1 (D.num act).2) := by
  cases hh : D.hit with
  | none =>
    have e : D.num act = (act D.tick, 0) := by unfold Dk.num; rw [hh]
    rw [e]
    exact num_none w d mb av fbs D h hc f hf caps hh _ H
  | some a =>
    obtain ⟨A, B, hAB, -, -⟩ := hit_some hh
    rcases (h.wf.kinds a (by rw [hAB]; simp)).1 with hk | hk
    · have e : D.num act = (D.tick, 64) := by unfold Dk.num; rw [hh]; simp only []; rw [if_pos hk]
      rw [e]
      exact num_fault w d mb av fbs D h hc f caps a hh hk
    · cases hd : a.done
      · have e : D.num act = ({ D.tick with off := true }, 63) := by unfold Dk.num; rw [hh]; simp only []; rw [if_neg (by omega), hd]; rfl
        rw [e]
        exact num_cut w d mb av fbs D h hc f caps a hh hk hd
      · have e : D.num act = ({ act D.tick with off := true }, 63) := by unfold Dk.num; rw [hh]; simp only []; rw [if_neg (by omega), hd]; rfl
        rw [e]
        exact num_done w d mb av fbs D h hc f hf caps a hh hk hd _ H
end Go.Proofs.Ytnppneilbkmnfaa
