/- Contracts of the disk's methods Read, Size, Arm. Conditions: the disk stands; names fit into memory. -/
import Derived.Test.YtnppneilbkmnfaaDl
namespace Go.Proofs.Ytnppneilbkmnfaa
open Go.RowKit

theorem read_nil_m (w : World) (s : ByteArray) : Calls Try.prog 29 #[.pointer none, .string s] w fun e w' => e = .returned (.tuple #[.slice none 0 0, .int .i64 1]) ∧ w = w' := by
  go_enter Try.func29, Try.ntmps29
  go_wp2_with (go_at_call 69; refine (find_nil _ s).mono ?_; rintro e w' ⟨rfl, rfl⟩)
  go_ret2
  exact ⟨rfl, rfl⟩
theorem size_nil_m (w : World) (s : ByteArray) : Calls Try.prog 68 #[.pointer none, .string s] w fun e w' => e = .returned (.tuple #[.int .i64 0, .int .i64 0, .int .i64 1]) ∧ w = w' := by
  go_enter Try.func68, Try.ntmps68
  go_wp2_with (go_at_call 69; refine (find_nil _ s).mono ?_; rintro e w' ⟨rfl, rfl⟩)
  go_ret3
  exact ⟨rfl, rfl⟩
theorem arm_nil_m (w : World) (a k : Int) (b : Bool) : Calls Try.prog 19 #[.pointer none, .agg #[.int .i64 a, .int .i64 k, .bool b]] w fun e w' => e = .returned (.int .i64 1) ∧ Ext Nil w w' := by
  go_enter Try.func19, Try.ntmps19
  go_wp2_with (go_at_call 56; refine (missing_nil _).mono ?_; rintro e w' ⟨rfl, rfl⟩)
  go_ret
  exact ⟨rfl, (Ext.refl _ _).alloc _⟩

/-- the bytes of a file; none if it is not to be had -/
def Dk.bytes (D : Dk) (s : Nm) : List UInt8 := if D.seek s = 0 then (match D.find s with | some f => f.b | none => []) else []
def Dk.synced (D : Dk) (s : Nm) : Nat := if D.seek s = 0 then (match D.find s with | some f => f.sy | none => 0) else 0

theorem read_m (w : World) (d : Nat) (D : Dk) (F : Nat → Prop) (hD : Disk w d D F) (s : ByteArray) (hs : s.size ≤ maxLen) :
    Calls Try.prog 29 #[.pointer (some ⟨d, 0, none⟩), .string s] w fun e w' => ∃ ao cap, e = .returned (.tuple #[.slice ao (D.bytes s.data.toList).length cap, .int .i64 (D.seek s.data.toList)]) ∧ OwnB w' (.slice ao (D.bytes s.data.toList).length cap) (D.bytes s.data.toList) ∧ Step Nil w (inFoot (.slice ao (D.bytes s.data.toList).length cap)) w' := by
  obtain ⟨mb, av, fbs, h, rfl⟩ := hD
  by_cases hr : D.seek s.data.toList = 0
  · obtain ⟨x, hfx, hf, hfo, -⟩ := seek_at h hr
    have hx := h.files x (findK_some _ hfx).1
    have f0 := hx.1.cell 0 rfl
    obtain ⟨ao, cap, hv, hcap, hcm⟩ := hx.2.shape
    have hB := hx.2.bytes
    rw [hv] at f0 hB
    have hmem := (findK_some _ hf).1
    have hbl := sumF_mem hmem
    have hul := h.wf.used
    have hl1 := h.wf.lim1
    have hb : D.bytes s.data.toList = x.f.b := by unfold Dk.bytes; rw [if_pos hr, hf]
    rw [hb, hr]
    have HFO := Lib.hid hfo; have HR := Lib.hid hr
    clear hfo hr hb hf hfx hv hx
    generalize x.f.b = b at *
    go_enter Try.func29, Try.ntmps29
    go_wp2_with (first
      | (go_at_call 69; refine (find_at _ d mb av fbs D h s hs).mono ?_; rintro e w' ⟨rfl, rfl⟩; rw [HFO.out, HR.out])
      | (go_at_call 63; refine (clone_any w _ b hB (by unfold Fits; omega)).mono ?_; rintro e w1 ⟨ao2, cap2, -, -, rfl, O2, S2⟩))
    go_ret2
    exact ⟨ao2, cap2, rfl, O2, S2⟩
  · have hfo : found s.data.toList fbs D = .pointer none := if_neg hr
    have hb : D.bytes s.data.toList = [] := if_neg hr
    rw [hb]
    have HFO := Lib.hid hfo
    generalize hR : D.seek s.data.toList = R at *
    have HRR := Lib.hid hR
    have hne : (R != 0) = true := by rw [bne_iff_ne]; exact hr
    clear hr hR hfo hb
    go_enter Try.func29, Try.ntmps29
    go_wp2_with (go_at_call 69; refine (find_at _ d mb av fbs D h s hs).mono ?_; rintro e w' ⟨rfl, rfl⟩; rw [HFO.out, HRR.out])
    go_ret2
    exact ⟨none, 0, rfl, Own.nil _ _ _, Step.nilNil w rfl⟩

theorem size_m (w : World) (d : Nat) (D : Dk) (F : Nat → Prop) (hD : Disk w d D F) (s : ByteArray) (hs : s.size ≤ maxLen) :
    Calls Try.prog 68 #[.pointer (some ⟨d, 0, none⟩), .string s] w fun e w' => e = .returned (.tuple #[.int .i64 (D.bytes s.data.toList).length, .int .i64 (D.synced s.data.toList), .int .i64 (D.seek s.data.toList)]) ∧ ∃ n, w' = w.drewN n := by
  obtain ⟨mb, av, fbs, h, rfl⟩ := hD
  by_cases hr : D.seek s.data.toList = 0
  · obtain ⟨x, hfx, hf, hfo, -⟩ := seek_at h hr
    have hx := h.files x (findK_some _ hfx).1
    have f0 := hx.1.cell 0 rfl
    have f1 := hx.1.cell 1 rfl
    obtain ⟨ao, cap, hv, hcap, hcm⟩ := hx.2.shape
    rw [hv] at f0
    have hmem := (findK_some _ hf).1
    have hbl := sumF_mem hmem
    have hul := h.wf.used
    have hl1 := h.wf.lim1
    have hb : D.bytes s.data.toList = x.f.b := by unfold Dk.bytes; rw [if_pos hr, hf]
    have hy : D.synced s.data.toList = x.f.sy := by unfold Dk.synced; rw [if_pos hr, hf]
    rw [hb, hr, hy]
    have HFO := Lib.hid hfo; have HR := Lib.hid hr
    clear hfo hr hb hy hf hfx hv hx
    generalize x.f.b = b at *
    generalize x.f.sy = y at *
    have hlen : b.length ≤ 1073741824 := by omega
    go_enter Try.func68, Try.ntmps68
    go_wp2_with (first
      | (go_at_call 69; refine (find_at _ d mb av fbs D h s hs).mono ?_; rintro e w' ⟨rfl, rfl⟩; rw [HFO.out, HR.out]))
    go_quiet (fail)
    go_wp2_with fail
    go_ret3
    exact ⟨rfl, nq, rfl⟩
  · have hfo : found s.data.toList fbs D = .pointer none := if_neg hr
    have hb : D.bytes s.data.toList = [] := if_neg hr
    have hy : D.synced s.data.toList = 0 := if_neg hr
    rw [hb, hy]
    have HFO := Lib.hid hfo
    generalize hR : D.seek s.data.toList = R at *
    have HRR := Lib.hid hR
    have hne : (R != 0) = true := by rw [bne_iff_ne]; exact hr
    clear hr hR hfo hb hy
    go_enter Try.func68, Try.ntmps68
    go_wp2_with (go_at_call 69; refine (find_at _ d mb av fbs D h s hs).mono ?_; rintro e w' ⟨rfl, rfl⟩; rw [HFO.out, HRR.out])
    go_ret3
    exact ⟨rfl, 0, rfl⟩
end Go.Proofs.Ytnppneilbkmnfaa
