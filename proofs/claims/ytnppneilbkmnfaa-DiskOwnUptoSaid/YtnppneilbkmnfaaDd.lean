/- The contract of the disk's numbered call (number). Condition: what it does (one of five closures) has a contract at the disk that was counted on. -/
import Derived.Test.YtnppneilbkmnfaaDc
import Derived.Deep.RegionHeld3
namespace Go.Proofs.Ytnppneilbkmnfaa
open Go.RowKit

theorem rest_none {n : Nat} {l : List ArmM} (h : ∀ a ∈ l, a.call ≠ n) : rest n l = l := by
  unfold rest
  rw [List.filter_eq_self]
  intro a ha
  simp [h a ha]
theorem hit_none {D : Dk} (h : D.hit = none) : ∀ a ∈ D.arms, a.call ≠ D.calls + 1 := by
  unfold Dk.hit at h
  rw [List.find?_eq_none] at h
  intro a ha e
  exact h a ha (by simp [e])
theorem hit_some {D : Dk} {a : ArmM} (h : D.hit = some a) : ∃ A B, D.arms = A ++ a :: B ∧ (∀ x ∈ A, x.call ≠ D.calls + 1) ∧ a.call = D.calls + 1 := by
  unfold Dk.hit at h
  rw [List.find?_eq_some_iff_append] at h
  obtain ⟨h1, A, B, h2, h3⟩ := h
  refine ⟨A, B, h2, fun x hx e => ?_, by simpa using h1⟩
  have := h3 x hx
  simp [e] at this
theorem tick_wf {D : Dk} (h : D.Wf) : D.tick.Wf := ⟨h.rises, h.lim0, h.lim1, h.used, h.synced, h.names, h.count, fun a ha => h.kinds a (List.mem_filter.1 ha).1, h.outOff⟩
theorem off_wf {D : Dk} (h : D.Wf) : ({ D with off := true } : Dk).Wf := ⟨h.rises, h.lim0, h.lim1, h.used, h.synced, h.names, h.count, h.kinds, fun _ => rfl⟩
theorem DAt.part {w : World} {d mb : Nat} {av : Value} {fbs : List FB} {D : Dk} (h : DAt w d mb av fbs D) : d ≠ mb ∧ ¬ inFoot av d ∧ ¬ inFoot av mb ∧ (∀ x ∈ fbs, ∀ k ∈ x.bl, k ≠ d ∧ k ≠ mb ∧ ¬ inFoot av k) := by
  have hnd := h.nodup
  simp only [dbl, List.nodup_cons, List.nodup_append, List.mem_append, List.mem_cons] at hnd
  obtain ⟨h1, h2, h3, h4, h5⟩ := hnd
  refine ⟨fun e => h1 (.inl e), fun e => h1 (.inr (.inl (mem_footL.2 e))), fun e => h2 (.inl (mem_footL.2 e)), fun x hx k hk => ?_⟩
  have hm : k ∈ fbs.flatMap FB.bl := List.mem_flatMap.2 ⟨x, hx, hk⟩
  exact ⟨fun e => h1 (.inr (.inr (e ▸ hm))), fun e => h2 (.inr (e ▸ hm)), fun e => h5 k (mem_footL.2 e) k hm rfl⟩

/-- the world in which a call's number is counted and the boxes lie -/
def boxed (w : World) (d : Nat) (n : Int) : World :=
  (((w.setCell ⟨d, 5, none⟩ (.int .i64 n)).alloc (.cells #[.pointer (some ⟨d, 0, none⟩)] 22 (0, 0))).alloc (.cells #[.int .i64 0, .int .i64 0, .bool false] 29 (0, 0)))

/-- what is known of that world -/
theorem boxed_facts {w : World} {d mb : Nat} {av : Value} {fbs : List FB} {D : Dk} (h : DAt w d mb av fbs D) :
    Ext (One d) w (boxed w d (D.calls + 1)) ∧ At (boxed w d (D.calls + 1)) d 57 [.int .i64 D.lim, .int .i64 D.used, .map (some mb), .bool D.off, .bool D.out, .int .i64 ((D.calls : Int) + 1), av] ∧ Box (boxed w d (D.calls + 1)) w.heap.size d (D.calls + 1) ∧ At (boxed w d (D.calls + 1)) (w.heap.size + 1) 29 zeroT ∧ OwnA (boxed w d (D.calls + 1)) av D.arms := by
  have e : Ext (One d) w (boxed w d (D.calls + 1)) := (((Ext.refl (One d) w).setCell (p := ⟨d, 5, none⟩) (fun _ => (rfl : d = d)) _).alloc _).alloc _
  have hd := h.cells.lt
  have hA : At (boxed w d (D.calls + 1)) d 57 [.int .i64 D.lim, .int .i64 D.used, .map (some mb), .bool D.off, .bool D.out, .int .i64 ((D.calls : Int) + 1), av] := ((h.cells.set 5 (.int .i64 ((D.calls : Int) + 1))).alloc _).alloc _
  refine ⟨e, hA, ⟨?_, hA.cell 5 rfl⟩, ?_, h.arms.ext e fun k hk ek => h.part.2.1 (by have ek : k = d := ek; rwa [ek] at hk)⟩
  · have := (At.new (w.setCell ⟨d, 5, none⟩ (.int .i64 ((D.calls : Int) + 1))) [.pointer (some ⟨d, 0, none⟩)] 22).alloc (.cells #[.int .i64 0, .int .i64 0, .bool false] 29 (0, 0))
    have hs : (w.setCell ⟨d, 5, none⟩ (.int .i64 ((D.calls : Int) + 1))).heap.size = w.heap.size := by simp [World.setCell]
    rw [hs] at this
    exact this.cell 0 rfl
  · have := At.new ((w.setCell ⟨d, 5, none⟩ (.int .i64 ((D.calls : Int) + 1))).alloc (.cells #[.pointer (some ⟨d, 0, none⟩)] 22 (0, 0))) [.int .i64 0, .int .i64 0, .bool false] 29
    have hs : ((w.setCell ⟨d, 5, none⟩ (.int .i64 ((D.calls : Int) + 1))).alloc (.cells #[.pointer (some ⟨d, 0, none⟩)] 22 (0, 0))).heap.size = w.heap.size + 1 := by simp [World.setCell]
    rw [hs] at this
    exact this

theorem ticked {w w1 : World} {d mb : Nat} {av av' : Value} {fbs : List FB} {D : Dk} (h : DAt w d mb av fbs D) (e1 : Ext (fun k => k = w.heap.size + 1 ∨ inFoot av k) (boxed w d (D.calls + 1)).drew w1) (hO : OwnA w1 av' D.tick.arms) (hk : ∀ k, inFoot av' k → inFoot av k) :
    DAt (w1.setCell ⟨d, 6, none⟩ av') d mb av' fbs D.tick ∧ Step (· ∈ dbl d mb av fbs) w (· ∈ dbl d mb av' fbs) (w1.setCell ⟨d, 6, none⟩ av') ∧ Ext (fun k => k = d ∨ inFoot av k) w (w1.setCell ⟨d, 6, none⟩ av') := by
  obtain ⟨E1, A1, -, -, -⟩ := boxed_facts h
  have hd := h.cells.lt
  have hp := h.part
  have A2 := (A1.drew.ext e1 (fun e => e.elim (fun e => by omega) hp.2.1)).set 6 av'
  have E : Ext (fun k => k = d ∨ inFoot av k) w (w1.setCell ⟨d, 6, none⟩ av') := ((E1.drew.mono fun k _ hk => .inl hk).trans e1 fun i hi e => e.elim (fun e => by omega) .inr).setCell (p := ⟨d, 6, none⟩) (fun _ => .inl rfl) av'
  have hO2 : OwnA (w1.setCell ⟨d, 6, none⟩ av') av' D.tick.arms := hO.ext (F := One d) ((Ext.refl (One d) w1).setCell (p := ⟨d, 6, none⟩) (fun _ => (rfl : d = d)) av') fun k hk2 ek => hp.2.1 (by have ek : k = d := ek; subst ek; exact hk _ hk2)
  have := h.rearm (D' := D.tick) E A2 hO2 (fun k hk2 => .inl (hk k hk2)) rfl (tick_wf h.wf)
  exact ⟨this.1, this.2, E⟩

def IsDo (f : Nat) : Prop := f = 61 ∨ f = 94 ∨ f = 88 ∨ f = 95 ∨ f = 96
/-- the end of a closure that a numbered call does: the disk is D' -/
def Did (w : World) (d mb : Nat) (av : Value) (fbs : List FB) (D' : Dk) (e : Ending) (w' : World) : Prop :=
  e = .returned (.tuple #[]) ∧ ∃ fbs', DAt w' d mb av fbs' D' ∧ Step (· ∈ dbl d mb av fbs) w (· ∈ dbl d mb av fbs') w'
/-- the end of a numbered call -/
def Numbered (w : World) (d mb : Nat) (av : Value) (fbs : List FB) (D' : Dk) (er : Int) (e : Ending) (w' : World) : Prop :=
  e = .returned (.int .i64 er) ∧ ∃ av' fbs', DAt w' d mb av' fbs' D' ∧ Step (· ∈ dbl d mb av fbs) w (· ∈ dbl d mb av' fbs') w'

end Go.Proofs.Ytnppneilbkmnfaa
