/- Contracts of assentref01's functions that lay values down. Condition: what is laid down fits into memory. -/
import Derived.Test.YtnppneilbkmnfaaOut
namespace Go.Proofs.Ytnppneilbkmnfaa
open Go.RowKit

/-- The end of a call that hands out bytes in memory of their own. -/
def Gives (w : World) (bs : List UInt8) (e : Ending) (w' : World) : Prop :=
  ∃ ao cap, bs.length ≤ cap ∧ cap ≤ maxLen ∧ e = .returned (.slice ao bs.length cap) ∧ OwnB w' (.slice ao bs.length cap) bs ∧ Step Nil w (inFoot (.slice ao bs.length cap)) w'

theorem OwnB.alloc {w : World} {v : Value} {l : List UInt8} (h : OwnB w v l) (o : Obj) : OwnB (w.alloc o) v l := Own.alloc h o
theorem Step.nilNil {v : Value} (w : World) (h : foot v = none) : Step Nil w (inFoot v) w := ⟨Ext.refl _ _, fun k hk => by simp [inFoot, h] at hk⟩
theorem Step.weak {F G F' : Nat → Prop} {w w' : World} (h : Step F w F' w') (hf : ∀ k, F k → G k) : Step G w F' w' := ⟨h.1.mono fun k _ hk => hf k hk, fun k hk => (h.2 k hk).imp (hf k) id⟩
/-- a row grown behind new blocks -/
theorem Step.grown {F : Nat → Prop} {w wr w1 : World} {v v' : Value} {o : Obj} (h : Step F w (inFoot v) wr) (k : Step (inFoot v) (wr.alloc o) (inFoot v') w1) : Step F w (inFoot v') w1 := h.trans ((step_alloc _ _ _).trans k)

theorem wrap_u64 {n : Nat} (h : IsU64 n) : IntKind.u64.wrap (n : Int) = n := by
  unfold IsU64 at h
  simp only [IntKind.wrap, IntKind.signed, IntKind.bits]
  simp
  omega

theorem step_any_nil {F : Nat → Prop} {w w' : World} (h : Ext Nil w w') : Step F w F w' := ⟨h.mono fun _ _ h => h.elim, fun _ h => .inl h⟩

/-- the slice that a literal of one byte lays, as one's own -/
theorem OwnB.one (w : World) {n : Int} (h0 : 0 ≤ n) (h1 : n < 256) : OwnB (w.alloc (.cells #[.int .u8 n] 5 (0, 0))) (.slice (some ⟨w.heap.size, 0, none⟩) 1 1) [toB n] := by
  refine ⟨rfl, .inr ⟨w.heap.size, 0, [.int .u8 n], rfl, At.new w _ _, Nat.le_refl _, by simp [maxLen], rfl, ?_⟩⟩
  simp [bvs, bv_toB h0 h1]
theorem Step.fresh (w : World) (o : Obj) (n c : Nat) : Step Nil w (inFoot (.slice (some ⟨w.heap.size, 0, none⟩) n c)) (w.alloc o) := by
  refine ⟨(Ext.refl _ _).alloc o, fun k hk => .inr ?_⟩
  cases c <;> simp [inFoot, foot] at hk
  omega

/-- what '[]byte(s)' makes -/
def strWorld (w : World) (s : ByteArray) : World :=
  w.drew.alloc (.cells (bytesRow s (grownCap w s.size 0 5)) 5 ((bytesRow s (grownCap w s.size 0 5)).size, (bytesRow s (grownCap w s.size 0 5)).size + 1))
theorem strLen (s : ByteArray) : s.data.toList.length = s.size := by rw [Array.length_toList]; rfl
theorem run_str (w : World) (s : ByteArray) : (convert 9 31 (.string s)).run Try.prog w = .ok (.slice (some ⟨w.heap.size, 0, none⟩) s.size (grownCap w s.size 0 5)) (strWorld w s) :=
  run_bytes_of_string (P := Try.prog) w 9 31 5 s Try.underlying9 Try.underlying31 Try.underlying5
theorem bytesRow_list (s : ByteArray) (cap : Nat) : (bytesRow s cap).toList = bvs s.data.toList ++ List.replicate (cap - s.size) (.int .u8 0) := by
  simp [bytesRow, bvs, bv]
theorem OwnB.ofString (w : World) (s : ByteArray) (hm : s.size ≤ maxLen) : OwnB (strWorld w s) (.slice (some ⟨w.heap.size, 0, none⟩) s.data.toList.length (grownCap w s.size 0 5)) s.data.toList := by
  have hge := grownCap_ge w s.size 0 5
  have hle := grownCap_le_maxLen w s.size 0 5 hm
  have hsl := strLen s
  refine ⟨by simp [bvs], ?_⟩
  unfold strWorld
  generalize hc : grownCap w s.size 0 5 = c at *
  cases c with
  | zero => exact .inl ⟨_, by congr 1; omega, by omega⟩
  | succ c =>
    refine .inr ⟨w.heap.size, c, (bytesRow s (c + 1)).toList, rfl, ⟨(bytesRow s (c + 1)).size, (bytesRow s (c + 1)).size + 1, ?_, .inl (by simp)⟩, by omega, hle, ?_, ?_⟩
    · show (w.heap.push _)[_]? = _
      simp
    · rw [bytesRow_list]
      simp [bvs]
      omega
    · rw [bytesRow_list, hsl, Nat.mul_one]
      rw [show s.size = (bvs s.data.toList).length from by simp [bvs]]
      exact List.take_left
theorem Step.ofString (w : World) (s : ByteArray) (n : Nat) : Step Nil w (inFoot (.slice (some ⟨w.heap.size, 0, none⟩) n (grownCap w s.size 0 5))) (strWorld w s) := by
  refine ⟨(Ext.refl _ _).drew.alloc _, fun k hk => .inr ?_⟩
  generalize grownCap w s.size 0 5 = c at hk
  cases c <;> simp [inFoot, foot] at hk
  omega

end Go.Proofs.Ytnppneilbkmnfaa
