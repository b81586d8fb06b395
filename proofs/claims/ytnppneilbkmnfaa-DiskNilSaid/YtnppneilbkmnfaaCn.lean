/- Plain: the disk of the law DiskCounted, call by call (no program in sight). -/
import Derived.Test.YtnppneilbkmnfaaDx
namespace Go.Proofs.Ytnppneilbkmnfaa

deriving instance DecidableEq for FileM
deriving instance DecidableEq for ArmM
deriving instance DecidableEq for Dk

def cntF (n : Nat) : List FileM := if n = 0 then [] else [⟨[97], (List.range n).map fun j => UInt8.ofNat (j + 1), 0⟩]
/-- the disk behind i calls -/
def cnt (k : Nat) (done : Bool) (i : Nat) : Dk :=
  if i < k then ⟨4096, cntF i, false, false, i, [⟨k, k, 2, done⟩]⟩ else ⟨4096, cntF (if done then k else k - 1), true, false, k, []⟩
def cntOk (k : Nat) (done : Bool) (i : Nat) : Bool := decide ((cnt k done i).append [97] [UInt8.ofNat (i + 1)] = (cnt k done (i + 1), if i + 1 < k then 0 else 63))
theorem cnt_all : ((List.range 20).all fun k => (List.range 30).all fun i => cntOk (k + 1) true i && cntOk (k + 1) false i) = true := by decide +kernel
theorem cnt_step {k i : Nat} (done : Bool) (h1 : 1 ≤ k) (h2 : k ≤ 20) (hi : i < 30) : (cnt k done i).append [97] [UInt8.ofNat (i + 1)] = (cnt k done (i + 1), if i + 1 < k then 0 else 63) := by
  have h := cnt_all
  rw [List.all_eq_true] at h
  have h := h (k - 1) (List.mem_range.2 (by omega))
  rw [List.all_eq_true] at h
  have h := h i (List.mem_range.2 hi)
  rw [show k - 1 + 1 = k by omega, Bool.and_eq_true] at h
  cases done
  · exact of_decide_eq_true h.2
  · exact of_decide_eq_true h.1
/-- how many bytes the crash tells -/
def cntW (k : Nat) (done : Bool) (m : Nat) : Nat := if m < k then m else if done then k else k - 1
def cntEnd (k : Nat) (done : Bool) (m : Nat) : Bool :=
  let im := (cnt k done m).told [100] 0
  let n := cntW k done m
  if n = 0 then decide (im = []) else match im with | [(_, b)] => decide (b.length = n ∧ b[n - 1]? = some (UInt8.ofNat n)) | _ => false
theorem cnt_ends : ((List.range 20).all fun k => (List.range 30).all fun i => cntEnd (k + 1) true i && cntEnd (k + 1) false i) = true := by decide +kernel
theorem cnt_end {k m : Nat} (done : Bool) (h1 : 1 ≤ k) (h2 : k ≤ 20) (hi : m < 30) : cntEnd k done m = true := by
  have h := cnt_ends
  rw [List.all_eq_true] at h
  have h := h (k - 1) (List.mem_range.2 (by omega))
  rw [List.all_eq_true] at h
  have h := h m (List.mem_range.2 hi)
  rw [show k - 1 + 1 = k by omega, Bool.and_eq_true] at h
  cases done
  · exact h.2
  · exact h.1
theorem cnt_crash (k : Nat) (done : Bool) (m : Nat) : (cnt k done m).crash.2 = 0 := by
  unfold Dk.crash cnt
  split <;> rfl
theorem cnt_off (k : Nat) (done : Bool) (i : Nat) : (!(cnt k done i).off) = decide (i < k) := by
  unfold cnt
  split <;> simp_all
theorem cnt_calls (k : Nat) (done : Bool) (i : Nat) : (cnt k done i).calls = min i k := by
  unfold cnt
  split <;> simp <;> omega
theorem cnt_arm (k : Nat) (h1 : 1 ≤ k) (h2 : k ≤ 20) (done : Bool) : (Dk.fresh 4096).arm k 2 done = (cnt k done 0, 0) := by
  unfold Dk.arm cnt
  rw [if_neg (by simp [Dk.fresh]), if_neg (by omega), if_pos (by omega)]
  simp [Dk.fresh, cntF]
end Go.Proofs.Ytnppneilbkmnfaa
