/- Contracts of assentref01's functions that lay values down. Condition: what is laid down fits into memory. -/
import Derived.Test.YtgabmidkonphdaaDoorOut
namespace Go.Proofs.YtgabmidkonphdaaDoor
open Go.RowKit

/-- The end of a call that hands out bytes in memory of their own. -/
def Gives (w : World) (bs : List UInt8) (e : Ending) (w' : World) : Prop :=
  ∃ ao cap, bs.length ≤ cap ∧ cap ≤ maxLen ∧ e = .returned (.slice ao bs.length cap) ∧ OwnB w' (.slice ao bs.length cap) bs ∧ Step Nil w (inFoot (.slice ao bs.length cap)) w'

theorem OwnB.alloc {w : World} {v : Value} {l : List UInt8} (h : OwnB w v l) (o : Obj) : OwnB (w.alloc o) v l := Own.alloc h o
theorem Step.nilNil {v : Value} (w : World) (h : foot v = none) : Step Nil w (inFoot v) w := ⟨Ext.refl _ _, fun k hk => by simp [inFoot, h] at hk⟩
theorem Step.weak {F G F' : Nat → Prop} {w w' : World} (h : Step F w F' w') (hf : ∀ k, F k → G k) : Step G w F' w' := ⟨h.1.mono fun k _ hk => hf k hk, fun k hk => (h.2 k hk).imp (hf k) id⟩
/-- a row grown behind new blocks -/
theorem Step.grown {F : Nat → Prop} {w wr w1 : World} {v v' : Value} {o : Obj} (h : Step F w (inFoot v) wr) (k : Step (inFoot v) (wr.alloc o) (inFoot v') w1) : Step F w (inFoot v') w1 := h.trans ((step_alloc _ _ _).trans k)

theorem wrap_u64 {n : Nat} (h : IsU64 n) : IntKind.u64.wrap (n : Int) = n := by
  unfold IsU64 at h
  simp only [IntKind.wrap, IntKind.signed, IntKind.bits]
  simp
  omega

theorem step_any_nil {F : Nat → Prop} {w w' : World} (h : Ext Nil w w') : Step F w F w' := ⟨h.mono fun _ _ h => h.elim, fun _ h => .inl h⟩

set_option maxRecDepth 20000 in
theorem refFixed_any (w : World) (x : Nat) (hx : IsU64 x) (n : Nat) (hn : n ≤ 8) : Calls Tryd.prog 22 #[.int .u64 x, .int .i64 n] w (Gives w (le n x)) := by
  go_enter Tryd.func22, Tryd.ntmps22
  go_wp2_with fail
  go_loopw [0, 5, 6] (fun y b i wr => ∃ (k : Nat) (ao : Option Addr) (cap : Nat), k ≤ n ∧ y = .int .u64 (x / 256 ^ k : Nat) ∧ b = .slice ao k cap ∧ k ≤ cap ∧ cap ≤ maxLen ∧ i = .int .i64 k ∧ OwnB wr (.slice ao k cap) (le k x) ∧ Step Nil w (inFoot (.slice ao k cap)) wr) (fun _ _ i _ => n - (intOf i).toNat)
  case atStart => exact ⟨0, none, 0, Nat.zero_le _, by simp, rfl, Nat.le_refl _, by simp [maxLen], rfl, Own.nil _ _ _, Step.nilNil _ rfl⟩
  case round =>
    obtain ⟨k, ao, cap, hk, rfl, rfl, hc1, hc2, rfl, hown, hS⟩ := hrel
    have hf1 : Fits ((le k x).length + 1) := by rw [le_length]; unfold Fits; omega
    by_cases hlt : k < n
    · have hsrc := Reads.src (P := Tryd.prog) (Bytes.one wr (n := ((x / 256 ^ k % 256 : Nat) : Int)) (by omega) (by omega) 5) Tryd.underlying22 (bvs_one _)
      have e1 : ((x / 256 ^ k % 256 : Nat) : Int) = ((x / 256 ^ k : Nat) : Int) % 256 := by omega
      have e2 : toB ((x / 256 ^ k % 256 : Nat) : Int) = UInt8.ofNat (x / 256 ^ k % 256) := by unfold toB; rw [Int.toNat_natCast]
      have e3 : IntKind.u64.wrap (((x / 256 ^ k : Nat) : Int) / 256) = ((x / 256 ^ k / 256 : Nat) : Int) := wrap_u64 (n := x / 256 ^ k / 256) (by
        have h1 : x / 256 ^ k ≤ x := Nat.div_le_self _ _
        unfold IsU64 at *; omega)
      have e4 : x / 256 ^ k / 256 = x / 256 ^ (k + 1) := by rw [Nat.div_div_eq_div_mul, Nat.pow_succ]
      have E2 := Lib.hid e2
      have E3 := Lib.hid e3
      have E4 := Lib.hid e4
      rw [e1] at hsrc
      clear e1 e2 e3 e4
      generalize hq : x / 256 ^ k = q at *
      have HQ := Lib.hid hq
      clear hq
      go_wp2_with (at_builtin; refine wpList_append_bytes (hown.alloc _) hsrc hf1 rfl _ _ rfl rfl rfl ?_; intro ao2 cap2 w2 hd1 hd2 hown2 hst)
      have e5 : toB ((q : Int) % 256) = UInt8.ofNat (q % 256) := by rw [← E2.out]; congr 1
      rw [le_length] at hd1 hown2 hst
      simp only [List.length_cons, List.length_nil, Nat.zero_add] at hd1 hown2 hst
      refine ⟨⟨k + 1, ao2, cap2, by omega, by rw [E3.out, E4.out], by rw [le_length], hd1, hd2, by go_num, ?_, ?_⟩, by simp [intOf]; omega⟩
      · rw [le_succ, HQ.out, ← e5]; exact hown2
      · exact hS.grown hst
    · go_wp2_with fail
      go_ret
      obtain rfl : k = n := by omega
      refine ⟨ao, cap, ?_, hc2, ?_, ?_, ?_⟩ <;> simp only [le_length] <;> first | assumption | rfl

theorem refU32_any (w : World) (x : Nat) (hx : x < 4294967296) : Calls Tryd.prog 17 #[.int .u32 x] w (Gives w (le 4 x)) := by
  go_enter Tryd.func17, Tryd.ntmps17
  go_wp2_with fail
  refine (refFixed_any w x (by unfold IsU64; omega) 4 (by omega)).mono ?_
  rintro e w1 ⟨ao, cap, h1, h2, rfl, h3, h4⟩
  go_wp2_with fail
  go_ret
  exact ⟨ao, cap, h1, h2, rfl, h3, h4⟩
/-- the slice that a literal of one byte lays, as one's own -/
theorem OwnB.one (w : World) {n : Int} (h0 : 0 ≤ n) (h1 : n < 256) : OwnB (w.alloc (.cells #[.int .u8 n] 5 (0, 0))) (.slice (some ⟨w.heap.size, 0, none⟩) 1 1) [toB n] := by
  refine ⟨rfl, .inr ⟨w.heap.size, 0, [.int .u8 n], rfl, At.new w _ _, Nat.le_refl _, by simp [maxLen], rfl, ?_⟩⟩
  simp [bvs, bv_toB h0 h1]
theorem Step.fresh (w : World) (o : Obj) (n c : Nat) : Step Nil w (inFoot (.slice (some ⟨w.heap.size, 0, none⟩) n c)) (w.alloc o) := by
  refine ⟨(Ext.refl _ _).alloc o, fun k hk => .inr ?_⟩
  cases c <;> simp [inFoot, foot] at hk
  omega

/-- what '[]byte(s)' makes -/
def strWorld (w : World) (s : ByteArray) : World :=
  w.drew.alloc (.cells (bytesRow s (grownCap w s.size 0 5)) 5 ((bytesRow s (grownCap w s.size 0 5)).size, (bytesRow s (grownCap w s.size 0 5)).size + 1))
theorem strLen (s : ByteArray) : s.data.toList.length = s.size := by rw [Array.length_toList]; rfl
theorem run_str (w : World) (s : ByteArray) : (convert 9 22 (.string s)).run Tryd.prog w = .ok (.slice (some ⟨w.heap.size, 0, none⟩) s.size (grownCap w s.size 0 5)) (strWorld w s) :=
  run_bytes_of_string (P := Tryd.prog) w 9 22 5 s Tryd.underlying9 Tryd.underlying22 Tryd.underlying5
theorem bytesRow_list (s : ByteArray) (cap : Nat) : (bytesRow s cap).toList = bvs s.data.toList ++ List.replicate (cap - s.size) (.int .u8 0) := by
  simp [bytesRow, bvs, bv]
theorem OwnB.ofString (w : World) (s : ByteArray) (hm : s.size ≤ maxLen) : OwnB (strWorld w s) (.slice (some ⟨w.heap.size, 0, none⟩) s.data.toList.length (grownCap w s.size 0 5)) s.data.toList := by
  have hge := grownCap_ge w s.size 0 5
  have hle := grownCap_le_maxLen w s.size 0 5 hm
  have hsl := strLen s
  refine ⟨by simp [bvs], ?_⟩
  unfold strWorld
  generalize hc : grownCap w s.size 0 5 = c at *
  cases c with
  | zero => exact .inl ⟨_, by congr 1; omega, by omega⟩
  | succ c =>
    refine .inr ⟨w.heap.size, c, (bytesRow s (c + 1)).toList, rfl, ⟨(bytesRow s (c + 1)).size, (bytesRow s (c + 1)).size + 1, ?_, .inl (by simp)⟩, by omega, hle, ?_, ?_⟩
    · show (w.heap.push _)[_]? = _
      simp
    · rw [bytesRow_list]
      simp [bvs]
      omega
    · rw [bytesRow_list, hsl, Nat.mul_one]
      rw [show s.size = (bvs s.data.toList).length from by simp [bvs]]
      exact List.take_left
theorem Step.ofString (w : World) (s : ByteArray) (n : Nat) : Step Nil w (inFoot (.slice (some ⟨w.heap.size, 0, none⟩) n (grownCap w s.size 0 5))) (strWorld w s) := by
  refine ⟨(Ext.refl _ _).drew.alloc _, fun k hk => .inr ?_⟩
  generalize grownCap w s.size 0 5 = c at hk
  cases c <;> simp [inFoot, foot] at hk
  omega

end Go.Proofs.YtgabmidkonphdaaDoor
