/- The methods at a disk that no call made: it has no map. Condition: none. -/
import Derived.Test.YtnppneilbkmnfaaDx
namespace Go.Proofs.Ytnppneilbkmnfaa
open Go.RowKit

/-- a disk that no call made -/
def Zd (w : World) (z : Nat) : Prop := w.cell? ⟨z, 2, none⟩ = some (.map none) ∧ z < w.heap.size
theorem Zd.ext {w w' : World} {z : Nat} (h : Zd w z) (e : Ext Nil w w') : Zd w' z := ⟨e.cell h.1 fun h => h, Nat.lt_of_lt_of_le h.2 e.size⟩
theorem Zd.al {w : World} {z : Nat} (h : Zd w z) (o : Obj) : Zd (w.alloc o) z := h.ext ((Ext.refl _ _).alloc o)
theorem missing_zd (w : World) (z : Nat) (hz : Zd w z) : Calls Try.prog 56 #[.pointer (some ⟨z, 0, none⟩)] w fun e w' => e = .returned (.bool true) ∧ w = w' := by
  have c2 := hz.1
  have hr := run_eql_map_nil (P := Try.prog) w 54 _ _ none Try.underlying54
  go_enter Try.func56, Try.ntmps56
  go_wp2
  go_ret
  exact ⟨rfl, rfl⟩
theorem refuses_zd (w : World) (z : Nat) (hz : Zd w z) (s : ByteArray) : Calls Try.prog 57 #[.pointer (some ⟨z, 0, none⟩), .string s] w fun e w' => e = .returned (.int .i64 1) ∧ w = w' := by
  go_enter Try.func57, Try.ntmps57
  go_wp2_with (go_at_call 56; refine (missing_zd _ z (by first | exact hz | exact hz.al _ | exact (hz.al _).al _ | exact ((hz.al _).al _).al _ | exact (((hz.al _).al _).al _).al _)).mono ?_; rintro e w' ⟨rfl, rfl⟩)
  go_ret
  exact ⟨rfl, rfl⟩
theorem find_zd (w : World) (z : Nat) (hz : Zd w z) (s : ByteArray) : Calls Try.prog 69 #[.pointer (some ⟨z, 0, none⟩), .string s] w fun e w' => e = .returned (.tuple #[.pointer none, .int .i64 1]) ∧ w = w' := by
  go_enter Try.func69, Try.ntmps69
  go_wp2_with (go_at_call 57; refine (refuses_zd _ z (by first | exact hz | exact hz.al _ | exact (hz.al _).al _ | exact ((hz.al _).al _).al _ | exact (((hz.al _).al _).al _).al _) s).mono ?_; rintro e w' ⟨rfl, rfl⟩)
  go_ret2
  exact ⟨rfl, rfl⟩
theorem on_zd (w : World) (z : Nat) (hz : Zd w z) : Calls Try.prog 21 #[.pointer (some ⟨z, 0, none⟩)] w fun e w' => e = .returned (.bool false) ∧ w = w' := by
  go_enter Try.func21, Try.ntmps21
  go_wp2_with (go_at_call 56; refine (missing_zd _ z (by first | exact hz | exact hz.al _ | exact (hz.al _).al _ | exact ((hz.al _).al _).al _ | exact (((hz.al _).al _).al _).al _)).mono ?_; rintro e w' ⟨rfl, rfl⟩)
  go_ret
  exact ⟨rfl, rfl⟩
theorem calls_zd (w : World) (z : Nat) (hz : Zd w z) : Calls Try.prog 22 #[.pointer (some ⟨z, 0, none⟩)] w fun e w' => e = .returned (.int .i64 0) ∧ w = w' := by
  go_enter Try.func22, Try.ntmps22
  go_wp2_with (go_at_call 56; refine (missing_zd _ z (by first | exact hz | exact hz.al _ | exact (hz.al _).al _ | exact ((hz.al _).al _).al _ | exact (((hz.al _).al _).al _).al _)).mono ?_; rintro e w' ⟨rfl, rfl⟩)
  go_ret
  exact ⟨rfl, rfl⟩
theorem append_zd_m (w : World) (z : Nat) (hz : Zd w z) (s : ByteArray) (ax : Option Addr) (n c : Nat) : Calls Try.prog 20 #[.pointer (some ⟨z, 0, none⟩), .string s, .slice ax n c] w fun e w' => e = .returned (.int .i64 1) ∧ Ext Nil w w' := by
  go_enter Try.func20, Try.ntmps20
  go_wp2_with (go_at_call 57; refine (refuses_zd _ z (by first | exact hz | exact hz.al _ | exact (hz.al _).al _ | exact ((hz.al _).al _).al _ | exact (((hz.al _).al _).al _).al _) s).mono ?_; rintro e w' ⟨rfl, rfl⟩)
  go_ret
  exact ⟨rfl, (((Ext.refl _ _).alloc _).alloc _).alloc _⟩

theorem replace_zd_m (w : World) (z : Nat) (hz : Zd w z) (s : ByteArray) (ax : Option Addr) (n c : Nat) : Calls Try.prog 52 #[.pointer (some ⟨z, 0, none⟩), .string s, .slice ax n c] w fun e w' => e = .returned (.int .i64 1) ∧ Ext Nil w w' := by
  go_enter Try.func52, Try.ntmps52
  go_wp2_with (go_at_call 57; refine (refuses_zd _ z (by first | exact hz | exact hz.al _ | exact (hz.al _).al _ | exact ((hz.al _).al _).al _ | exact (((hz.al _).al _).al _).al _) s).mono ?_; rintro e w' ⟨rfl, rfl⟩)
  go_ret
  exact ⟨rfl, (((Ext.refl _ _).alloc _).alloc _).alloc _⟩

theorem sync_zd_m (w : World) (z : Nat) (hz : Zd w z) (s : ByteArray) : Calls Try.prog 65 #[.pointer (some ⟨z, 0, none⟩), .string s] w fun e w' => e = .returned (.int .i64 1) ∧ Ext Nil w w' := by
  go_enter Try.func65, Try.ntmps65
  go_wp2_with (go_at_call 69; refine (find_zd _ z (by first | exact hz | exact hz.al _ | exact (hz.al _).al _ | exact ((hz.al _).al _).al _ | exact (((hz.al _).al _).al _).al _) s).mono ?_; rintro e w' ⟨rfl, rfl⟩)
  go_ret
  exact ⟨rfl, (Ext.refl _ _).alloc _⟩

theorem remove_zd_m (w : World) (z : Nat) (hz : Zd w z) (s : ByteArray) : Calls Try.prog 67 #[.pointer (some ⟨z, 0, none⟩), .string s] w fun e w' => e = .returned (.int .i64 1) ∧ Ext Nil w w' := by
  go_enter Try.func67, Try.ntmps67
  go_wp2_with (go_at_call 69; refine (find_zd _ z (by first | exact hz | exact hz.al _ | exact (hz.al _).al _ | exact ((hz.al _).al _).al _ | exact (((hz.al _).al _).al _).al _) s).mono ?_; rintro e w' ⟨rfl, rfl⟩)
  go_ret
  exact ⟨rfl, ((Ext.refl _ _).alloc _).alloc _⟩
theorem cut_zd_m (w : World) (z : Nat) (hz : Zd w z) (s : ByteArray) (n : Int) : Calls Try.prog 66 #[.pointer (some ⟨z, 0, none⟩), .string s, .int .i64 n] w fun e w' => e = .returned (.int .i64 1) ∧ Ext Nil w w' := by
  go_enter Try.func66, Try.ntmps66
  go_wp2_with (go_at_call 69; refine (find_zd _ z (by first | exact hz | exact hz.al _ | exact (hz.al _).al _ | exact ((hz.al _).al _).al _ | exact (((hz.al _).al _).al _).al _) s).mono ?_; rintro e w' ⟨rfl, rfl⟩)
  go_ret
  exact ⟨rfl, ((((Ext.refl _ _).alloc _).alloc _).alloc _).alloc _⟩
theorem read_zd_m (w : World) (z : Nat) (hz : Zd w z) (s : ByteArray) : Calls Try.prog 29 #[.pointer (some ⟨z, 0, none⟩), .string s] w fun e w' => e = .returned (.tuple #[.slice none 0 0, .int .i64 1]) ∧ w = w' := by
  go_enter Try.func29, Try.ntmps29
  go_wp2_with (go_at_call 69; refine (find_zd _ z (by first | exact hz | exact hz.al _ | exact (hz.al _).al _ | exact ((hz.al _).al _).al _ | exact (((hz.al _).al _).al _).al _) s).mono ?_; rintro e w' ⟨rfl, rfl⟩)
  go_ret2
  exact ⟨rfl, rfl⟩
theorem size_zd_m (w : World) (z : Nat) (hz : Zd w z) (s : ByteArray) : Calls Try.prog 68 #[.pointer (some ⟨z, 0, none⟩), .string s] w fun e w' => e = .returned (.tuple #[.int .i64 0, .int .i64 0, .int .i64 1]) ∧ w = w' := by
  go_enter Try.func68, Try.ntmps68
  go_wp2_with (go_at_call 69; refine (find_zd _ z (by first | exact hz | exact hz.al _ | exact (hz.al _).al _ | exact ((hz.al _).al _).al _ | exact (((hz.al _).al _).al _).al _) s).mono ?_; rintro e w' ⟨rfl, rfl⟩)
  go_ret3
  exact ⟨rfl, rfl⟩
theorem arm_zd_m (w : World) (z : Nat) (hz : Zd w z) (a k : Int) (b : Bool) : Calls Try.prog 19 #[.pointer (some ⟨z, 0, none⟩), .agg #[.int .i64 a, .int .i64 k, .bool b]] w fun e w' => e = .returned (.int .i64 1) ∧ Ext Nil w w' := by
  go_enter Try.func19, Try.ntmps19
  go_wp2_with (go_at_call 56; refine (missing_zd _ z (by first | exact hz | exact hz.al _ | exact (hz.al _).al _ | exact ((hz.al _).al _).al _ | exact (((hz.al _).al _).al _).al _)).mono ?_; rintro e w' ⟨rfl, rfl⟩)
  go_ret
  exact ⟨rfl, (Ext.refl _ _).alloc _⟩

theorem names_zd_m (w : World) (z : Nat) (hz : Zd w z) : Calls Try.prog 37 #[.pointer (some ⟨z, 0, none⟩)] w fun e w' => e = .returned (.slice none 0 0) ∧ w = w' := by
  go_enter Try.func37, Try.ntmps37
  go_wp2_with (go_at_call 56; refine (missing_zd _ z (by first | exact hz | exact hz.al _ | exact (hz.al _).al _ | exact ((hz.al _).al _).al _ | exact (((hz.al _).al _).al _).al _)).mono ?_; rintro e w' ⟨rfl, rfl⟩)
  go_ret
  exact ⟨rfl, rfl⟩
theorem crash_zd_m (w : World) (z : Nat) (hz : Zd w z) (kv : Value) (junk : Int) : Calls Try.prog 23 #[.pointer (some ⟨z, 0, none⟩), kv, .int .u8 junk] w fun e w' => e = .returned (.tuple #[.agg #[.slice none 0 0], .int .i64 1]) ∧ Ext Nil w w' := by
  go_enter Try.func23, Try.ntmps23
  go_wp2_with (go_at_call 56; refine (missing_zd _ z (by first | exact hz | exact hz.al _ | exact (hz.al _).al _ | exact ((hz.al _).al _).al _ | exact (((hz.al _).al _).al _).al _)).mono ?_; rintro e w' ⟨rfl, rfl⟩)
  refine bodyPost_ret (results_image rfl _ (b := w.heap.size) (v := .slice none 0 0) rfl (At.new w [.slice none 0 0] 36 |>.cell 0 rfl) (agg_image _) (size_image _)) rfl ?_
  exact ⟨rfl, (Ext.refl _ _).alloc _⟩
end Go.Proofs.Ytnppneilbkmnfaa
