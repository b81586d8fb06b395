/- Contract of the law's 'paper': a value is laid down by the document's writer. Condition: what is laid down fits into memory. -/
import Derived.Test.YtdgagpoeefbdjaaRefW
import Derived.Test.YtdgagpoeefbdjaaLay
namespace Go.Proofs.Ytdgagpoeefbdjaa
open Go.RowKit

theorem RWAt.alloc {w : World} {p : Nat} {v : Value} {bs : List UInt8} {err : Int} (h : RWAt w p v bs err) (o : Obj) : RWAt (w.alloc o) p v bs err := h.ext (F := Nil) ((Ext.refl _ _).alloc o) fun _ _ h => h

theorem alloc_more (w : World) (o : Obj) : (w.alloc o).heap.size = w.heap.size + 1 := by simp

theorem refText_list (w : World) (B : List UInt8) (hfit : Fits (B.length + 10)) : Calls Try.prog 110 #[.string ⟨B.toArray⟩] w (Gives w (varB B.length ++ B)) := refText_any w ⟨B.toArray⟩ hfit

set_option maxRecDepth 20000 in
set_option maxHeartbeats 400000 in
theorem paper0 (w : World) (p : Nat) (v : Value) (bs : List UInt8) (err : Int) (h : RWAt w p v bs err) (K : Int) (N : Nat) (x : Value) (B : List UInt8) (hp : PutOk w K N x B) (hfit : Fits (bs.length + B.length + 10)) (hk : K % 9 = 0) :
    Calls Try.prog 32 #[.pointer (some ⟨p, 0, none⟩), put K N x] w (RWrote w p v (layB err bs K N B) (layE err K N)) := by
  have e1 : layB err bs K N B = app err bs ([toB ((N : Int) % 256)]) := by unfold layB; rw [if_neg (by omega)]; simp [enc, hk]
  have e2 : layE err K N = err := by unfold layE; rw [if_neg (by omega)]
  rw [e1, e2]
  unfold put
  have hN := hp.n
  have hk0 := hp.k0
  have hk1 := hp.k1
  clear e1 e2
  have hfit' : bs.length + B.length + 10 ≤ 1099511627776 := hfit
  have hW0 : RWAt (w.alloc (.cells #[.int .i64 K, .int .u64 N, x] 39 (0, 0))) p v bs err := h.alloc _
  have hx0 : Bytes (w.alloc (.cells #[.int .i64 K, .int .u64 N, x] 39 (0, 0))) x B := hp.bytes.alloc _
  go_enter Try.func32, Try.ntmps32
  go_wp2_with (first
    | (go_at_call 35; refine (kind_any _ K hk0 hk1).mono ?_; rintro e w' ⟨rfl, rfl⟩)
    )
  have hb := Bytes.one (w.alloc (.cells #[.int .i64 K, .int .u64 N, x] 39 (0, 0))) (n := (N : Int) % 256) (by omega) (by omega) 5
  rw [alloc_more] at hb
  refine (refPut_any _ p v bs err (hW0.alloc _) _ _ hb (by unfold Fits; simp; omega)).mono ?_
  rintro e w2 ⟨rfl, v1, h1, h2⟩
  go_wp2_with fail
  go_end0
  exact ⟨rfl, v1, h1, (step_alloc _ _ _).trans ((step_alloc _ _ _).trans h2)⟩

set_option maxRecDepth 20000 in
set_option maxHeartbeats 400000 in
theorem paper1 (w : World) (p : Nat) (v : Value) (bs : List UInt8) (err : Int) (h : RWAt w p v bs err) (K : Int) (N : Nat) (x : Value) (B : List UInt8) (hp : PutOk w K N x B) (hfit : Fits (bs.length + B.length + 10)) (hk : K % 9 = 1) :
    Calls Try.prog 32 #[.pointer (some ⟨p, 0, none⟩), put K N x] w (RWrote w p v (layB err bs K N B) (layE err K N)) := by
  have e1 : layB err bs K N B = app err bs (bitB N) := by unfold layB; rw [if_neg (by omega)]; simp [enc, hk]
  have e2 : layE err K N = err := by unfold layE; rw [if_neg (by omega)]
  rw [e1, e2]
  unfold put
  have hN := hp.n
  have hk0 := hp.k0
  have hk1 := hp.k1
  clear e1 e2
  have hfit' : bs.length + B.length + 10 ≤ 1099511627776 := hfit
  have hW0 : RWAt (w.alloc (.cells #[.int .i64 K, .int .u64 N, x] 39 (0, 0))) p v bs err := h.alloc _
  have hx0 : Bytes (w.alloc (.cells #[.int .i64 K, .int .u64 N, x] 39 (0, 0))) x B := hp.bytes.alloc _
  go_enter Try.func32, Try.ntmps32
  go_wp2_with (first
    | (go_at_call 35; refine (kind_any _ K hk0 hk1).mono ?_; rintro e w' ⟨rfl, rfl⟩)
    )
  refine (refBool_any _ _).mono ?_
  rintro e w1 ⟨ao, cap, g1, g2, rfl, g3, g4⟩
  have hW1 := hW0.ext g4.1 (fun _ _ h => h)
  go_wp2_with fail
  refine (refPut_any _ p v bs err hW1 _ _ g3.bytes (by unfold Fits; simp; omega)).mono ?_
  rintro e w2 ⟨rfl, v1, h1, h2⟩
  go_wp2_with fail
  rw [bitB_of] at h1
  go_end0
  exact ⟨rfl, v1, h1, (step_alloc _ _ _).trans ((step_any_nil g4.1).trans h2)⟩

set_option maxRecDepth 20000 in
set_option maxHeartbeats 400000 in
theorem paper2 (w : World) (p : Nat) (v : Value) (bs : List UInt8) (err : Int) (h : RWAt w p v bs err) (K : Int) (N : Nat) (x : Value) (B : List UInt8) (hp : PutOk w K N x B) (hfit : Fits (bs.length + B.length + 10)) (hk : K % 9 = 2) :
    Calls Try.prog 32 #[.pointer (some ⟨p, 0, none⟩), put K N x] w (RWrote w p v (layB err bs K N B) (layE err K N)) := by
  have e1 : layB err bs K N B = app err bs (le 4 (N % 4294967296)) := by unfold layB; rw [if_neg (by omega)]; simp [enc, hk]
  have e2 : layE err K N = err := by unfold layE; rw [if_neg (by omega)]
  rw [e1, e2]
  unfold put
  have hN := hp.n
  have hk0 := hp.k0
  have hk1 := hp.k1
  clear e1 e2
  have hfit' : bs.length + B.length + 10 ≤ 1099511627776 := hfit
  have hW0 : RWAt (w.alloc (.cells #[.int .i64 K, .int .u64 N, x] 39 (0, 0))) p v bs err := h.alloc _
  have hx0 : Bytes (w.alloc (.cells #[.int .i64 K, .int .u64 N, x] 39 (0, 0))) x B := hp.bytes.alloc _
  go_enter Try.func32, Try.ntmps32
  go_wp2_with (first
    | (go_at_call 35; refine (kind_any _ K hk0 hk1).mono ?_; rintro e w' ⟨rfl, rfl⟩)
    )
  refine (refU32_any _ (N % 4294967296) (Nat.mod_lt _ (by omega))).mono ?_
  rintro e w1 ⟨ao, cap, g1, g2, rfl, g3, g4⟩
  have hW1 := hW0.ext g4.1 (fun _ _ h => h)
  go_wp2_with fail
  refine (refPut_any _ p v bs err hW1 _ _ g3.bytes (by unfold Fits; rw [le_length]; omega)).mono ?_
  rintro e w2 ⟨rfl, v1, h1, h2⟩
  go_wp2_with fail
  go_end0
  exact ⟨rfl, v1, h1, (step_alloc _ _ _).trans ((step_any_nil g4.1).trans h2)⟩

set_option maxRecDepth 20000 in
set_option maxHeartbeats 400000 in
theorem paper3 (w : World) (p : Nat) (v : Value) (bs : List UInt8) (err : Int) (h : RWAt w p v bs err) (K : Int) (N : Nat) (x : Value) (B : List UInt8) (hp : PutOk w K N x B) (hfit : Fits (bs.length + B.length + 10)) (hk : K % 9 = 3) :
    Calls Try.prog 32 #[.pointer (some ⟨p, 0, none⟩), put K N x] w (RWrote w p v (layB err bs K N B) (layE err K N)) := by
  have e1 : layB err bs K N B = app err bs (le 8 N) := by unfold layB; rw [if_neg (by omega)]; simp [enc, hk]
  have e2 : layE err K N = err := by unfold layE; rw [if_neg (by omega)]
  rw [e1, e2]
  unfold put
  have hN := hp.n
  have hk0 := hp.k0
  have hk1 := hp.k1
  clear e1 e2
  have hfit' : bs.length + B.length + 10 ≤ 1099511627776 := hfit
  have hW0 : RWAt (w.alloc (.cells #[.int .i64 K, .int .u64 N, x] 39 (0, 0))) p v bs err := h.alloc _
  have hx0 : Bytes (w.alloc (.cells #[.int .i64 K, .int .u64 N, x] 39 (0, 0))) x B := hp.bytes.alloc _
  go_enter Try.func32, Try.ntmps32
  go_wp2_with (first
    | (go_at_call 35; refine (kind_any _ K hk0 hk1).mono ?_; rintro e w' ⟨rfl, rfl⟩)
    )
  refine (refU64_any _ N hN).mono ?_
  rintro e w1 ⟨ao, cap, g1, g2, rfl, g3, g4⟩
  have hW1 := hW0.ext g4.1 (fun _ _ h => h)
  go_wp2_with fail
  refine (refPut_any _ p v bs err hW1 _ _ g3.bytes (by unfold Fits; rw [le_length]; omega)).mono ?_
  rintro e w2 ⟨rfl, v1, h1, h2⟩
  go_wp2_with fail
  go_end0
  exact ⟨rfl, v1, h1, (step_alloc _ _ _).trans ((step_any_nil g4.1).trans h2)⟩

set_option maxRecDepth 20000 in
set_option maxHeartbeats 400000 in
theorem paper4 (w : World) (p : Nat) (v : Value) (bs : List UInt8) (err : Int) (h : RWAt w p v bs err) (K : Int) (N : Nat) (x : Value) (B : List UInt8) (hp : PutOk w K N x B) (hfit : Fits (bs.length + B.length + 10)) (hk : K % 9 = 4) :
    Calls Try.prog 32 #[.pointer (some ⟨p, 0, none⟩), put K N x] w (RWrote w p v (layB err bs K N B) (layE err K N)) := by
  have e1 : layB err bs K N B = app err bs (varB N) := by unfold layB; rw [if_neg (by omega)]; simp [enc, hk]
  have e2 : layE err K N = err := by unfold layE; rw [if_neg (by omega)]
  rw [e1, e2]
  unfold put
  have hN := hp.n
  have hk0 := hp.k0
  have hk1 := hp.k1
  clear e1 e2
  have hfit' : bs.length + B.length + 10 ≤ 1099511627776 := hfit
  have hW0 : RWAt (w.alloc (.cells #[.int .i64 K, .int .u64 N, x] 39 (0, 0))) p v bs err := h.alloc _
  have hx0 : Bytes (w.alloc (.cells #[.int .i64 K, .int .u64 N, x] 39 (0, 0))) x B := hp.bytes.alloc _
  go_enter Try.func32, Try.ntmps32
  go_wp2_with (first
    | (go_at_call 35; refine (kind_any _ K hk0 hk1).mono ?_; rintro e w' ⟨rfl, rfl⟩)
    )
  refine (refVar_any _ N hN).mono ?_
  rintro e w1 ⟨ao, cap, g1, g2, rfl, g3, g4⟩
  have hW1 := hW0.ext g4.1 (fun _ _ h => h)
  go_wp2_with fail
  refine (refPut_any _ p v bs err hW1 _ _ g3.bytes (by have := varB_length hN; unfold Fits; omega)).mono ?_
  rintro e w2 ⟨rfl, v1, h1, h2⟩
  go_wp2_with fail
  go_end0
  exact ⟨rfl, v1, h1, (step_alloc _ _ _).trans ((step_any_nil g4.1).trans h2)⟩

set_option maxRecDepth 20000 in
set_option maxHeartbeats 400000 in
theorem paper5 (w : World) (p : Nat) (v : Value) (bs : List UInt8) (err : Int) (h : RWAt w p v bs err) (K : Int) (N : Nat) (x : Value) (B : List UInt8) (hp : PutOk w K N x B) (hfit : Fits (bs.length + B.length + 10)) (hk : K % 9 = 5) :
    Calls Try.prog 32 #[.pointer (some ⟨p, 0, none⟩), put K N x] w (RWrote w p v (layB err bs K N B) (layE err K N)) := by
  have e1 : layB err bs K N B = app err bs (B) := by unfold layB; rw [if_neg (by omega)]; simp [enc, hk]
  have e2 : layE err K N = err := by unfold layE; rw [if_neg (by omega)]
  rw [e1, e2]
  unfold put
  have hN := hp.n
  have hk0 := hp.k0
  have hk1 := hp.k1
  clear e1 e2
  have hfit' : bs.length + B.length + 10 ≤ 1099511627776 := hfit
  have hW0 : RWAt (w.alloc (.cells #[.int .i64 K, .int .u64 N, x] 39 (0, 0))) p v bs err := h.alloc _
  have hx0 : Bytes (w.alloc (.cells #[.int .i64 K, .int .u64 N, x] 39 (0, 0))) x B := hp.bytes.alloc _
  go_enter Try.func32, Try.ntmps32
  go_wp2_with (first
    | (go_at_call 35; refine (kind_any _ K hk0 hk1).mono ?_; rintro e w' ⟨rfl, rfl⟩)
    )
  refine (refPut_any _ p v bs err hW0 _ _ hx0 (by unfold Fits; omega)).mono ?_
  rintro e w2 ⟨rfl, v1, h1, h2⟩
  go_wp2_with fail
  go_end0
  exact ⟨rfl, v1, h1, (step_alloc _ _ _).trans h2⟩

set_option maxRecDepth 20000 in
set_option maxHeartbeats 400000 in
theorem paper6 (w : World) (p : Nat) (v : Value) (bs : List UInt8) (err : Int) (h : RWAt w p v bs err) (K : Int) (N : Nat) (x : Value) (B : List UInt8) (hp : PutOk w K N x B) (hfit : Fits (bs.length + B.length + 10)) (hk : K % 9 = 6) :
    Calls Try.prog 32 #[.pointer (some ⟨p, 0, none⟩), put K N x] w (RWrote w p v (layB err bs K N B) (layE err K N)) := by
  have e1 : layB err bs K N B = app err bs (varB B.length ++ B) := by unfold layB; rw [if_neg (by omega)]; simp [enc, hk]
  have e2 : layE err K N = err := by unfold layE; rw [if_neg (by omega)]
  rw [e1, e2]
  unfold put
  have hN := hp.n
  have hk0 := hp.k0
  have hk1 := hp.k1
  clear e1 e2
  have hfit' : bs.length + B.length + 10 ≤ 1099511627776 := hfit
  have hW0 : RWAt (w.alloc (.cells #[.int .i64 K, .int .u64 N, x] 39 (0, 0))) p v bs err := h.alloc _
  have hx0 : Bytes (w.alloc (.cells #[.int .i64 K, .int .u64 N, x] 39 (0, 0))) x B := hp.bytes.alloc _
  have hlen : (varB B.length ++ B).length ≤ B.length + 10 := by have := varB_length (n := B.length) (by unfold IsU64; omega); rw [List.length_append]; omega
  have hG := fun w' (hx' : Bytes w' x B) => refBytes_any w' x B hx' (by unfold Fits; omega)
  generalize varB B.length ++ B = L at hlen hG ⊢
  have HG := Lib.hid hG
  clear hG
  go_enter Try.func32, Try.ntmps32
  go_wp2_with (first
    | (go_at_call 35; refine (kind_any _ K hk0 hk1).mono ?_; rintro e w' ⟨rfl, rfl⟩)
    )
  refine (HG.out _ hx0).mono ?_
  rintro e w1 ⟨ao, cap, g1, g2, rfl, g3, g4⟩
  have hW1 := hW0.ext g4.1 (fun _ _ h => h)
  go_wp2_with fail
  refine (refPut_any _ p v bs err hW1 _ _ g3.bytes (by unfold Fits; omega)).mono ?_
  rintro e w2 ⟨rfl, v1, h1, h2⟩
  go_wp2_with fail
  go_end0
  exact ⟨rfl, v1, h1, (step_alloc _ _ _).trans ((step_any_nil g4.1).trans h2)⟩

set_option maxRecDepth 20000 in
set_option maxHeartbeats 400000 in
theorem paper7 (w : World) (p : Nat) (v : Value) (bs : List UInt8) (err : Int) (h : RWAt w p v bs err) (K : Int) (N : Nat) (x : Value) (B : List UInt8) (hp : PutOk w K N x B) (hfit : Fits (bs.length + B.length + 10)) (hk : K % 9 = 7) :
    Calls Try.prog 32 #[.pointer (some ⟨p, 0, none⟩), put K N x] w (RWrote w p v (layB err bs K N B) (layE err K N)) := by
  have e1 : layB err bs K N B = app err bs (varB B.length ++ B) := by unfold layB; rw [if_neg (by omega)]; simp [enc, hk]
  have e2 : layE err K N = err := by unfold layE; rw [if_neg (by omega)]
  rw [e1, e2]
  unfold put
  have hN := hp.n
  have hk0 := hp.k0
  have hk1 := hp.k1
  clear e1 e2
  have hfit' : bs.length + B.length + 10 ≤ 1099511627776 := hfit
  have hW0 : RWAt (w.alloc (.cells #[.int .i64 K, .int .u64 N, x] 39 (0, 0))) p v bs err := h.alloc _
  have hx0 : Bytes (w.alloc (.cells #[.int .i64 K, .int .u64 N, x] 39 (0, 0))) x B := hp.bytes.alloc _
  have hr := run_toStr (w.alloc (.cells #[.int .i64 K, .int .u64 N, x] 39 (0, 0))) x B hx0
  have hlen : (varB B.length ++ B).length ≤ B.length + 10 := by have := varB_length (n := B.length) (by unfold IsU64; omega); rw [List.length_append]; omega
  have hG := fun w' (_hx' : Bytes w' x B) => refText_list w' B (by unfold Fits; omega)
  generalize varB B.length ++ B = L at hlen hG ⊢
  have HG := Lib.hid hG
  clear hG
  go_enter Try.func32, Try.ntmps32
  go_wp2_with (first
    | (go_at_call 35; refine (kind_any _ K hk0 hk1).mono ?_; rintro e w' ⟨rfl, rfl⟩)
    )
  refine (HG.out _ hx0).mono ?_
  rintro e w1 ⟨ao, cap, g1, g2, rfl, g3, g4⟩
  have hW1 := hW0.ext g4.1 (fun _ _ h => h)
  go_wp2_with fail
  refine (refPut_any _ p v bs err hW1 _ _ g3.bytes (by unfold Fits; omega)).mono ?_
  rintro e w2 ⟨rfl, v1, h1, h2⟩
  go_wp2_with fail
  go_end0
  exact ⟨rfl, v1, h1, (step_alloc _ _ _).trans ((step_any_nil g4.1).trans h2)⟩

set_option maxRecDepth 20000 in
set_option maxHeartbeats 400000 in
theorem paper8 (w : World) (p : Nat) (v : Value) (bs : List UInt8) (err : Int) (h : RWAt w p v bs err) (K : Int) (N : Nat) (x : Value) (B : List UInt8) (hp : PutOk w K N x B) (hfit : Fits (bs.length + B.length + 10)) (hk : K % 9 = 8) :
    Calls Try.prog 32 #[.pointer (some ⟨p, 0, none⟩), put K N x] w (RWrote w p v (layB err bs K N B) (layE err K N)) := by
  have e1 : layB err bs K N B = cntB err bs (wrap64 N) := by unfold layB; rw [if_pos hk]
  have e2 : layE err K N = cntE err (wrap64 N) := by unfold layE; rw [if_pos hk]
  rw [e1, e2]
  unfold put
  have hN := hp.n
  have hk0 := hp.k0
  have hk1 := hp.k1
  clear e1 e2
  have hfit' : bs.length + B.length + 10 ≤ 1099511627776 := hfit
  have hW0 : RWAt (w.alloc (.cells #[.int .i64 K, .int .u64 N, x] 39 (0, 0))) p v bs err := h.alloc _
  have hx0 : Bytes (w.alloc (.cells #[.int .i64 K, .int .u64 N, x] 39 (0, 0))) x B := hp.bytes.alloc _
  have hwr : wrap64 (N : Int) ≤ 9223372036854775807 := by unfold wrap64; omega
  go_enter Try.func32, Try.ntmps32
  go_wp2_with (first
    | (go_at_call 35; refine (kind_any _ K hk0 hk1).mono ?_; rintro e w' ⟨rfl, rfl⟩)
    | (go_at_call 111; refine (refCount_any _ p v bs err hW0 (wrap64 N) hwr (by unfold Fits; omega)).mono ?_; rintro e w1 ⟨rfl, v1, h1, h2⟩))
  go_end0
  exact ⟨rfl, v1, h1, (step_alloc _ _ _).trans h2⟩

theorem paper_any (w : World) (p : Nat) (v : Value) (bs : List UInt8) (err : Int) (h : RWAt w p v bs err) (K : Int) (N : Nat) (x : Value) (B : List UInt8) (hp : PutOk w K N x B) (hfit : Fits (bs.length + B.length + 10)) :
    Calls Try.prog 32 #[.pointer (some ⟨p, 0, none⟩), put K N x] w (RWrote w p v (layB err bs K N B) (layE err K N)) := by
  have h9 : K % 9 = 0 ∨ K % 9 = 1 ∨ K % 9 = 2 ∨ K % 9 = 3 ∨ K % 9 = 4 ∨ K % 9 = 5 ∨ K % 9 = 6 ∨ K % 9 = 7 ∨ K % 9 = 8 := by omega
  rcases h9 with h9 | h9 | h9 | h9 | h9 | h9 | h9 | h9 | h9
  · exact paper0 w p v bs err h K N x B hp hfit h9
  · exact paper1 w p v bs err h K N x B hp hfit h9
  · exact paper2 w p v bs err h K N x B hp hfit h9
  · exact paper3 w p v bs err h K N x B hp hfit h9
  · exact paper4 w p v bs err h K N x B hp hfit h9
  · exact paper5 w p v bs err h K N x B hp hfit h9
  · exact paper6 w p v bs err h K N x B hp hfit h9
  · exact paper7 w p v bs err h K N x B hp hfit h9
  · exact paper8 w p v bs err h K N x B hp hfit h9
end Go.Proofs.Ytdgagpoeefbdjaa
