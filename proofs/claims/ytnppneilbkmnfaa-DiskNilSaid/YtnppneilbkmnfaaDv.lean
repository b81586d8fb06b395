/- The contract of the disk's Crash. Condition: the disk stands, and what its numbers lie in is none of its blocks. -/
import Derived.Test.YtnppneilbkmnfaaDt
import Derived.Laws.BitsAllLaws
namespace Go.Proofs.Ytnppneilbkmnfaa
open Go.RowKit

/-- the result that lies in a cell: an image -/
theorem results_image {P : Program} {fn : Func} {a u : Tmp} (h : fn.results = #[.cell a 36, .tmp u]) (tmps : Array Value) {w : World} {b : Nat} {v : Value} (ha : tmps.getD a undef = .pointer (some ⟨b, 0, none⟩)) (hc : w.cell? ⟨b, 0, none⟩ = some v) (hP : (isAgg 36).run P w = .ok true w) (hZ : (sizeOf 36).run P w = .ok 1 w) :
    (results fn tmps).run P w = .ok (.tuple #[.agg #[v], tmps.getD u undef]) w := by
  have e0 : (⟨b, 0, none⟩ : Addr).add 0 = ⟨b, 0, none⟩ := rfl
  rw [Array.getD_eq_getD_getElem?] at ha
  simp [results, h, ha, loadVar, asAddr, loadCells, loadCellsFrom, e0, Result.andThen, hP, hZ, run_load, hc]
theorem agg_image (w : World) : (isAgg 36).run Try.prog w = .ok true w := by kernel_rfl
theorem size_image (w : World) : (sizeOf 36).run Try.prog w = .ok 1 w := by kernel_rfl

theorem crash_nil_m (w : World) (kv : Value) (junk : Int) : Calls Try.prog 23 #[.pointer none, kv, .int .u8 junk] w fun e w' => e = .returned (.tuple #[.agg #[.slice none 0 0], .int .i64 1]) ∧ Ext Nil w w' := by
  go_enter Try.func23, Try.ntmps23
  go_wp2_with (go_at_call 56; refine (missing_nil _).mono ?_; rintro e w' ⟨rfl, rfl⟩)
  refine bodyPost_ret (results_image rfl _ (b := w.heap.size) (v := .slice none 0 0) rfl (At.new w [.slice none 0 0] 36 |>.cell 0 rfl) (agg_image _) (size_image _)) rfl ?_
  exact ⟨rfl, (Ext.refl _ _).alloc _⟩
theorem crash_out_m (w : World) (d : Nat) (D : Dk) (F : Nat → Prop) (hD : Disk w d D F) (kv : Value) (junk : Int) (ho : D.out = true) :
    Calls Try.prog 23 #[.pointer (some ⟨d, 0, none⟩), kv, .int .u8 junk] w fun e w' => e = .returned (.tuple #[.agg #[.slice none 0 0], .int .i64 63]) ∧ Ext Nil w w' := by
  obtain ⟨mb, av, fbs, h, rfl⟩ := hD
  have eW : Ext Nil w (w.alloc (.cells #[.slice none 0 0] 36 (0, 0))) := (Ext.refl _ _).alloc _
  have hW := h.ext eW fun _ _ h => h
  have c4 := hW.cells.cell 4 rfl
  rw [ho] at c4
  go_enter Try.func23, Try.ntmps23
  go_wp2_with (go_at_call 56; refine (missing_at _ d mb av fbs D hW).mono ?_; rintro e w' ⟨rfl, rfl⟩)
  refine bodyPost_ret (results_image rfl _ (b := w.heap.size) (v := .slice none 0 0) rfl (At.new w [.slice none 0 0] 36 |>.cell 0 rfl) (agg_image _) (size_image _)) rfl ?_
  exact ⟨rfl, (Ext.refl _ _).alloc _⟩

theorem findK_mem {α : Type} (k : α → Nm) {l : List α} (h : Rises k l) {a : α} (ha : a ∈ l) : findK k (k a) l = some a := by
  induction l with
  | nil => cases ha
  | cons y r ih =>
    have h2 := List.pairwise_cons.1 h
    unfold findK
    rw [List.find?_cons]
    rcases List.mem_cons.1 ha with rfl | ha
    · simp
    · have := before_ne (h2.1 a ha)
      have e : (k y == k a) = false := by simpa using this
      rw [e]
      exact ih h2.2 ha
/-- the disk as Crash leaves it -/
def Dk.shut (D : Dk) : Dk := { D with off := true, out := true }
theorem Dk.shut_wf {D : Dk} (h : D.Wf) : D.shut.Wf := ⟨h.rises, h.lim0, h.lim1, h.used, h.synced, h.names, h.count, h.kinds, fun _ => rfl⟩
theorem DAt.shut {w : World} {d mb : Nat} {av : Value} {fbs : List FB} {D : Dk} (h : DAt w d mb av fbs D) :
    DAt ((w.setCell ⟨d, 3, none⟩ (.bool true)).setCell ⟨d, 4, none⟩ (.bool true)) d mb av fbs D.shut ∧ Ext (One d) w ((w.setCell ⟨d, 3, none⟩ (.bool true)).setCell ⟨d, 4, none⟩ (.bool true)) := by
  have e : Ext (One d) w ((w.setCell ⟨d, 3, none⟩ (.bool true)).setCell ⟨d, 4, none⟩ (.bool true)) := ((Ext.refl (One d) w).setCell (p := ⟨d, 3, none⟩) (fun _ => rfl) _).setCell (p := ⟨d, 4, none⟩) (fun _ => rfl) _
  exact ⟨(h.rearm (D' := D.shut) (e.mono fun k _ hk => .inl hk) ((h.cells.set 3 (.bool true)).set 4 (.bool true)) (h.arms.ext e fun k hk ek => h.part.2.1 (by have ek : k = d := ek; rwa [ek] at hk)) (fun k hk => .inl hk) rfl (Dk.shut_wf h.wf)).1, e⟩
theorem take_set_last (b : List UInt8) (m : Nat) (h1 : 1 ≤ m) (h2 : m ≤ b.length) (c : UInt8) : (b.take m).set (m - 1) c = b.take (m - 1) ++ [c] := by
  obtain ⟨m, rfl⟩ : ∃ k, m = k + 1 := ⟨m - 1, by omega⟩
  rw [Nat.add_sub_cancel, List.take_succ_eq_append_getElem (by omega)]
  rw [List.set_append_right _ _ (by simp; exact Nat.min_le_left ..)]
  have e : min m b.length = m := by omega
  simp [e]
theorem xor_u8 (a b : UInt8) : bits .xor .u8 (a.toNat : Int) (b.toNat : Int) = ((a ^^^ b).toNat : Int) := by
  rw [Go.u8_xor_nat _ _ a.toNat_lt b.toNat_lt, UInt8.toNat_xor]
theorem image_at {D : Dk} {keep : List Int} {junk : UInt8} {i : Nat} {f : FileM} (hf : D.fs[i]? = some f) : (D.image keep junk)[i]? = some (f.nm, Dk.left f (Dk.kept keep i f) junk) := by
  unfold Dk.image
  rw [List.getElem?_mapIdx, hf]
  rfl
theorem image_len (D : Dk) (keep : List Int) (junk : UInt8) : (D.image keep junk).length = D.fs.length := by unfold Dk.image; simp
theorem pairs_snoc {img : List (Nm × List UInt8)} {l : List FI} {x : FI} (h : l.map FI.pair = img.take l.length) (hx : img[l.length]? = some x.pair) : (l ++ [x]).map FI.pair = img.take (l ++ [x]).length := by
  rw [List.map_append, h, List.length_append, List.length_singleton, List.take_add_one, hx]
  rfl
end Go.Proofs.Ytnppneilbkmnfaa
