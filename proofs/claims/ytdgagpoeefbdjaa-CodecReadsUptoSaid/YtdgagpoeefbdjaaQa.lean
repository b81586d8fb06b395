/- Contracts of the document's reader (assentref01.Read): take, number, Byte, Bool, U32, U64. Condition: the reader is one that New made. -/
import Derived.Test.YtdgagpoeefbdjaaRa
import Derived.Test.YtdgagpoeefbdjaaBook
import Derived.IntWalk
namespace Go.Proofs.Ytdgagpoeefbdjaa
open Go.RowKit

/-- At q stands a reader of the document: its bytes (in the slice v), its place, its error. -/
structure QAt (w : World) (q : Nat) (v : Value) (bs : List UInt8) (at_ : Nat) (err : Int) : Prop where
  cells : At w q 170 [v, .int .i64 at_, .int .i64 err]
  row : Bytes w v bs
  apart : ¬ inFoot v q
  here : at_ ≤ bs.length
  fits : Fits bs.length
  lt : ∀ k, inFoot v k → k < w.heap.size

section
variable {w w' : World} {q : Nat} {v : Value} {bs : List UInt8} {a : Nat} {err : Int}
theorem QAt.ext {F : Nat → Prop} (h : QAt w q v bs a err) (e : Ext F w w') (hf : ∀ k, PF q v k → ¬ F k) : QAt w' q v bs a err :=
  ⟨h.cells.ext e (hf q (.inl rfl)), h.row.ext e fun k hk => hf k (.inr hk), h.apart, h.here, h.fits, fun k hk => Nat.lt_of_lt_of_le (h.lt k hk) e.size⟩
theorem QAt.nil (h : QAt w q v bs a err) (e : Ext Nil w w') : QAt w' q v bs a err := h.ext e fun _ _ h => h
theorem QAt.drewN (h : QAt w q v bs a err) (n : Nat) : QAt (w.drewN n) q v bs a err := h.nil ((Ext.refl _ _).drewN n)
theorem QAt.set (h : QAt w q v bs a err) (a' : Nat) (ha : a' ≤ bs.length) : QAt (w.setCell ⟨q, 1, none⟩ (.int .i64 a')) q v bs a' err :=
  ⟨h.cells.set 1 _, h.row.ext (F := One q) ((Ext.refl (One q) w).setCell (p := ⟨q, 1, none⟩) (fun _ => (rfl : q = q)) _) (fun k hk e => h.apart (by have e : k = q := e; rwa [e] at hk)), h.apart, ha, h.fits, by simpa [World.setCell] using h.lt⟩
theorem QAt.setErr (h : QAt w q v bs a err) (e' : Int) : QAt (w.setCell ⟨q, 2, none⟩ (.int .i64 e')) q v bs a e' :=
  ⟨h.cells.set 2 _, h.row.ext (F := One q) ((Ext.refl (One q) w).setCell (p := ⟨q, 2, none⟩) (fun _ => (rfl : q = q)) _) (fun k hk e => h.apart (by have e : k = q := e; rwa [e] at hk)), h.apart, h.here, h.fits, by simpa [World.setCell] using h.lt⟩
theorem QAt.ltF (h : QAt w q v bs a err) : ∀ k, PF q v k → k < w.heap.size := fun k hk => by
  rcases hk with rfl | hk
  · exact h.cells.lt
  · exact h.lt k hk
end

theorem ext_set (w : World) (q i : Nat) (u : Value) : Ext (One q) w (w.setCell ⟨q, i, none⟩ u) := (Ext.refl (One q) w).setCell (p := ⟨q, i, none⟩) (fun _ => (rfl : q = q)) u

theorem qtake_off (w : World) (q : Nat) (v : Value) (bs : List UInt8) (a : Nat) (err : Int) (h : QAt w q v bs a err) (he : err ≠ 0) (n : Int) :
    Calls Try.prog 186 #[.pointer (some ⟨q, 0, none⟩), .int .i64 n] w fun e w' => e = .returned (.tuple #[.slice none 0 0, .bool false]) ∧ w = w' := by
  have c2 := h.cells.cell 2 rfl
  have hb : (err != 0) = true := by rw [bne_iff_ne]; exact he
  clear he
  go_enter Try.func186, Try.ntmps186
  go_wp2
  go_ret2
  exact ⟨rfl, rfl⟩

theorem qtake_cut (w : World) (q : Nat) (v : Value) (bs : List UInt8) (a : Nat) (h : QAt w q v bs a 0) (n : Int) (hm : n ≤ 9223372036854775807) (hc : (bs.length : Int) - a < n) :
    Calls Try.prog 186 #[.pointer (some ⟨q, 0, none⟩), .int .i64 n] w fun e w' => e = .returned (.tuple #[.slice none 0 0, .bool false]) ∧ QAt w' q v bs a 10 ∧ Ext (One q) w w' := by
  obtain ⟨ao, cap, rfl, hcap, hmax, -⟩ := h.row.open
  have c0 := h.cells.cell 0 rfl
  have c1 := h.cells.cell 1 rfl
  have c2 := h.cells.cell 2 rfl
  have f2 := h.cells.frozen 2
  have hh := h.here
  have hf : bs.length ≤ 1099511627776 := h.fits
  go_enter Try.func186, Try.ntmps186
  go_wp2
  go_quiet (fail)
  go_wp2
  go_ret2
  exact ⟨rfl, (h.drewN _).setErr 10, ((Ext.refl _ _).drewN _).trans (ext_set _ _ _ _) fun _ _ h => h⟩

set_option maxHeartbeats 1000000 in
set_option maxRecDepth 20000 in
theorem qtake_ok (w : World) (q : Nat) (v : Value) (bs : List UInt8) (a : Nat) (h : QAt w q v bs a 0) (n : Nat) (hc : a + n ≤ bs.length) :
    Calls Try.prog 186 #[.pointer (some ⟨q, 0, none⟩), .int .i64 n] w fun e w' => ∃ ao cap, n ≤ cap ∧ cap ≤ maxLen ∧ e = .returned (.tuple #[.slice ao n cap, .bool true]) ∧ OwnB w' (.slice ao n cap) ((bs.drop a).take n) ∧ (∀ k, inFoot (.slice ao n cap) k → w.heap.size ≤ k) ∧ QAt w' q v bs (a + n) 0 ∧ Ext (One q) w w' := by
  obtain ⟨ao, cap, rfl, hcap, hmax, -⟩ := h.row.open
  have c0 := h.cells.cell 0 rfl
  have c1 := h.cells.cell 1 rfl
  have c2 := h.cells.cell 2 rfl
  have f1 := h.cells.frozen 1
  have hh := h.here
  have hf : bs.length ≤ 1099511627776 := h.fits
  have hpl : ((bs.drop a).take n).length = n := by simp; omega
  unfold maxLen at hmax
  go_enter Try.func186, Try.ntmps186
  go_wp2
  go_quiet (fail)
  go_wp2_with fail
  have hW := h.drewN nq
  have hX0 : Ext Nil w (w.drewN nq) := (Ext.refl _ _).drewN nq
  clear c0 c1 c2 f1 h
  generalize w.drewN nq = W at *
  have c0 : W.drew.cell? ⟨q, 0, none⟩ = some (.slice ao bs.length cap) := hW.cells.cell 0 rfl
  have c1 : W.drew.cell? ⟨q, 1, none⟩ = some (.int .i64 a) := hW.cells.cell 1 rfl
  have hl := hW.cells.lt
  generalize hP : (bs.drop a).take n = P at hpl ⊢
  have hfP : Fits P.length := by unfold Fits; omega
  by_cases hca : cap = a
  · have hsub := ((hW.row.ext (F := Nil) ((Ext.refl _ _).drew.alloc (.cells #[] 5 (0, 0))) fun _ _ h => h).sub hc ao (.inl hca)).1
    rw [hP, show cap - a = 0 from by omega] at hsub
    have h0 : (0 : Int) ≤ (a : Int) := by omega
    have h0' : (0 : Int) ≤ (a : Int) + (n : Int) := by omega
    have hlow : (a : Int) ≤ (a : Int) + (n : Int) := by omega
    have hhigh : (a : Int) + (n : Int) ≤ (cap : Int) := by omega
    have htn : ((a : Int) + (n : Int)).toNat = a + n := by omega
    have hsb : a + n - a = n := by omega
    have hca' : (cap : Int) = (a : Int) := by omega
    have hhigh2 : (a : Int) + (n : Int) ≤ (a : Int) := by omega
    have hcp : cap - a = 0 := by omega
    have hwr : IntKind.i64.wrap ((a : Int) + (n : Int)) = (a : Int) + (n : Int) := IntWalk.i64_in _ (by omega)
    go_region_held3 (fun w' => w'.cell? ⟨q, 0, none⟩ = some (.slice ao bs.length cap) ∧ w'.cell? ⟨q, 1, none⟩ = some (.int .i64 a))
      (first
        | exact ⟨c0, c1⟩
        | exact ⟨((Ext.refl Nil W.drew).alloc _).cell c0 fun h => h, ((Ext.refl Nil W.drew).alloc _).cell c1 fun h => h⟩
        | exact ⟨(q4.1.cell (((Ext.refl Nil W.drew).alloc _).cell c0 fun h => h) fun h => h), (q4.1.cell (((Ext.refl Nil W.drew).alloc _).cell c1 fun h => h) fun h => h)⟩)
      (first
        | (refine step_append_bytes (Reads.src (P := Try.prog) hsub Try.underlying29 (bvs_one P)) hfP rfl _ _ rfl rfl rfl ?_; rw [hpl]; intro ao2 cap2 w2 q1 q2 q3 q4))
    rename_i hHeld
    clear hHeld hwr hlow hhigh h0 h0' htn hsb
    have hE2 : Ext Nil W w2 := ((Ext.refl Nil W).alloc (.cells #[] 5 (0, 0))).drew.same q4.1
    have hQ2 := hW.nil hE2
    have e1 := hQ2.cells.cell 1 rfl
    have f1 := hQ2.cells.frozen 1
    have hset := hQ2.set (a + n) hc
    rw [Int.natCast_add] at hset
    have hown : OwnB (w2.setCell ⟨q, 1, none⟩ (.int .i64 ((a : Int) + (n : Int)))) (.slice ao2 n cap2) P := q3.ext (F := One q) (ext_set _ _ _ _) fun k hk e => by
      have e : k = q := e
      subst e
      have := (q4.2 k hk).resolve_left fun h => h
      have e2 : (W.alloc (.cells #[] 5 (0, 0))).drew.heap.size = W.heap.size + 1 := by simp [World.drew]
      omega
    have hfr : ∀ k, inFoot (.slice ao2 n cap2) k → w.heap.size ≤ k := fun k hk => by
      have := (q4.2 k hk).resolve_left fun h => h
      have e2 : (W.alloc (.cells #[] 5 (0, 0))).drew.heap.size = W.heap.size + 1 := by simp [World.drew]
      have := hX0.size
      omega
    have hXX : Ext (One q) w (w2.setCell ⟨q, 1, none⟩ (.int .i64 ((a : Int) + (n : Int)))) := ((hX0.same hE2).mono fun _ _ h => h.elim).same (ext_set _ _ _ _)
    clear q3 q4 hE2 hQ2
    go_wp2_with fail
    go_ret2
    rw [← hP] at hown
    exact ⟨ao2, cap2, q1, q2, rfl, hown, hfr, hset, hXX⟩
  · have hsub := ((hW.row.ext (F := Nil) ((Ext.refl _ _).drew.alloc (.cells #[] 5 (0, 0))) fun _ _ h => h).sub hc (ao.map (fun x => x.add a)) (.inr rfl)).1
    rw [hP] at hsub
    have hlow : (a : Int) ≤ (a : Int) + (n : Int) := by omega
    have hhigh : (a : Int) + (n : Int) ≤ (cap : Int) := by omega
    have hca' : ¬ (cap : Int) = (a : Int) := by omega
    have h0 : (0 : Int) ≤ (a : Int) := by omega
    have h0' : (0 : Int) ≤ (a : Int) + (n : Int) := by omega
    have htn : ((a : Int) + (n : Int)).toNat = a + n := by omega
    have hsb : a + n - a = n := by omega
    have hcp : cap - a ≠ 0 := by omega
    have hwr : IntKind.i64.wrap ((a : Int) + (n : Int)) = (a : Int) + (n : Int) := IntWalk.i64_in _ (by omega)
    go_region_held3 (fun w' => w'.cell? ⟨q, 0, none⟩ = some (.slice ao bs.length cap) ∧ w'.cell? ⟨q, 1, none⟩ = some (.int .i64 a))
      (first
        | exact ⟨c0, c1⟩
        | exact ⟨((Ext.refl Nil W.drew).alloc _).cell c0 fun h => h, ((Ext.refl Nil W.drew).alloc _).cell c1 fun h => h⟩
        | exact ⟨(q4.1.cell (((Ext.refl Nil W.drew).alloc _).cell c0 fun h => h) fun h => h), (q4.1.cell (((Ext.refl Nil W.drew).alloc _).cell c1 fun h => h) fun h => h)⟩)
      (first
        | (refine step_append_bytes (Reads.src (P := Try.prog) hsub Try.underlying29 (bvs_one P)) hfP rfl _ _ rfl rfl rfl ?_; rw [hpl]; intro ao2 cap2 w2 q1 q2 q3 q4))
    rename_i hHeld
    clear hHeld hwr hlow hhigh h0 h0' htn hsb
    have hE2 : Ext Nil W w2 := ((Ext.refl Nil W).alloc (.cells #[] 5 (0, 0))).drew.same q4.1
    have hQ2 := hW.nil hE2
    have e1 := hQ2.cells.cell 1 rfl
    have f1 := hQ2.cells.frozen 1
    have hset := hQ2.set (a + n) hc
    rw [Int.natCast_add] at hset
    have hown : OwnB (w2.setCell ⟨q, 1, none⟩ (.int .i64 ((a : Int) + (n : Int)))) (.slice ao2 n cap2) P := q3.ext (F := One q) (ext_set _ _ _ _) fun k hk e => by
      have e : k = q := e
      subst e
      have := (q4.2 k hk).resolve_left fun h => h
      have e2 : (W.alloc (.cells #[] 5 (0, 0))).drew.heap.size = W.heap.size + 1 := by simp [World.drew]
      omega
    have hfr : ∀ k, inFoot (.slice ao2 n cap2) k → w.heap.size ≤ k := fun k hk => by
      have := (q4.2 k hk).resolve_left fun h => h
      have e2 : (W.alloc (.cells #[] 5 (0, 0))).drew.heap.size = W.heap.size + 1 := by simp [World.drew]
      have := hX0.size
      omega
    have hXX : Ext (One q) w (w2.setCell ⟨q, 1, none⟩ (.int .i64 ((a : Int) + (n : Int)))) := ((hX0.same hE2).mono fun _ _ h => h.elim).same (ext_set _ _ _ _)
    clear q3 q4 hE2 hQ2
    go_wp2_with fail
    go_ret2
    rw [← hP] at hown
    exact ⟨ao2, cap2, q1, q2, rfl, hown, hfr, hset, hXX⟩
end Go.Proofs.Ytdgagpoeefbdjaa
