/- Contracts: the closure that looks for a call's trouble, slices.IndexFunc and slices.DeleteFunc over it. Condition: the disk stands, the boxes too. -/
import Derived.Test.YtnppneilbkmnfaaDa
import Derived.Test.YtnppneilbkmnfaaOpn
import Derived.Laws.IdiomCopy
namespace Go.Proofs.Ytnppneilbkmnfaa
open Go.RowKit

/-- a trouble as a value -/
def armV (a : ArmM) : Value := .agg #[.int .i64 a.call, .int .i64 a.tat, .int .i64 a.kind, .bool a.done]
/-- the box of a pointer to the disk; the cell of its calls -/
def Box (w : World) (p d : Nat) (n : Nat) : Prop := w.cell? ⟨p, 0, none⟩ = some (.pointer (some ⟨d, 0, none⟩)) ∧ w.cell? ⟨d, 5, none⟩ = some (.int .i64 n)

theorem pick_off (w : World) (a : ArmM) (p t d n : Nat) (hb : Box w p d n) (hp : p < w.heap.size) (hd : d < w.heap.size) (hne : a.call ≠ n) :
    Calls Try.prog 91 #[armV a, .pointer (some ⟨p, 0, none⟩), .pointer (some ⟨t, 0, none⟩)] w fun e w' => e = .returned (.bool false) ∧ Ext Nil w w' := by
  obtain ⟨b0, b5⟩ := hb
  have hne2 : ((a.call : Int) != (n : Int)) = true := by rw [bne_iff_ne]; omega
  unfold armV
  have HN := Lib.hid hne
  clear hne
  go_enter Try.func91, Try.ntmps91
  go_wp2_with fail
  go_quiet (fail)
  go_wp2
  go_ret
  exact ⟨rfl, ((Ext.refl _ _).alloc _).drewN _⟩

/-- a trouble found: kept in the box if it is the first -/
theorem pick_on (w : World) (a : ArmM) (p t d n : Nat) (hb : Box w p d n) (hp : p < w.heap.size) (hd : d < w.heap.size) (x k : Int) (b : Bool) (hT : At w t 29 [.int .i64 x, .int .i64 k, .bool b]) (he : a.call = n) :
    Calls Try.prog 91 #[armV a, .pointer (some ⟨p, 0, none⟩), .pointer (some ⟨t, 0, none⟩)] w fun e w' => e = .returned (.bool true) ∧
      At w' t 29 (if k = 0 then [.int .i64 a.tat, .int .i64 a.kind, .bool a.done] else [.int .i64 x, .int .i64 k, .bool b]) ∧ Ext (One t) w w' := by
  obtain ⟨b0, b5⟩ := hb
  subst he
  have hq : ((a.call : Int) != (a.call : Int)) = false := by simp
  have ht := hT.lt
  have t1 := hT.cell 1 rfl
  have t0 := hT.cell 0 rfl
  have t2 := hT.cell 2 rfl
  have f0 := hT.frozen 0
  have f1 := hT.frozen 1
  have f2 := hT.frozen 2
  unfold armV
  by_cases hk : k = 0
  · subst hk
    go_enter Try.func91, Try.ntmps91
    go_wp2_with fail
    go_quiet (fail)
    go_wp2
    go_ret
    have h0 : At ((w.alloc (.cells #[.int .i64 a.call, .int .i64 a.tat, .int .i64 a.kind, .bool a.done] 108 (0, 0))).drewN nq) t 29 [.int .i64 x, .int .i64 0, .bool b] := hT.ext (F := Nil) (((Ext.refl _ _).alloc _).drewN _) fun h => h
    have e0 : Ext (One t) w ((w.alloc (.cells #[.int .i64 a.call, .int .i64 a.tat, .int .i64 a.kind, .bool a.done] 108 (0, 0))).drewN nq) := ((Ext.refl _ _).alloc _).drewN _
    exact ⟨rfl, ((h0.set 0 (.int .i64 a.tat)).set 1 (.int .i64 a.kind)).set 2 (.bool a.done), ((e0.setCell (p := ⟨t, 0, none⟩) (fun _ => (rfl : t = t)) _).setCell (p := ⟨t, 1, none⟩) (fun _ => (rfl : t = t)) _).setCell (p := ⟨t, 2, none⟩) (fun _ => (rfl : t = t)) _⟩
  · have hk2 : (k == 0) = false := by rw [beq_eq_false_iff_ne]; exact hk
    rw [if_neg hk]
    have HK := Lib.hid hk
    clear hk
    go_enter Try.func91, Try.ntmps91
    go_wp2_with fail
    go_quiet (fail)
    go_wp2
    go_ret
    exact ⟨rfl, hT.ext (F := Nil) (((Ext.refl _ _).alloc _).drewN _) fun h => h, ((Ext.refl _ _).alloc _).drewN _⟩

theorem armCells_length (l : List ArmM) : (l.flatMap armCells).length = l.length * 4 := by
  induction l with
  | nil => rfl
  | cons a l ih => simp only [List.flatMap_cons, List.length_append, ih, armCells, List.length_cons, List.length_nil]; omega
theorem armCells_at (l : List ArmM) (k : Nat) (hk : k < l.length) (j : Nat) (hj : j < 4) : (l.flatMap armCells)[k * 4 + j]? = (armCells l[k])[j]? := by
  induction l generalizing k with
  | nil => simp at hk
  | cons a l ih =>
    cases k with
    | zero =>
      rw [List.flatMap_cons, Nat.zero_mul, Nat.zero_add, List.getElem?_append_left (by simp [armCells]; omega)]
      rfl
    | succ k =>
      rw [List.flatMap_cons, List.getElem?_append_right (by simp [armCells]; omega)]
      have e : (k + 1) * 4 + j - (armCells a).length = k * 4 + j := by simp only [armCells, List.length_cons, List.length_nil]; omega
      rw [e, ih k (by simpa using hk)]
      rfl
/-- a row of troubles, opened -/
theorem Reads.arms {w : World} {v : Value} {l : List ArmM} (h : Reads w 4 v l.length (l.flatMap armCells)) : ∃ ao cap, v = .slice ao l.length cap ∧ l.length ≤ cap ∧ cap ≤ maxLen ∧
    (l ≠ [] → ∃ b off, ao = some ⟨b, off, none⟩ ∧ ∀ k (hk : k < l.length), w.cell? ⟨b, off + k * 4, none⟩ = some (.int .i64 l[k].call) ∧ w.cell? ⟨b, off + k * 4 + 1, none⟩ = some (.int .i64 l[k].tat) ∧ w.cell? ⟨b, off + k * 4 + 2, none⟩ = some (.int .i64 l[k].kind) ∧ w.cell? ⟨b, off + k * 4 + 3, none⟩ = some (.bool l[k].done)) := by
  obtain ⟨_, ao, cap, rfl, h2, h3, h4⟩ := h
  refine ⟨ao, cap, rfl, h2, h3, fun hne => ?_⟩
  have hl : l.flatMap armCells ≠ [] := by
    intro e
    have h1 := congrArg List.length e
    rw [armCells_length] at h1
    have h2 := List.length_pos_iff.2 hne
    simp only [List.length_nil] at h1
    omega
  obtain ⟨b, off, rfl, hc⟩ := h4 hl
  refine ⟨b, off, rfl, fun k hk => ⟨?_, ?_, ?_, ?_⟩⟩
  · have := hc (k * 4 + 0) _ (armCells_at l k hk 0 (by omega))
    simpa using this
  · have := hc (k * 4 + 1) _ (armCells_at l k hk 1 (by omega))
    rwa [← Nat.add_assoc] at this
  · have := hc (k * 4 + 2) _ (armCells_at l k hk 2 (by omega))
    rwa [← Nat.add_assoc] at this
  · have := hc (k * 4 + 3) _ (armCells_at l k hk 3 (by omega))
    rwa [← Nat.add_assoc] at this

def pickV (p t : Nat) : Value := .func (.func 91) #[] #[.pointer (some ⟨p, 0, none⟩), .pointer (some ⟨t, 0, none⟩)]
theorem Box.ext {F : Nat → Prop} {w w' : World} {p d n : Nat} (h : Box w p d n) (e : Ext F w w') (h1 : ¬ F p) (h2 : ¬ F d) : Box w' p d n := ⟨e.cell h.1 h1, e.cell h.2 h2⟩
theorem Box.lt {w : World} {p d n : Nat} (h : Box w p d n) : p < w.heap.size ∧ d < w.heap.size := ⟨(cell_spot h.1).2, (cell_spot h.2).2⟩

set_option maxRecDepth 20000 in
theorem index_none (w : World) (v : Value) (l : List ArmM) (hv : Reads w 4 v l.length (l.flatMap armCells)) (p t d n : Nat) (hb : Box w p d n) (hn : ∀ a ∈ l, a.call ≠ n) :
    Calls Try.prog 102 #[v, pickV p t] w fun e w' => e = .returned (.int .i64 (-1)) ∧ Ext Nil w w' := by
  obtain ⟨ao, cap, rfl, hcap, hmax, hc⟩ := hv.arms
  unfold maxLen at hmax
  unfold pickV
  go_enter Try.func102, Try.ntmps102
  go_wp2_with fail
  go_loopw [8] (fun i wr => ∃ k : Nat, k ≤ l.length ∧ i = .int .i64 k ∧ Ext Nil w wr) (fun i _ => l.length - (intOf i).toNat)
  case atStart => exact ⟨0, Nat.zero_le _, rfl, Ext.refl _ _⟩
  case round =>
    obtain ⟨k, hk, rfl, hS⟩ := hrel
    by_cases hlt : k < l.length
    · obtain ⟨b, off, rfl, hcl⟩ := hc (by intro e; subst e; simp at hlt)
      obtain ⟨g0, g1, g2, g3⟩ := hcl k hlt
      have g0 := hS.cell g0 fun h => h
      have g1 := hS.cell g1 fun h => h
      have g2 := hS.cell g2 fun h => h
      have g3 := hS.cell g3 fun h => h
      have hne := Lib.hid (hn l[k] (List.getElem_mem hlt))
      have hbr := hb.ext hS (fun h => h) fun h => h
      have hbl := hbr.lt
      have hC := pick_off wr l[k] p t d n hbr hbl.1 hbl.2 hne.out
      unfold armV at hC
      generalize l[k] = a at *
      have HC := Lib.hid hC
      clear hcl hc hn hC
      go_wp2_with fail
      refine HC.out.mono ?_
      rintro e w1 ⟨rfl, e1⟩
      go_wp2_with fail
      exact ⟨⟨k + 1, by omega, by go_num, hS.same e1⟩, by simp [intOf]; omega⟩
    · go_wp2_with fail
      go_ret
      exact ⟨rfl, hS⟩

def zeroT : List Value := [.int .i64 0, .int .i64 0, .bool false]
def trouble (a : ArmM) : List Value := [.int .i64 a.tat, .int .i64 a.kind, .bool a.done]

set_option maxRecDepth 20000 in
theorem index_some (w : World) (v : Value) (A B : List ArmM) (a : ArmM) (hv : Reads w 4 v (A ++ a :: B).length ((A ++ a :: B).flatMap armCells)) (p t d n : Nat) (hb : Box w p d n) (hT : At w t 29 zeroT) (hA : ∀ x ∈ A, x.call ≠ n) (ha : a.call = n)  :
    Calls Try.prog 102 #[v, pickV p t] w fun e w' => e = .returned (.int .i64 A.length) ∧ At w' t 29 (trouble a) ∧ Ext (One t) w w' := by
  obtain ⟨ao, cap, rfl, hcap, hmax, hc⟩ := hv.arms
  unfold maxLen at hmax
  obtain ⟨b, off, rfl, hcl⟩ := hc (by simp)
  clear hc
  have hlen : (A ++ a :: B).length = A.length + (B.length + 1) := by simp
  generalize hl : A ++ a :: B = l at *
  have HL := Lib.hid hl
  have HLen := Lib.hid hlen
  have hlen2 : A.length < l.length := by omega
  clear hl hlen
  unfold pickV
  go_enter Try.func102, Try.ntmps102
  go_wp2_with fail
  go_loopw [8] (fun i wr => ∃ k : Nat, k ≤ A.length ∧ i = .int .i64 k ∧ Ext Nil w wr) (fun i _ => l.length - (intOf i).toNat)
  case atStart => exact ⟨0, Nat.zero_le _, rfl, Ext.refl _ _⟩
  case round =>
    obtain ⟨k, hk, rfl, hS⟩ := hrel
    have hlt : k < l.length := by omega
    obtain ⟨g0, g1, g2, g3⟩ := hcl k hlt
    have g0 := hS.cell g0 fun h => h
    have g1 := hS.cell g1 fun h => h
    have g2 := hS.cell g2 fun h => h
    have g3 := hS.cell g3 fun h => h
    have hbr := hb.ext hS (fun h => h) fun h => h
    have hbl := hbr.lt
    by_cases hkA : k < A.length
    · have hlk : l[k] = A[k] := by simp only [← HL.out]; rw [List.getElem_append_left hkA]
      have hne := Lib.hid (hA l[k] (by rw [hlk]; exact List.getElem_mem hkA))
      have hC := pick_off wr l[k] p t d n hbr hbl.1 hbl.2 hne.out
      unfold armV at hC
      clear hlk
      generalize l[k] = x at *
      have HC := Lib.hid hC
      clear hcl hC hA
      go_wp2_with fail
      refine HC.out.mono ?_
      rintro e w1 ⟨rfl, e1⟩
      go_wp2_with fail
      exact ⟨⟨k + 1, by omega, by go_num, hS.same e1⟩, by simp [intOf]; omega⟩
    · obtain rfl : k = A.length := by omega
      have hlk : l[A.length] = a := by simp only [← HL.out]; simp
      rw [hlk] at g0 g1 g2 g3
      have hC := pick_on wr a p t d n hbr hbl.1 hbl.2 0 0 false (hT.ext hS fun h => h) ha
      unfold armV at hC
      rw [if_pos rfl] at hC
      have HC := Lib.hid hC
      have HA := Lib.hid ha
      clear hcl hC hA hlk ha
      go_wp2_with fail
      refine HC.out.mono ?_
      rintro e w1 ⟨rfl, h1, e1⟩
      go_wp2_with fail
      go_ret
      exact ⟨rfl, h1, (hS.mono fun _ _ h => h.elim).same e1⟩
end Go.Proofs.Ytnppneilbkmnfaa
