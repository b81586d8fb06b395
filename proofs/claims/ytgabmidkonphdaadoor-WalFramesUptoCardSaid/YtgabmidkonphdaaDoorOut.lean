/- Contracts: slices.Clone of bytes, NewWriter, Out. Condition: what is copied fits into memory. -/
import Derived.Test.YtgabmidkonphdaaDoorWr
import Derived.WalkSpells
namespace Go.Proofs.YtgabmidkonphdaaDoor
open Go.RowKit

/-- append of bytes onto a slice without capacity -/
theorem wpList_append_fresh {ops : Array Oper} {rest : List Oper} {o : Oper} {a : Act} {Q : Exit → Act → World → Prop} {w : World} {ao : Option Addr} {m : List UInt8} {tx : TypeId} {vx : Value}
    (hsrc : Src Tryd.prog 1 tx vx m.length (bvs m) w) (hfit : Fits m.length) (hgd : o.guard = none) (s x : Operand)
    (ho : o.op = .call { callee := .builtin .append, args := #[s, x], argTypes := #[22, tx] }) (hs : a.eval s = .slice ao 0 0) (hx : a.eval x = vx)
    (h : ∀ ao cap w', m.length ≤ cap → cap ≤ maxLen → OwnB w' (.slice ao m.length cap) m → Step Nil w (inFoot (.slice ao m.length cap)) w' →
      wpList Tryd.prog ops Q rest (a.put o.dst (.slice ao m.length cap)) w') : wpList Tryd.prog ops Q (o :: rest) a w := by
  have hown : OwnB w (.slice ao 0 0) [] := Own.none _ _ _ _
  refine wpList_append_bytes hown hsrc (by simpa using hfit) hgd s x ho hs hx ?_
  intro ao2 cap w' h1 h2 h3 h4
  simp only [List.length_nil, Nat.zero_add, List.nil_append] at h1 h2 h3 h4 ⊢
  refine h ao2 cap w' h1 h2 h3 ⟨h4.1.mono fun k _ hk => ?_, fun k hk => (h4.2 k hk).imp (fun hk => ?_) id⟩ <;> cases ao <;> simp [inFoot, foot] at hk

set_option maxRecDepth 20000 in
theorem clone_any (w : World) (x : Value) (ys : List UInt8) (hx : Bytes w x ys) (hfit : Fits ys.length) :
    Calls Tryd.prog 21 #[x] w fun e w' => ∃ ao cap, ys.length ≤ cap ∧ cap ≤ maxLen ∧ e = .returned (.slice ao ys.length cap) ∧ OwnB w' (.slice ao ys.length cap) ys ∧ Step Nil w (inFoot (.slice ao ys.length cap)) w' := by
  obtain ⟨ao, cap, rfl, hcap, hmax, hc⟩ := hx.open
  cases ao with
  | none =>
    have hys : ys = [] := by
      rcases Classical.em (ys = []) with h | h
      · exact h
      · obtain ⟨b, off, h2, _⟩ := hc h
        cases h2
    subst hys
    have hr := Lib.run_eql_slice_nil (P := Tryd.prog) w 22 5 none 0 cap 0 0 Tryd.underlying22
    go_enter Tryd.func21, Tryd.ntmps21
    go_wp2
    go_ret
    exact ⟨none, 0, Nat.le_refl _, by simp [maxLen], rfl, Own.nil _ _ _, Ext.refl _ _, fun k hk => by simp [inFoot, foot] at hk⟩
  | some a =>
    have hr := Lib.run_eql_slice_nil (P := Tryd.prog) w 22 5 (some a) ys.length cap 0 0 Tryd.underlying22
    have hsrc := Reads.src (P := Tryd.prog) (hx.alloc (.cells #[] 5 (0, 0))) Tryd.underlying22 (bvs_one ys)
    clear hc
    go_enter Tryd.func21, Tryd.ntmps21
    go_wp2_with (at_builtin; refine wpList_append_fresh hsrc hfit rfl _ _ rfl rfl rfl ?_; intro ao2 cap2 w2 hc1 hc2 hown hst)
    go_ret
    exact ⟨ao2, cap2, hc1, hc2, rfl, hown, (step_alloc _ _ _).trans hst⟩

/-- NewWriter's writer -/
theorem newWriter_any (w : World) : Calls Tryd.prog 11 #[] w fun e w' => e = .returned (.pointer (some ⟨w.heap.size, 0, none⟩)) ∧ WAt w' w.heap.size (.slice none 0 0) [] 0 ∧ Step Nil w (PF w.heap.size (.slice none 0 0)) w' := by
  go_enter Tryd.func11, Tryd.ntmps11
  go_wp2
  go_ret
  refine ⟨rfl, ⟨At.new w _ _, Own.nil _ _ _, by simp [inFoot, foot]⟩, (Ext.refl _ _).alloc _, fun k hk => ?_⟩
  rcases hk with rfl | hk
  · exact .inr (Nat.le_refl _)
  · simp [inFoot, foot] at hk

theorem out_any (w : World) (p : Nat) (v : Value) (bs : List UInt8) (h : WAt w p v bs 0) (hfit : Fits bs.length) :
    Calls Tryd.prog 14 #[.pointer (some ⟨p, 0, none⟩)] w fun e w' => ∃ ao cap, bs.length ≤ cap ∧ cap ≤ maxLen ∧ e = .returned (.tuple #[.slice ao bs.length cap, .int .i64 0]) ∧ OwnB w' (.slice ao bs.length cap) bs ∧ Step Nil w (inFoot (.slice ao bs.length cap)) w' := by
  have c0 := h.cells.cell 0 rfl
  have c1 := h.cells.cell 1 rfl
  have c2 := h.cells.cell 2 rfl
  go_enter Tryd.func14, Tryd.ntmps14
  go_wp2_with (go_at_call 21; refine (clone_any w v bs h.own.bytes hfit).mono ?_; rintro e w' ⟨ao, cap, h1, h2, rfl, h3, h4⟩)
  go_ret2
  exact ⟨ao, cap, h1, h2, rfl, h3, h4⟩

theorem out_err (w : World) (p : Nat) (v : Value) (bs : List UInt8) (err : Int) (he : err ≠ 0) (h : WAt w p v bs err) :
    Calls Tryd.prog 14 #[.pointer (some ⟨p, 0, none⟩)] w fun e w' => e = .returned (.tuple #[.slice none 0 0, .int .i64 err]) ∧ ∃ n, w' = w.drewN n := by
  have c0 := h.cells.cell 0 rfl
  have c1 := h.cells.cell 1 rfl
  have c2 := h.cells.cell 2 rfl
  have hb : (err != 0) = true := by rw [bne_iff_ne]; exact he
  have HE := Lib.hid he
  clear he
  go_enter Tryd.func14, Tryd.ntmps14
  go_wp2
  go_quiet (fail)
  go_wp2
  go_ret2
  exact ⟨rfl, _, rfl⟩
end Go.Proofs.YtgabmidkonphdaaDoor
