/- Contracts: slices.Clone of bytes, NewWriter, Out. Condition: what is copied fits into memory. -/
import Derived.Test.YtnppneilbkmnfaaWr
import Derived.WalkSpells
namespace Go.Proofs.Ytnppneilbkmnfaa
open Go.RowKit

/-- append of bytes onto a slice without capacity -/
theorem wpList_append_fresh {ops : Array Oper} {rest : List Oper} {o : Oper} {a : Act} {Q : Exit → Act → World → Prop} {w : World} {ao : Option Addr} {m : List UInt8} {tx : TypeId} {vx : Value}
    (hsrc : Src Try.prog 1 tx vx m.length (bvs m) w) (hfit : Fits m.length) (hgd : o.guard = none) (s x : Operand)
    (ho : o.op = .call { callee := .builtin .append, args := #[s, x], argTypes := #[31, tx] }) (hs : a.eval s = .slice ao 0 0) (hx : a.eval x = vx)
    (h : ∀ ao cap w', m.length ≤ cap → cap ≤ maxLen → OwnB w' (.slice ao m.length cap) m → Step Nil w (inFoot (.slice ao m.length cap)) w' →
      wpList Try.prog ops Q rest (a.put o.dst (.slice ao m.length cap)) w') : wpList Try.prog ops Q (o :: rest) a w := by
  have hown : OwnB w (.slice ao 0 0) [] := Own.none _ _ _ _
  refine wpList_append_bytes hown hsrc (by simpa using hfit) hgd s x ho hs hx ?_
  intro ao2 cap w' h1 h2 h3 h4
  simp only [List.length_nil, Nat.zero_add, List.nil_append] at h1 h2 h3 h4 ⊢
  refine h ao2 cap w' h1 h2 h3 ⟨h4.1.mono fun k _ hk => ?_, fun k hk => (h4.2 k hk).imp (fun hk => ?_) id⟩ <;> cases ao <;> simp [inFoot, foot] at hk

set_option maxRecDepth 20000 in
theorem clone_any (w : World) (x : Value) (ys : List UInt8) (hx : Bytes w x ys) (hfit : Fits ys.length) :
    Calls Try.prog 63 #[x] w fun e w' => ∃ ao cap, ys.length ≤ cap ∧ cap ≤ maxLen ∧ e = .returned (.slice ao ys.length cap) ∧ OwnB w' (.slice ao ys.length cap) ys ∧ Step Nil w (inFoot (.slice ao ys.length cap)) w' := by
  obtain ⟨ao, cap, rfl, hcap, hmax, hc⟩ := hx.open
  cases ao with
  | none =>
    have hys : ys = [] := by
      rcases Classical.em (ys = []) with h | h
      · exact h
      · obtain ⟨b, off, h2, _⟩ := hc h
        cases h2
    subst hys
    have hr := Lib.run_eql_slice_nil (P := Try.prog) w 31 5 none 0 cap 0 0 Try.underlying31
    go_enter Try.func63, Try.ntmps63
    go_wp2
    go_ret
    exact ⟨none, 0, Nat.le_refl _, by simp [maxLen], rfl, Own.nil _ _ _, Ext.refl _ _, fun k hk => by simp [inFoot, foot] at hk⟩
  | some a =>
    have hr := Lib.run_eql_slice_nil (P := Try.prog) w 31 5 (some a) ys.length cap 0 0 Try.underlying31
    have hsrc := Reads.src (P := Try.prog) (hx.alloc (.cells #[] 5 (0, 0))) Try.underlying31 (bvs_one ys)
    clear hc
    go_enter Try.func63, Try.ntmps63
    go_wp2_with (at_builtin; refine wpList_append_fresh hsrc hfit rfl _ _ rfl rfl rfl ?_; intro ao2 cap2 w2 hc1 hc2 hown hst)
    go_ret
    exact ⟨ao2, cap2, hc1, hc2, rfl, hown, (step_alloc _ _ _).trans hst⟩

end Go.Proofs.Ytnppneilbkmnfaa
