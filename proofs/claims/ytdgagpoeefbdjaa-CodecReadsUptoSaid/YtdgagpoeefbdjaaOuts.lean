/- The contract of the law's 'outs': Out of the program's writer, asked for twice, and of the document's; the answers are noted. Condition: it fits into memory. -/
import Derived.Test.YtdgagpoeefbdjaaNote
import Derived.Test.YtdgagpoeefbdjaaPaper
namespace Go.Proofs.Ytdgagpoeefbdjaa
open Go.RowKit

theorem same_out {w : World} {x y : Value} {l : List UInt8} (hx : Bytes w x l) (hy : Bytes w y l) : Calls Try.prog 38 #[x, y] w fun e w' => e = .returned (.bool true) ∧ ∃ n, w' = w.drewN n := by
  have h := same_any l l w x y hx hy
  rwa [decide_eq_true rfl] at h

/-- Out's answer, with or without an error -/
theorem out_both (w : World) (p : Nat) (v : Value) (bs : List UInt8) (err : Int) (h : WAt w p v bs err) (hfit : Fits bs.length) :
    Calls Try.prog 55 #[.pointer (some ⟨p, 0, none⟩)] w fun e w' => ∃ ao cap, e = .returned (.tuple #[.slice ao (if err = 0 then bs else []).length cap, .int .i64 err]) ∧ OwnB w' (.slice ao (if err = 0 then bs else []).length cap) (if err = 0 then bs else []) ∧ Step Nil w (inFoot (.slice ao (if err = 0 then bs else []).length cap)) w' := by
  by_cases he : err = 0
  · subst he
    refine (out_any w p v bs h hfit).mono ?_
    rintro e w' ⟨ao, cap, -, -, rfl, h1, h2⟩
    exact ⟨ao, cap, rfl, h1, h2⟩
  · rw [if_neg he]
    refine (out_err w p v bs err he h).mono ?_
    rintro e w' ⟨rfl, n, rfl⟩
    exact ⟨none, 0, rfl, Own.nil _ _ _, (Ext.refl _ _).drewN n, fun k hk => by simp [inFoot, foot] at hk⟩
theorem refOut_both (w : World) (p : Nat) (v : Value) (bs : List UInt8) (err : Int) (h : RWAt w p v bs err) (hfit : Fits bs.length) :
    Calls Try.prog 112 #[.pointer (some ⟨p, 0, none⟩)] w fun e w' => ∃ ao cap, e = .returned (.tuple #[.slice ao (if err = 0 then bs else []).length cap, .int .i64 err]) ∧ OwnB w' (.slice ao (if err = 0 then bs else []).length cap) (if err = 0 then bs else []) ∧ Step Nil w (inFoot (.slice ao (if err = 0 then bs else []).length cap)) w' := by
  by_cases he : err = 0
  · subst he
    refine (refOut_any w p v bs h hfit).mono ?_
    rintro e w' ⟨ao, cap, -, -, rfl, h1, h2⟩
    exact ⟨ao, cap, rfl, h1, h2⟩
  · rw [if_neg he]
    refine (refOut_err w p v bs err he h).mono ?_
    rintro e w' ⟨rfl, n, rfl⟩
    exact ⟨none, 0, rfl, Own.nil _ _ _, (Ext.refl _ _).drewN n, fun k hk => by simp [inFoot, foot] at hk⟩

theorem Step.wide {F F' G : Nat → Prop} {w w' : World} (h : Ext G w w') (hG : ∀ k, G k → F k ∨ w.heap.size ≤ k) (hF : ∀ k, F' k → F k ∨ w.heap.size ≤ k) : Step F w F' w' :=
  ⟨h.mono fun k hk hg => (hG k hg).resolve_right (by omega), hF⟩

set_option maxHeartbeats 1000000 in
set_option maxRecDepth 20000 in
theorem outs_any (w : World) (p q kb n : Nat) (v u : Value) (bs : List UInt8) (err : Int) (F : Nat → Prop) (hW : WAt w p v bs err) (hQ : RWAt w q u bs err) (hB : Book w kb n F) (hn : n ≤ 4194304) (hfit : Fits (bs.length + 40)) :
    Calls Try.prog 33 #[.pointer (some ⟨p, 0, none⟩), .pointer (some ⟨q, 0, none⟩), .pointer (some ⟨kb, 0, none⟩)] w fun e w' => e = .returned (.bool true) ∧ ∃ F', Book w' kb (n + 1) F' ∧ Step F w F' w' := by
  have hfit' : bs.length + 40 ≤ 1099511627776 := hfit
  have hl : (if err = 0 then bs else []).length ≤ bs.length := by split <;> simp
  have hout := fun (w' : World) (h : WAt w' p v bs err) => out_both w' p v bs err h (by unfold Fits; omega)
  have hout2 := fun (w' : World) (h : RWAt w' q u bs err) => refOut_both w' q u bs err h (by unfold Fits; omega)
  generalize (if err = 0 then bs else []) = L at *
  go_enter Try.func33, Try.ntmps33
  go_wp2_with fail
  refine (hout w hW).mono ?_
  rintro e w1 ⟨ao1, cap1, rfl, ho1, hs1⟩
  have hW1 := hW.ext hs1.1 fun _ _ h => h
  have hQ1 := hQ.ext hs1.1 fun _ _ h => h
  have hB1 := hB.ext hs1.1 fun _ _ h => h
  have hL1 := hB.lt
  clear hW hQ hB
  go_wp2_with fail
  refine (hout w1 hW1).mono ?_
  rintro e w2 ⟨ao2, cap2, rfl, ho2, hs2⟩
  have hQ2 := hQ1.ext hs2.1 fun _ _ h => h
  have hB2 := hB1.ext hs2.1 fun _ _ h => h
  have ho12 := ho1.ext hs2.1 fun _ _ h => h
  have hlt1 := ho1.lt
  have hsep12 : Sep (inFoot (.slice ao1 L.length cap1)) (inFoot (.slice ao2 L.length cap2)) := fun k h1 h2 => by
    have := hlt1 k h1
    have := (hs2.2 k h2).resolve_left fun h => h
    omega
  clear hQ1 hB1 hW1 ho1 hout
  go_wp2_with fail
  refine (hout2 w2 hQ2).mono ?_
  rintro e w3 ⟨ao3, cap3, rfl, ho3, hs3⟩
  have hB3 := hB2.ext hs3.1 fun _ _ h => h
  have ho13 := ho12.ext hs3.1 fun _ _ h => h
  have ho23 := ho2.ext hs3.1 fun _ _ h => h
  have hnew1 : ∀ k, inFoot (.slice ao1 L.length cap1) k → w.heap.size ≤ k := fun k hk => (hs1.2 k hk).resolve_left fun h => h
  have hnew2 : ∀ k, inFoot (.slice ao2 L.length cap2) k → w.heap.size ≤ k := fun k hk => by
    have := (hs2.2 k hk).resolve_left fun h => h
    have := hs1.1.size
    omega
  have hnew3 : ∀ k, inFoot (.slice ao3 L.length cap3) k → w.heap.size ≤ k := fun k hk => by
    have := (hs3.2 k hk).resolve_left fun h => h
    have := hs1.1.size
    have := hs2.1.size
    omega
  have hX3 : Ext Nil w w3 := (hs1.1.same hs2.1).same hs3.1
  have hlt13 := ho13.lt
  clear hQ2 hB2 ho12 ho2 hs1 hs2 hs3 hout2
  go_wp2_with (first
    | (go_at_call 27; refine (num_any _ _).mono ?_; rintro e w' ⟨rfl, rfl⟩))
  refine (same_out ho13.bytes ho3.bytes).mono ?_
  rintro e w4 ⟨rfl, n1, rfl⟩
  go_wp2_with fail
  refine (same_out (ho23.bytes.drewN _) (ho3.bytes.drewN _)).mono ?_
  rintro e w5 ⟨rfl, n2, rfl⟩
  have hE5 : Ext Nil w3 (w3.drewN (n1 + n2)) := (Ext.refl Nil _).drewN (n1 + n2)
  have hB5 := hB3.ext hE5 fun _ _ h => h
  have ho15 := ho13.ext hE5 fun _ _ h => h
  have ho25 := ho23.ext hE5 fun _ _ h => h
  have ho35 := ho3.ext hE5 fun _ _ h => h
  go_wp2_with fail
  refine (note_any _ kb n F hB5 hn _ _ _ L (by unfold Fits; omega) ho15.bytes ho25 ho35.bytes (fun k hk hF => by have := hnew1 k hk; have := hL1 k hF; omega) hsep12 ho15.lt (fun k hk hF => by have := hnew2 k hk; have := hL1 k hF; omega) (fun k hk hF => by have := hnew3 k hk; have := hL1 k hF; omega)).mono ?_
  rintro e w6 ⟨rfl, F', hB6, hX6, hF6⟩
  go_wp2_with fail
  go_ret
  have hsz := (hX3.same hE5).size
  refine ⟨rfl, F', hB6, Step.wide (G := fun k => F k ∨ inFoot (.slice ao2 L.length cap2) k) (((hX3.same hE5).mono fun _ _ h => h.elim).same hX6) (fun k hk => ?_) (fun k hk => ?_)⟩
  · rcases hk with hk | hk
    · exact .inl hk
    · exact .inr (hnew2 k hk)
  · rcases hF6 k hk with h2 | h2 | h2 | h2
    · exact .inl h2
    · exact .inr (hnew1 k h2)
    · exact .inr (hnew2 k h2)
    · exact .inr (by omega)
end Go.Proofs.Ytdgagpoeefbdjaa
