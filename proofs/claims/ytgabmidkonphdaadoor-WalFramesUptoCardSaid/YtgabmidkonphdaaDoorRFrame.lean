/- The contract of the document's Frame (chapter 7). Condition: the record is no longer than is let in. -/
import Derived.Test.YtgabmidkonphdaaDoorChk
import Derived.Test.YtgabmidkonphdaaDoorLent
namespace Go.Proofs.YtgabmidkonphdaaDoor
open Go.RowKit

def chkB (l : List UInt8) : Nat := crcAll 4294967295 l ^^^ 4294967295
theorem chkB_lt (l : List UInt8) : chkB l < 4294967296 := xor_lt32 (crcAll_lt l (by omega)) (by omega)
def headB (l : List UInt8) : List UInt8 := [167] ++ le 4 l.length
def frameB (l : List UInt8) : List UInt8 := headB l ++ le 4 (chkB (headB l)) ++ l ++ le 4 (chkB l)

theorem headB_length (l : List UInt8) : (headB l).length = 5 := by unfold headB; rw [List.length_append, le_length]; rfl
theorem frameB_length (l : List UInt8) : (frameB l).length = l.length + 13 := by unfold frameB; simp only [List.length_append, le_length, headB_length]; omega

/-- append of bytes onto a row of bytes, the outcome under a name -/
theorem wpList_append_to {ops : Array Oper} {rest : List Oper} {o : Oper} {a : Act} {Q : Exit → Act → World → Prop} {w : World} {v : Value} {l m : List UInt8} (hown : OwnB w v l) {vx : Value}
    (hm : Bytes w vx m) (R : List UInt8) (hR : l ++ m = R) (hfit : Fits R.length) (hgd : o.guard = none) (s x : Operand)
    (ho : o.op = .call { callee := .builtin .append, args := #[s, x], argTypes := #[22, 22] }) (hs : a.eval s = v) (hx : a.eval x = vx)
    (h : ∀ ao cap w', R.length ≤ cap → cap ≤ maxLen → OwnB w' (.slice ao R.length cap) R → Step (inFoot v) w (inFoot (.slice ao R.length cap)) w' →
      wpList Tryd.prog ops Q rest (a.put o.dst (.slice ao R.length cap)) w') : wpList Tryd.prog ops Q (o :: rest) a w := by
  subst hR
  rw [List.length_append] at hfit h
  exact wpList_append_bytes hown (Reads.src (P := Tryd.prog) hm Tryd.underlying22 (bvs_one m)) hfit hgd s x ho hs hx h

theorem refChk_any (w : World) (x : Value) (l : List UInt8) (hx : Bytes w x l) : Calls Tryd.prog 18 #[x] w fun e w' => e = .returned (.int .u32 ((chkB l : Nat) : Int)) ∧ ∃ n, w' = w.drewN n := refCheck_any w x l hx

theorem refFrame_big (w : World) (x : Value) (l : List UInt8) (hx : Bytes w x l) (hl : 262400 < l.length) :
    Calls Tryd.prog 6 #[x] w fun e w' => e = .returned (.tuple #[.slice none 0 0, .int .i64 4]) ∧ w = w' := by
  obtain ⟨ao, cap, rfl, hcap, hmax, -⟩ := hx.open
  unfold maxLen at hmax
  have hl0 : (262400 : Int) < l.length := by omega
  go_enter Tryd.func6, Tryd.ntmps6
  go_wp2
  go_ret2
  exact ⟨rfl, rfl⟩

set_option maxRecDepth 20000 in
theorem refFrame_any (w : World) (x : Value) (l : List UInt8) (hx : Bytes w x l) (hl : l.length ≤ 262400) :
    Calls Tryd.prog 6 #[x] w fun e w' => ∃ ao cap, e = .returned (.tuple #[.slice ao (frameB l).length cap, .int .i64 0]) ∧ OwnB w' (.slice ao (frameB l).length cap) (frameB l) ∧ Step Nil w (inFoot (.slice ao (frameB l).length cap)) w' := by
  obtain ⟨ao, cap, rfl, hcap, hmax, -⟩ := hx.open
  have hown := OwnB.one w (n := 167) (by omega) (by omega)
  rw [show [toB 167] = [(167 : UInt8)] from rfl] at hown
  have hx0 := hx.alloc (.cells #[.int .u8 167] 5 (0, 0))
  have hl0 : (l.length : Int) ≤ 262400 := by omega
  have hE := Lib.hid (show headB l ++ le 4 (chkB (headB l)) ++ l ++ le 4 (chkB l) = frameB l from rfl)
  have hH := Lib.hid (show [(167 : UInt8)] ++ le 4 l.length = headB l from rfl)
  have hhl := Lib.hid (headB_length l)
  have hfF : Fits (frameB l).length := by rw [frameB_length]; unfold Fits; omega
  have hc1 := chkB_lt (headB l)
  have hc2 := chkB_lt l
  go_enter Tryd.func6, Tryd.ntmps6
  go_wp2_with fail
  refine (refU32_any _ l.length (by omega)).mono ?_
  rintro e w1 ⟨ao1, cap1, -, -, rfl, o1, s1⟩
  have ow1 := hown.ext s1.1 fun _ _ h => h
  have hx1 := hx0.ext s1.1 fun _ _ h => h
  generalize le 4 l.length = m1 at *
  go_wp2_with (at_builtin; refine wpList_append_to ow1 o1.bytes (headB l) hH.out (by rw [hhl.out]; unfold Fits; omega) rfl _ _ rfl rfl rfl ?_; intro ao2 cap2 w2 q1 q2 o2 s2)
  have T2 := ((Step.fresh w (.cells #[.int .u8 167] 5 (0, 0)) 1 1).trans (step_any_nil s1.1)).trans s2
  refine (refChk_any w2 _ _ o2.bytes).mono ?_
  rintro e w3 ⟨rfl, n3, rfl⟩
  go_wp2_with fail
  refine (refU32_any _ (chkB (headB l)) hc1).mono ?_
  rintro e w4 ⟨ao4, cap4, -, -, rfl, o4, s4⟩
  have h4m2 := le_length 4 (chkB (headB l))
  generalize le 4 (chkB (headB l)) = m2 at *
  have H4 := Lib.hid h4m2
  clear h4m2
  have o2' := (o2.drewN n3).ext s4.1 fun _ _ h => h
  have hlen5 : (headB l ++ m2).length ≤ 1000 + 5 := by
    rw [List.length_append, hhl.out]
    have h4 : m2.length = 4 := H4.out
    omega
  have hf5 : Fits (headB l ++ m2).length := by unfold Fits; omega
  have HB : ∃ B3, headB l ++ m2 = B3 := ⟨_, rfl⟩
  obtain ⟨B3, hB3⟩ := HB
  rw [hB3] at hlen5 hf5 hE
  have HB3 := Lib.hid hB3
  clear hB3
  have hf6 : Fits (B3 ++ l).length := by rw [List.length_append]; unfold Fits; omega
  obtain ⟨B4, hB4⟩ : ∃ B4, B3 ++ l = B4 := ⟨_, rfl⟩
  rw [hB4] at hf6 hE
  have HB4 := Lib.hid hB4
  clear hB4
  have T4 := T2.trans (step_any_nil (((Ext.refl Nil w2).drewN n3).same s4.1))
  go_wp2_with (first
    | (at_builtin; refine wpList_append_to o2' o4.bytes B3 HB3.out hf5 rfl _ _ rfl rfl rfl ?_; intro ao5 cap5 w5 q3 q4 o5 s5; have T5 := T4.trans s5; have hx5 := hx.ext T5.1 fun _ _ h => h)
    | (at_builtin; refine wpList_append_to o5 hx5 B4 HB4.out hf6 rfl _ _ rfl rfl rfl ?_; intro ao6 cap6 w6 q5 q6 o6 s6))
  have T6 := T5.trans s6
  have hx6 := hx.ext T6.1 fun _ _ h => h
  refine (refChk_any w6 _ _ hx6).mono ?_
  rintro e w7 ⟨rfl, n7, rfl⟩
  go_wp2_with fail
  refine (refU32_any _ (chkB l) hc2).mono ?_
  rintro e w8 ⟨ao8, cap8, -, -, rfl, o8, s8⟩
  have o6' := (o6.drewN n7).ext s8.1 fun _ _ h => h
  generalize le 4 (chkB l) = m3 at *
  go_wp2_with (at_builtin; refine wpList_append_to o6' o8.bytes (frameB l) hE.out hfF rfl _ _ rfl rfl rfl ?_; intro ao9 cap9 w9 q7 q8 o9 s9)
  go_ret2
  have T9 := (T6.trans (step_any_nil (((Ext.refl Nil w6).drewN n7).same s8.1))).trans s9
  exact ⟨ao9, cap9, rfl, o9, T9⟩
end Go.Proofs.YtgabmidkonphdaaDoor
