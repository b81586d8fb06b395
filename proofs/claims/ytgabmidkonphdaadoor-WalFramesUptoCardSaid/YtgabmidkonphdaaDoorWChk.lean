/- The contract of wal.check (chapter 7), by the table of sixteen. Conditions: the bytes can be read; the table's cells hold what its initialiser lays. -/
import Derived.Test.YtgabmidkonphdaaDoorChk
import Derived.Test.YtgabmidkonphdaaDoorLent
namespace Go.Proofs.YtgabmidkonphdaaDoor
open Go.RowKit

/-- the table's cells -/
def TabAt (w : World) : Prop := ∀ i, i < 16 → w.cell? ⟨0, i, none⟩ = some (.int .u32 ((crcTab[i]! : Nat) : Int))
theorem TabAt.drewN {w : World} (h : TabAt w) (n : Nat) : TabAt (w.drewN n) := fun i hi => ((Ext.refl Nil w).drewN n).cell (h i hi) fun h => h
theorem TabAt.ext {F : Nat → Prop} {w w' : World} (h : TabAt w) (e : Ext F w w') (hF : ¬ F 0) : TabAt w' := fun i hi => e.cell (h i hi) hF
theorem tab_lt : ∀ i : Fin 16, crcTab[i.val]! < 4294967296 := by decide
theorem crc8 (v c : Nat) : crcIt 8 (v ^^^ c) = ((v ^^^ c) / 16 ^^^ crcTab[(v ^^^ c) % 16]!) / 16 ^^^ crcTab[((v ^^^ c) / 16 ^^^ crcTab[(v ^^^ c) % 16]!) % 16]! := crc_byte v c
theorem and15 (y : Nat) (hy : y < 4294967296) : bits .and .u32 (y : Int) 15 = ((y % 16 : Nat) : Int) := by
  have h := Go.u32_and_nat y 15 hy (by omega)
  have e : y &&& 15 = y % 16 := Nat.and_two_pow_sub_one_eq_mod y 4
  rw [e] at h
  exact h

set_option maxRecDepth 20000 in
theorem check_any (w : World) (x : Value) (l : List UInt8) (hx : Bytes w x l) (hT : TabAt w) : Calls Tryd.prog 15 #[x] w fun e w' => e = .returned (.int .u32 ((crcAll 4294967295 l ^^^ 4294967295 : Nat) : Int)) ∧ ∃ n, w' = w.drewN n := by
  obtain ⟨ao, cap, rfl, hcap, hmax, hc⟩ := hx.open
  unfold maxLen at hmax
  go_enter Tryd.func15, Tryd.ntmps15
  go_wp2_with fail
  go_loopw [3, 8] (fun r i wr => ∃ k : Nat, k ≤ l.length ∧ r = .int .u32 (crcAll 4294967295 (l.take k) : Nat) ∧ i = .int .i64 k ∧ ∃ n, wr = w.drewN n) (fun _ i _ => l.length - (intOf i).toNat)
  case atStart => exact ⟨0, Nat.zero_le _, rfl, rfl, 0, rfl⟩
  case round =>
    obtain ⟨k, hk, rfl, rfl, n, rfl⟩ := hrel
    have hv := crcAll_lt (l.take k) (v := 4294967295) (by omega)
    by_cases hlt : k < l.length
    · obtain ⟨b, off, rfl, hcl⟩ := hc (by intro e; subst e; simp at hlt)
      have gx := hcl k hlt
      have hnext : crcAll 4294967295 (l.take (k + 1)) = crcIt 8 (crcAll 4294967295 (l.take k) ^^^ l[k].toNat) := by
        unfold crcAll
        rw [List.take_succ_eq_append_getElem hlt, List.foldl_append]
        rfl
      have hb := (l[k]).toNat_lt
      rw [crc8] at hnext
      generalize l[k] = c at *
      generalize crcAll 4294967295 (l.take k) = v at *
      have hvx := xor_lt32 hv (show c.toNat < 4294967296 by omega)
      have hx32 := Go.u32_xor_nat v c.toNat hv (by omega)
      generalize v ^^^ c.toNat = y at *
      have ht1 := hT (y % 16) (by omega)
      have ha1 := and15 y hvx
      have hl1 := tab_lt ⟨y % 16, by omega⟩
      simp only at hl1
      generalize crcTab[y % 16]! = t1 at *
      have hy2 := xor_lt32 (a := y / 16) (by omega) hl1
      have hx2 : bits .xor .u32 ((y : Int) / 16) (t1 : Int) = ((y / 16 ^^^ t1 : Nat) : Int) := Go.u32_xor_nat (y / 16) t1 (by omega) hl1
      generalize y / 16 ^^^ t1 = z at *
      have ht2 := hT (z % 16) (by omega)
      have ha2 := and15 z hy2
      have hl2 := tab_lt ⟨z % 16, by omega⟩
      simp only at hl2
      generalize crcTab[z % 16]! = t2 at *
      have hx3 : bits .xor .u32 ((z : Int) / 16) (t2 : Int) = ((z / 16 ^^^ t2 : Nat) : Int) := Go.u32_xor_nat (z / 16) t2 (by omega) hl2
      generalize z / 16 ^^^ t2 = u at *
      have HN := Lib.hid hnext
      have hy15 : y % 16 < 16 := by omega
      have hz15 : z % 16 < 16 := by omega
      clear hnext hcl hc hT
      go_wp2_with fail
      exact ⟨⟨k + 1, by omega, by rw [HN.out], by go_num, n, rfl⟩, by simp [intOf]; omega⟩
    · obtain rfl : k = l.length := by omega
      rw [List.take_length] at hv ⊢
      have hx3 : bits BinOp.xor IntKind.u32 IntKind.u32.max ((crcAll 4294967295 l : Nat) : Int) = ((crcAll 4294967295 l ^^^ 4294967295 : Nat) : Int) := by
        have h := Go.u32_xor_nat 4294967295 (crcAll 4294967295 l) (by omega) hv
        rw [Nat.xor_comm] at h
        exact h
      clear hT hc
      generalize hA : crcAll 4294967295 l = v at *
      have HX := Lib.hid hx3
      have HA := Lib.hid hA
      clear hx3 hA
      go_wp2_with fail
      go_ret
      exact ⟨ret_int (by rw [HA.out]; exact HX.out), n, rfl⟩
end Go.Proofs.YtgabmidkonphdaaDoor
