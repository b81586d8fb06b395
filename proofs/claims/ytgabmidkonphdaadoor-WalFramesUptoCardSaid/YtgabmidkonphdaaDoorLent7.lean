/- Contracts of chapter 7's law's small functions: lent, kept. Conditions: what is lent fits into memory. -/
import Derived.Test.YtgabmidkonphdaaDoorLent
namespace Go.Proofs.YtgabmidkonphdaaDoor
open Go.RowKit

theorem lent7_any (w : World) (x : Value) (ys : List UInt8) (hx : Bytes w x ys) (hfit : Fits (ys.length + 2)) :
    Calls Tryd.prog 4 #[x] w fun e w' => ∃ g cap, ys.length + 2 ≤ cap ∧ cap ≤ maxLen ∧ e = .returned (.slice (some ⟨g, 0, none⟩) ys.length cap) ∧
      OwnB w' (.slice (some ⟨g, 0, none⟩) (ys.length + 2) cap) (ys ++ [171, 172]) ∧ Step Nil w (One g) w' := by
  have hfit' : ys.length + 2 ≤ 1099511627776 := hfit
  obtain ⟨ao, cap, rfl, hcap, hmax, hc⟩ := hx.open
  have hsrc := Reads.src (P := Tryd.prog) (hx.alloc (.cells #[] 5 (0, 0))) Tryd.underlying22 (bvs_one ys)
  go_enter Tryd.func4, Tryd.ntmps4
  go_wp2_with (first
    | (at_builtin; refine wpList_append_fresh hsrc (by unfold Fits at *; omega) rfl (.tmp 4) (.tmp 5) rfl rfl rfl ?_; intro ao2 cap2 w2 hc1 hc2 hown hst; have hs2 := Reads.src (P := Tryd.prog) (Bytes.lit w2 [171, 172] 5 (by simp [maxLen])) Tryd.underlying22 (bvs_one _))
    | (at_builtin; refine wpList_append_bytes (OwnB.alloc hown _) hs2 (by unfold Fits at *; simp; omega) rfl (.tmp 7) (.tmp 8) rfl rfl rfl ?_; intro ao3 cap3 w3 hd1 hd2 hown3 hst3; obtain ⟨g, c, cs, hao, hcc, hnn, hA, -⟩ := hown3.head (by simp); subst hao; subst hcc; have hle : (ys.length : Int) ≤ (c : Int) + 1 := by simp at hd1; omega))
  go_ret
  refine ⟨g, c + 1, by simpa using hd1, hd2, rfl, hown3, ?_⟩
  have h := ((step_alloc Nil w _).trans hst).trans ((step_alloc _ _ _).trans hst3)
  exact ⟨h.1, fun k hk => h.2 k (by
    have hk : k = g := hk
    subst hk
    rfl)⟩

theorem kept7_any (w : World) (g cap : Nat) (x : Value) (ys : List UInt8) (hl : OwnB w (.slice (some ⟨g, 0, none⟩) (ys.length + 2) cap) (ys ++ [171, 172])) (hx : Bytes w x ys) (hfit : Fits (ys.length + 2)) :
    Calls Tryd.prog 9 #[.slice (some ⟨g, 0, none⟩) ys.length cap, x] w fun e w' => e = .returned (.bool true) ∧
      OwnB w' (.slice (some ⟨g, 0, none⟩) (ys.length + 2) cap) ((ys ++ [171, 172]).map (~~~ ·)) ∧ Ext (One g) w w' := by
  have hfit' : ys.length + 2 ≤ 1099511627776 := hfit
  obtain ⟨ao, capx, rfl, hcapx, hmaxx, hc⟩ := hx.open
  obtain ⟨g', c, cs, hao, hcap, hn, hA, h1, h2, h3⟩ := hl.head (by simp)
  have hcm : cap ≤ maxLen := by
    obtain ⟨_, _, e, _, h⟩ := Own.shape hl
    simp only [Value.slice.injEq] at e
    omega
  have hB : Bytes w (.slice (some ⟨g, 0, none⟩) ys.length cap) ys := by
    refine ⟨by simp [bvs], _, cap, rfl, by omega, hcm, fun _ => ⟨g, 0, rfl, fun j u hj => ?_⟩⟩
    have hj' : j < ys.length := by
      have := (List.getElem?_eq_some_iff.1 hj).1
      simpa [bvs] using this
    have h4 := (hl.at j (by simp; omega)).1
    rw [Nat.zero_add, h4, ← hj]
    simp [bvs, bv, hj', List.getElem_append_left hj']
  have hle : (ys.length : Int) + 2 ≤ (cap : Int) := by simp at hn; omega
  have a0 := (hl.at ys.length (by simp)).1
  have a1 := (hl.at (ys.length + 1) (by simp)).1
  simp at a0 a1
  clear hA h1 h2 h3 hc hn hcap hao
  go_enter Tryd.func9, Tryd.ntmps9
  go_wp2_with (go_at_call 8; refine (same_any ys ys w _ _ hB hx).mono ?_; rintro e w' ⟨rfl, nn, rfl⟩)
  go_loopw [8] (fun i wr => ∃ k : Nat, k ≤ ys.length + 2 ∧ i = .int .i64 k ∧ OwnB wr (.slice (some ⟨g, 0, none⟩) (ys.length + 2) cap) (((ys ++ [171, 172]).take k).map (~~~ ·) ++ (ys ++ [171, 172]).drop k) ∧ Ext (One g) w wr) (fun i _ => ys.length + 2 - (intOf i).toNat)
  case atStart => exact ⟨0, Nat.zero_le _, rfl, by simpa using hl.drewN nn, ⟨rfl, rfl, rfl, Nat.le_refl _, fun _ _ _ => rfl⟩⟩
  case round =>
    obtain ⟨k, hk, rfl, hown, hS⟩ := hrel
    clear a0 a1
    generalize hL : ys ++ [171, 172] = L at *
    have hLl : L.length = ys.length + 2 := by rw [← hL]; simp
    by_cases hlt : k < ys.length + 2
    · have hkl : k < L.length := by omega
      have hat := hown.at k (by simp; omega)
      have c1 := hat.1
      have f1 := hat.2
      rw [negs_at L k hkl] at c1
      have HL := Lib.hid hLl
      have HL2 := Lib.hid hL
      clear hLl hL hat
      go_wp2
      rw [not_byte]
      refine ⟨⟨k + 1, by omega, by go_num, ?_, hS.setCell (p := ⟨g, k, none⟩) (fun _ => rfl) _⟩, by simp [intOf]; omega⟩
      have h := hown.store k (by simp; omega) (~~~ L[k])
      rw [negs_set L k hkl] at h
      exact h
    · go_wp2
      go_ret
      refine ⟨rfl, ?_, hS⟩
      rw [hL]
      rw [List.take_of_length_le (by omega), List.drop_of_length_le (by omega), List.append_nil] at hown
      exact hown
end Go.Proofs.YtgabmidkonphdaaDoor
